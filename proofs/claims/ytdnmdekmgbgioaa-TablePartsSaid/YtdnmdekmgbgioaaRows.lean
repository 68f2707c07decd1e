/-
  No cell of these rows narrows 'for every input' (looked for: loops, veiled, ifaces, maps, wideKeys, modest, calm, conditions, laid).
  DERIVED. THE GIVEN ROWS OF THIS SEAT. 5 by the template 'for every input the law returns true; each argument reads behind the call as it read before'; 0 by the template 'total and deterministic' (their statements: YtdnmdekmgbgioaaTotals.lean).
  GIVEN WITH THE SEED: the statements are not yours to turn. If you find one false, say at which input.
  Laid BY PROGRAM, IN A SANDBOX (cutbox-rows.mjs): the forced cells as the released guide's own fill.sh prints them over the translation d408c06ca4d66efc… (all of the seat's roots in one cut). By AI agents, Wed Nov 11 2026. No macro, syntax, notation, axiom, sorry.
-/
import Derived.Test.YtdnmdekmgbgioaaChecked
import GoSem.Claim
import GoSem.ClaimJoined
import GoSem.ClaimMapViews
import Derived.JoinedTies
import Derived.KernelRfl
namespace Go.Proofs.Ytdnmdekmgbgioaa
/- THE CELL 'sum', in the pinned program and in every row, IS THE sha256 OF THE DUMP (.gsa) THAT YtdnmdekmgbgioaaProg.lean LOADS. Nothing in Lean hashes anything: it is a label: what it is worth is what the hold of that sum in a sandbox is worth. -/
noncomputable def Try.pinned : Pinned := { name := "ytdnmdekmgbgioaa", sum := "d408c06ca4d66efc1cf03f07a7993f9d4bbe113e63bc6dda5fe688d4405839d9", checked := Try.checked }
namespace Rows
def none {H : Type} : Left H := { results := [], args := [] }

/-- 'weirlaw6.WindowLayers': WHATEVER THE INPUT: true; the input reads as it did. -/
def windowLayersSpec : ChangeSpec := { name := "windowLayers", fn := fun _ => fun
  | [d1, d2, d3] => { results := [.lit (.bool true)], args := [d1, d2, d3] }
  | _ => none }
def windowLayersRow : OpenClaim := { program := "ytdnmdekmgbgioaa", sum := "d408c06ca4d66efc1cf03f07a7993f9d4bbe113e63bc6dda5fe688d4405839d9", func := "weirgate/weirlaw6.WindowLayers", spec := "windowLayers", unfollowed := true, recurses := true, plainKeys := false, apart := false }
def WindowLayersSaid : Prop := windowLayersRow.holds Try.pinned (OpenSpec.ofChange windowLayersSpec)

/-- ITS FALSE NEIGHBOUR: 'it returns false'. Refute it at one input. -/
def windowLayersWrong : ChangeSpec := { name := "windowLayers", fn := fun _ => fun
  | [d1, d2, d3] => { results := [.lit (.bool false)], args := [d1, d2, d3] }
  | _ => none }
def WindowLayersWrongFalsely : Prop := windowLayersRow.holds Try.pinned (OpenSpec.ofChange windowLayersWrong)

/-- 'weirlaw6.KeyedLast': WHATEVER THE INPUT: true; the input reads as it did. -/
def keyedLastSpec : ChangeSpec := { name := "keyedLast", fn := fun _ => fun
  | [d] => { results := [.lit (.bool true)], args := [d] }
  | _ => none }
def keyedLastRow : OpenClaim := { program := "ytdnmdekmgbgioaa", sum := "d408c06ca4d66efc1cf03f07a7993f9d4bbe113e63bc6dda5fe688d4405839d9", func := "weirgate/weirlaw6.KeyedLast", spec := "keyedLast", unfollowed := true, recurses := true, plainKeys := false, apart := false }
def KeyedLastSaid : Prop := keyedLastRow.holds Try.pinned (OpenSpec.ofChange keyedLastSpec)

/-- ITS FALSE NEIGHBOUR: 'it returns false'. Refute it at one input. -/
def keyedLastWrong : ChangeSpec := { name := "keyedLast", fn := fun _ => fun
  | [d] => { results := [.lit (.bool false)], args := [d] }
  | _ => none }
def KeyedLastWrongFalsely : Prop := keyedLastRow.holds Try.pinned (OpenSpec.ofChange keyedLastWrong)

/-- 'weirlaw6.WindowShifts': WHATEVER THE INPUT: true; the input reads as it did. -/
def windowShiftsSpec : ChangeSpec := { name := "windowShifts", fn := fun _ => fun
  | [d1, d2, d3] => { results := [.lit (.bool true)], args := [d1, d2, d3] }
  | _ => none }
def windowShiftsRow : OpenClaim := { program := "ytdnmdekmgbgioaa", sum := "d408c06ca4d66efc1cf03f07a7993f9d4bbe113e63bc6dda5fe688d4405839d9", func := "weirgate/weirlaw6.WindowShifts", spec := "windowShifts", unfollowed := true, recurses := true, plainKeys := false, apart := false }
def WindowShiftsSaid : Prop := windowShiftsRow.holds Try.pinned (OpenSpec.ofChange windowShiftsSpec)

/-- ITS FALSE NEIGHBOUR: 'it returns false'. Refute it at one input. -/
def windowShiftsWrong : ChangeSpec := { name := "windowShifts", fn := fun _ => fun
  | [d1, d2, d3] => { results := [.lit (.bool false)], args := [d1, d2, d3] }
  | _ => none }
def WindowShiftsWrongFalsely : Prop := windowShiftsRow.holds Try.pinned (OpenSpec.ofChange windowShiftsWrong)

/-- 'weirlaw6.TableParts': WHATEVER THE INPUT: true; the input reads as it did. -/
def tablePartsSpec : ChangeSpec := { name := "tableParts", fn := fun _ => fun
  | [d1, d2] => { results := [.lit (.bool true)], args := [d1, d2] }
  | _ => none }
def tablePartsRow : OpenClaim := { program := "ytdnmdekmgbgioaa", sum := "d408c06ca4d66efc1cf03f07a7993f9d4bbe113e63bc6dda5fe688d4405839d9", func := "weirgate/weirlaw6.TableParts", spec := "tableParts", inPlace := ["internal/bytealg.abigen_runtime_cmpstring"], unfollowed := true, recurses := true, plainKeys := false, apart := false }
def TablePartsSaid : Prop := tablePartsRow.holds Try.pinned (OpenSpec.ofChange tablePartsSpec)

/-- ITS FALSE NEIGHBOUR: 'it returns false'. Refute it at one input. -/
def tablePartsWrong : ChangeSpec := { name := "tableParts", fn := fun _ => fun
  | [d1, d2] => { results := [.lit (.bool false)], args := [d1, d2] }
  | _ => none }
def TablePartsWrongFalsely : Prop := tablePartsRow.holds Try.pinned (OpenSpec.ofChange tablePartsWrong)

/-- 'weirlaw6.AuditSums': WHATEVER THE INPUT: true; the input reads as it did. -/
def auditSumsSpec : ChangeSpec := { name := "auditSums", fn := fun _ => fun
  | [d1, d2, d3] => { results := [.lit (.bool true)], args := [d1, d2, d3] }
  | _ => none }
def auditSumsRow : OpenClaim := { program := "ytdnmdekmgbgioaa", sum := "d408c06ca4d66efc1cf03f07a7993f9d4bbe113e63bc6dda5fe688d4405839d9", func := "weirgate/weirlaw6.AuditSums", spec := "auditSums", inPlace := ["internal/bytealg.abigen_runtime_cmpstring"], unfollowed := true, recurses := true, plainKeys := false, apart := false }
def AuditSumsSaid : Prop := auditSumsRow.holds Try.pinned (OpenSpec.ofChange auditSumsSpec)

/-- ITS FALSE NEIGHBOUR: 'it returns false'. Refute it at one input. -/
def auditSumsWrong : ChangeSpec := { name := "auditSums", fn := fun _ => fun
  | [d1, d2, d3] => { results := [.lit (.bool false)], args := [d1, d2, d3] }
  | _ => none }
def AuditSumsWrongFalsely : Prop := auditSumsRow.holds Try.pinned (OpenSpec.ofChange auditSumsWrong)

/- THE SECOND FORM. 'bulk': how many values and letters a reading holds, each counted each time it is reached (what is shared counts as often as it is met; a slice's spare places count too). A statement '..UptoSaid' is the law's where the arguments, and the package variables that the reading takes, are together of bulk at most 1048576: NARROWER than '..Said'. Prove '..Said' where nothing that the law and all that it calls make is longer than what came in: it says more and counts as full. Else prove '..UptoSaid'. A law counts once. -/
mutual
def uptoBulk {H : Type} : DataW H → Nat
  | .lit (.string bytes) => bytes.length + 1
  | .lit _ => 1
  | .nil => 1
  | .ptr d => uptoBulk d + 1
  | .slice elems spare => uptoBulkAll elems + uptoBulkAll spare + 1
  | .agg parts => uptoBulkAll parts + 1
  | .iface _ d => uptoBulk d + 1
  | .map entries => uptoBulkEntries entries + 1
  | .held _ => 1
def uptoBulkAll {H : Type} : List (DataW H) → Nat
  | [] => 0
  | d :: r => uptoBulk d + uptoBulkAll r
def uptoBulkEntries {H : Type} : List (Lit × DataW H) → Nat
  | [] => 0
  | x :: r => uptoBulkEntry x + uptoBulkEntries r
def uptoBulkEntry {H : Type} : Lit × DataW H → Nat
  | (.string bytes, d) => bytes.length + uptoBulk d + 1
  | (_, d) => uptoBulk d + 1
 end
def uptoSmall : (H : Type) → List (DataW H) → Bool := fun _ ds => decide (uptoBulkAll ds ≤ 1048576)
def OpenSpec.upto (s : _root_.Go.ChangeSpec) : _root_.Go.OpenSpec := { _root_.Go.OpenSpec.ofChange s with cond := some uptoSmall }

/-- 'weirlaw6.WindowLayers', WHERE WHAT IT READS IS OF BULK AT MOST 1048576: true; the input reads as it did. -/
def windowLayersUptoRow : OpenClaim := { program := "ytdnmdekmgbgioaa", sum := "d408c06ca4d66efc1cf03f07a7993f9d4bbe113e63bc6dda5fe688d4405839d9", func := "weirgate/weirlaw6.WindowLayers", spec := "windowLayers", unfollowed := true, recurses := true, plainKeys := false, apart := false, narrowed := true }
def WindowLayersUptoSaid : Prop := windowLayersUptoRow.holds Try.pinned (OpenSpec.upto windowLayersSpec)

/-- 'weirlaw6.KeyedLast', WHERE WHAT IT READS IS OF BULK AT MOST 1048576: true; the input reads as it did. -/
def keyedLastUptoRow : OpenClaim := { program := "ytdnmdekmgbgioaa", sum := "d408c06ca4d66efc1cf03f07a7993f9d4bbe113e63bc6dda5fe688d4405839d9", func := "weirgate/weirlaw6.KeyedLast", spec := "keyedLast", unfollowed := true, recurses := true, plainKeys := false, apart := false, narrowed := true }
def KeyedLastUptoSaid : Prop := keyedLastUptoRow.holds Try.pinned (OpenSpec.upto keyedLastSpec)

/-- 'weirlaw6.WindowShifts', WHERE WHAT IT READS IS OF BULK AT MOST 1048576: true; the input reads as it did. -/
def windowShiftsUptoRow : OpenClaim := { program := "ytdnmdekmgbgioaa", sum := "d408c06ca4d66efc1cf03f07a7993f9d4bbe113e63bc6dda5fe688d4405839d9", func := "weirgate/weirlaw6.WindowShifts", spec := "windowShifts", unfollowed := true, recurses := true, plainKeys := false, apart := false, narrowed := true }
def WindowShiftsUptoSaid : Prop := windowShiftsUptoRow.holds Try.pinned (OpenSpec.upto windowShiftsSpec)

/-- 'weirlaw6.TableParts', WHERE WHAT IT READS IS OF BULK AT MOST 1048576: true; the input reads as it did. -/
def tablePartsUptoRow : OpenClaim := { program := "ytdnmdekmgbgioaa", sum := "d408c06ca4d66efc1cf03f07a7993f9d4bbe113e63bc6dda5fe688d4405839d9", func := "weirgate/weirlaw6.TableParts", spec := "tableParts", inPlace := ["internal/bytealg.abigen_runtime_cmpstring"], unfollowed := true, recurses := true, plainKeys := false, apart := false, narrowed := true }
def TablePartsUptoSaid : Prop := tablePartsUptoRow.holds Try.pinned (OpenSpec.upto tablePartsSpec)

/-- 'weirlaw6.AuditSums', WHERE WHAT IT READS IS OF BULK AT MOST 1048576: true; the input reads as it did. -/
def auditSumsUptoRow : OpenClaim := { program := "ytdnmdekmgbgioaa", sum := "d408c06ca4d66efc1cf03f07a7993f9d4bbe113e63bc6dda5fe688d4405839d9", func := "weirgate/weirlaw6.AuditSums", spec := "auditSums", inPlace := ["internal/bytealg.abigen_runtime_cmpstring"], unfollowed := true, recurses := true, plainKeys := false, apart := false, narrowed := true }
def AuditSumsUptoSaid : Prop := auditSumsUptoRow.holds Try.pinned (OpenSpec.upto auditSumsSpec)

end Rows
end Go.Proofs.Ytdnmdekmgbgioaa
