/-
  No cell of these rows narrows 'for every input' (looked for: loops, veiled, ifaces, maps, wideKeys, modest, calm, conditions, laid).
  DERIVED. THE GIVEN ROWS OF THIS SEAT. 11 by the template 'for every input the law returns true; each argument reads behind the call as it read before'; 0 by the template 'total and deterministic' (their statements: YtggihfllbfbbgaaTotals.lean).
  GIVEN WITH THE SEED: the statements are not yours to turn. If you find one false, say at which input.
  Laid BY PROGRAM, IN A SANDBOX (cutbox-rows.mjs): the forced cells as the released guide's own fill.sh prints them over the translation b34a723a1e04f4bd… (all of the seat's roots in one cut). By AI agents, Wed Nov 11 2026. No macro, syntax, notation, axiom, sorry.
-/
import Derived.Test.YtggihfllbfbbgaaChecked
import GoSem.Claim
import GoSem.ClaimJoined
import GoSem.ClaimMapViews
import Derived.JoinedTies
import Derived.KernelRfl
namespace Go.Proofs.Ytggihfllbfbbgaa
/- THE CELL 'sum', in the pinned program and in every row, IS THE sha256 OF THE DUMP (.gsa) THAT YtggihfllbfbbgaaProg.lean LOADS. Nothing in Lean hashes anything: it is a label: what it is worth is what the hold of that sum in a sandbox is worth. -/
noncomputable def Try.pinned : Pinned := { name := "ytggihfllbfbbgaa", sum := "b34a723a1e04f4bdd188244e5e5f26995fe17bb8ccabd48809abde2414db094d", checked := Try.checked }
namespace Rows
def none {H : Type} : Left H := { results := [], args := [] }

/-- 'weirlaw6.GroupNests': WHATEVER THE INPUT: true; the input reads as it did. -/
def groupNestsSpec : ChangeSpec := { name := "groupNests", fn := fun _ => fun
  | [d1, d2] => { results := [.lit (.bool true)], args := [d1, d2] }
  | _ => none }
def groupNestsRow : OpenClaim := { program := "ytggihfllbfbbgaa", sum := "b34a723a1e04f4bdd188244e5e5f26995fe17bb8ccabd48809abde2414db094d", func := "weirgate/weirlaw6.GroupNests", spec := "groupNests", apart := false }
def GroupNestsSaid : Prop := groupNestsRow.holds Try.pinned (OpenSpec.ofChange groupNestsSpec)

/-- ITS FALSE NEIGHBOUR: 'it returns false'. Refute it at one input. -/
def groupNestsWrong : ChangeSpec := { name := "groupNests", fn := fun _ => fun
  | [d1, d2] => { results := [.lit (.bool false)], args := [d1, d2] }
  | _ => none }
def GroupNestsWrongFalsely : Prop := groupNestsRow.holds Try.pinned (OpenSpec.ofChange groupNestsWrong)

/-- 'weirlaw6.FrameShort': WHATEVER THE INPUT: true; the input reads as it did. -/
def frameShortSpec : ChangeSpec := { name := "frameShort", fn := fun _ => fun
  | [d1, d2, d3] => { results := [.lit (.bool true)], args := [d1, d2, d3] }
  | _ => none }
def frameShortRow : OpenClaim := { program := "ytggihfllbfbbgaa", sum := "b34a723a1e04f4bdd188244e5e5f26995fe17bb8ccabd48809abde2414db094d", func := "weirgate/weirlaw6.FrameShort", spec := "frameShort", apart := false }
def FrameShortSaid : Prop := frameShortRow.holds Try.pinned (OpenSpec.ofChange frameShortSpec)

/-- ITS FALSE NEIGHBOUR: 'it returns false'. Refute it at one input. -/
def frameShortWrong : ChangeSpec := { name := "frameShort", fn := fun _ => fun
  | [d1, d2, d3] => { results := [.lit (.bool false)], args := [d1, d2, d3] }
  | _ => none }
def FrameShortWrongFalsely : Prop := frameShortRow.holds Try.pinned (OpenSpec.ofChange frameShortWrong)

/-- 'weirlaw6.SpreadBack': WHATEVER THE INPUT: true; the input reads as it did. -/
def spreadBackSpec : ChangeSpec := { name := "spreadBack", fn := fun _ => fun
  | [d1, d2] => { results := [.lit (.bool true)], args := [d1, d2] }
  | _ => none }
def spreadBackRow : OpenClaim := { program := "ytggihfllbfbbgaa", sum := "b34a723a1e04f4bdd188244e5e5f26995fe17bb8ccabd48809abde2414db094d", func := "weirgate/weirlaw6.SpreadBack", spec := "spreadBack", apart := false }
def SpreadBackSaid : Prop := spreadBackRow.holds Try.pinned (OpenSpec.ofChange spreadBackSpec)

/-- ITS FALSE NEIGHBOUR: 'it returns false'. Refute it at one input. -/
def spreadBackWrong : ChangeSpec := { name := "spreadBack", fn := fun _ => fun
  | [d1, d2] => { results := [.lit (.bool false)], args := [d1, d2] }
  | _ => none }
def SpreadBackWrongFalsely : Prop := spreadBackRow.holds Try.pinned (OpenSpec.ofChange spreadBackWrong)

/-- 'weirlaw1.GroupParts': WHATEVER THE INPUT: true; the input reads as it did. -/
def groupPartsSpec : ChangeSpec := { name := "groupParts", fn := fun _ => fun
  | [d1, d2] => { results := [.lit (.bool true)], args := [d1, d2] }
  | _ => none }
def groupPartsRow : OpenClaim := { program := "ytggihfllbfbbgaa", sum := "b34a723a1e04f4bdd188244e5e5f26995fe17bb8ccabd48809abde2414db094d", func := "weirgate/weirlaw1.GroupParts", spec := "groupParts", apart := false }
def GroupPartsSaid : Prop := groupPartsRow.holds Try.pinned (OpenSpec.ofChange groupPartsSpec)

/-- ITS FALSE NEIGHBOUR: 'it returns false'. Refute it at one input. -/
def groupPartsWrong : ChangeSpec := { name := "groupParts", fn := fun _ => fun
  | [d1, d2] => { results := [.lit (.bool false)], args := [d1, d2] }
  | _ => none }
def GroupPartsWrongFalsely : Prop := groupPartsRow.holds Try.pinned (OpenSpec.ofChange groupPartsWrong)

/-- 'weirlaw1.GroupMoves': WHATEVER THE INPUT: true; the input reads as it did. -/
def groupMovesSpec : ChangeSpec := { name := "groupMoves", fn := fun _ => fun
  | [d1, d2] => { results := [.lit (.bool true)], args := [d1, d2] }
  | _ => none }
def groupMovesRow : OpenClaim := { program := "ytggihfllbfbbgaa", sum := "b34a723a1e04f4bdd188244e5e5f26995fe17bb8ccabd48809abde2414db094d", func := "weirgate/weirlaw1.GroupMoves", spec := "groupMoves", apart := false }
def GroupMovesSaid : Prop := groupMovesRow.holds Try.pinned (OpenSpec.ofChange groupMovesSpec)

/-- ITS FALSE NEIGHBOUR: 'it returns false'. Refute it at one input. -/
def groupMovesWrong : ChangeSpec := { name := "groupMoves", fn := fun _ => fun
  | [d1, d2] => { results := [.lit (.bool false)], args := [d1, d2] }
  | _ => none }
def GroupMovesWrongFalsely : Prop := groupMovesRow.holds Try.pinned (OpenSpec.ofChange groupMovesWrong)

/-- 'weirlaw1.Names': WHATEVER THE INPUT: true; the input reads as it did. -/
def namesSpec : ChangeSpec := { name := "names", fn := fun _ => fun
  | [] => { results := [.lit (.bool true)], args := [] }
  | _ => none }
def namesRow : OpenClaim := { program := "ytggihfllbfbbgaa", sum := "b34a723a1e04f4bdd188244e5e5f26995fe17bb8ccabd48809abde2414db094d", func := "weirgate/weirlaw1.Names", spec := "names", apart := false }
def NamesSaid : Prop := namesRow.holds Try.pinned (OpenSpec.ofChange namesSpec)

/-- ITS FALSE NEIGHBOUR: 'it returns false'. Refute it at one input. -/
def namesWrong : ChangeSpec := { name := "names", fn := fun _ => fun
  | [] => { results := [.lit (.bool false)], args := [] }
  | _ => none }
def NamesWrongFalsely : Prop := namesRow.holds Try.pinned (OpenSpec.ofChange namesWrong)

/-- 'weirlaw1.DenPrefix': WHATEVER THE INPUT: true; the input reads as it did. -/
def denPrefixSpec : ChangeSpec := { name := "denPrefix", fn := fun _ => fun
  | [d1, d2] => { results := [.lit (.bool true)], args := [d1, d2] }
  | _ => none }
def denPrefixRow : OpenClaim := { program := "ytggihfllbfbbgaa", sum := "b34a723a1e04f4bdd188244e5e5f26995fe17bb8ccabd48809abde2414db094d", func := "weirgate/weirlaw1.DenPrefix", spec := "denPrefix", unfollowed := true, recurses := true, apart := false }
def DenPrefixSaid : Prop := denPrefixRow.holds Try.pinned (OpenSpec.ofChange denPrefixSpec)

/-- ITS FALSE NEIGHBOUR: 'it returns false'. Refute it at one input. -/
def denPrefixWrong : ChangeSpec := { name := "denPrefix", fn := fun _ => fun
  | [d1, d2] => { results := [.lit (.bool false)], args := [d1, d2] }
  | _ => none }
def DenPrefixWrongFalsely : Prop := denPrefixRow.holds Try.pinned (OpenSpec.ofChange denPrefixWrong)

/-- 'weirlaw6.SinkOrder': WHATEVER THE INPUT: true; the input reads as it did. -/
def sinkOrderSpec : ChangeSpec := { name := "sinkOrder", fn := fun _ => fun
  | [d] => { results := [.lit (.bool true)], args := [d] }
  | _ => none }
def sinkOrderRow : OpenClaim := { program := "ytggihfllbfbbgaa", sum := "b34a723a1e04f4bdd188244e5e5f26995fe17bb8ccabd48809abde2414db094d", func := "weirgate/weirlaw6.SinkOrder", spec := "sinkOrder", apart := false }
def SinkOrderSaid : Prop := sinkOrderRow.holds Try.pinned (OpenSpec.ofChange sinkOrderSpec)

/-- ITS FALSE NEIGHBOUR: 'it returns false'. Refute it at one input. -/
def sinkOrderWrong : ChangeSpec := { name := "sinkOrder", fn := fun _ => fun
  | [d] => { results := [.lit (.bool false)], args := [d] }
  | _ => none }
def SinkOrderWrongFalsely : Prop := sinkOrderRow.holds Try.pinned (OpenSpec.ofChange sinkOrderWrong)

/-- 'weirlaw6.GateFair': WHATEVER THE INPUT: true; the input reads as it did. -/
def gateFairSpec : ChangeSpec := { name := "gateFair", fn := fun _ => fun
  | [d1, d2] => { results := [.lit (.bool true)], args := [d1, d2] }
  | _ => none }
def gateFairRow : OpenClaim := { program := "ytggihfllbfbbgaa", sum := "b34a723a1e04f4bdd188244e5e5f26995fe17bb8ccabd48809abde2414db094d", func := "weirgate/weirlaw6.GateFair", spec := "gateFair", apart := false }
def GateFairSaid : Prop := gateFairRow.holds Try.pinned (OpenSpec.ofChange gateFairSpec)

/-- ITS FALSE NEIGHBOUR: 'it returns false'. Refute it at one input. -/
def gateFairWrong : ChangeSpec := { name := "gateFair", fn := fun _ => fun
  | [d1, d2] => { results := [.lit (.bool false)], args := [d1, d2] }
  | _ => none }
def GateFairWrongFalsely : Prop := gateFairRow.holds Try.pinned (OpenSpec.ofChange gateFairWrong)

/-- 'weirlaw3.SinkTwice': WHATEVER THE INPUT: true; the input reads as it did. -/
def sinkTwiceSpec : ChangeSpec := { name := "sinkTwice", fn := fun _ => fun
  | [d1, d2] => { results := [.lit (.bool true)], args := [d1, d2] }
  | _ => none }
def sinkTwiceRow : OpenClaim := { program := "ytggihfllbfbbgaa", sum := "b34a723a1e04f4bdd188244e5e5f26995fe17bb8ccabd48809abde2414db094d", func := "weirgate/weirlaw3.SinkTwice", spec := "sinkTwice", apart := false }
def SinkTwiceSaid : Prop := sinkTwiceRow.holds Try.pinned (OpenSpec.ofChange sinkTwiceSpec)

/-- ITS FALSE NEIGHBOUR: 'it returns false'. Refute it at one input. -/
def sinkTwiceWrong : ChangeSpec := { name := "sinkTwice", fn := fun _ => fun
  | [d1, d2] => { results := [.lit (.bool false)], args := [d1, d2] }
  | _ => none }
def SinkTwiceWrongFalsely : Prop := sinkTwiceRow.holds Try.pinned (OpenSpec.ofChange sinkTwiceWrong)

/-- 'weirlaw6.FrameRow': WHATEVER THE INPUT: true; the input reads as it did. -/
def frameRowSpec : ChangeSpec := { name := "frameRow", fn := fun _ => fun
  | [d1, d2] => { results := [.lit (.bool true)], args := [d1, d2] }
  | _ => none }
def frameRowRow : OpenClaim := { program := "ytggihfllbfbbgaa", sum := "b34a723a1e04f4bdd188244e5e5f26995fe17bb8ccabd48809abde2414db094d", func := "weirgate/weirlaw6.FrameRow", spec := "frameRow", apart := false }
def FrameRowSaid : Prop := frameRowRow.holds Try.pinned (OpenSpec.ofChange frameRowSpec)

/-- ITS FALSE NEIGHBOUR: 'it returns false'. Refute it at one input. -/
def frameRowWrong : ChangeSpec := { name := "frameRow", fn := fun _ => fun
  | [d1, d2] => { results := [.lit (.bool false)], args := [d1, d2] }
  | _ => none }
def FrameRowWrongFalsely : Prop := frameRowRow.holds Try.pinned (OpenSpec.ofChange frameRowWrong)

/- THE SECOND FORM. 'bulk': how many values and letters a reading holds, each counted each time it is reached (what is shared counts as often as it is met; a slice's spare places count too). A statement '..UptoSaid' is the law's where the arguments, and the package variables that the reading takes, are together of bulk at most 1048576: NARROWER than '..Said'. Prove '..Said' where nothing that the law and all that it calls make is longer than what came in: it says more and counts as full. Else prove '..UptoSaid'. A law counts once. -/
mutual
def uptoBulk {H : Type} : DataW H → Nat
  | .lit (.string bytes) => bytes.length + 1
  | .lit _ => 1
  | .nil => 1
  | .ptr d => uptoBulk d + 1
  | .slice elems spare => uptoBulkAll elems + uptoBulkAll spare + 1
  | .agg parts => uptoBulkAll parts + 1
  | .iface _ d => uptoBulk d + 1
  | .map entries => uptoBulkEntries entries + 1
  | .held _ => 1
def uptoBulkAll {H : Type} : List (DataW H) → Nat
  | [] => 0
  | d :: r => uptoBulk d + uptoBulkAll r
def uptoBulkEntries {H : Type} : List (Lit × DataW H) → Nat
  | [] => 0
  | x :: r => uptoBulkEntry x + uptoBulkEntries r
def uptoBulkEntry {H : Type} : Lit × DataW H → Nat
  | (.string bytes, d) => bytes.length + uptoBulk d + 1
  | (_, d) => uptoBulk d + 1
 end
def uptoSmall : (H : Type) → List (DataW H) → Bool := fun _ ds => decide (uptoBulkAll ds ≤ 1048576)
def OpenSpec.upto (s : _root_.Go.ChangeSpec) : _root_.Go.OpenSpec := { _root_.Go.OpenSpec.ofChange s with cond := some uptoSmall }

/-- 'weirlaw6.GroupNests', WHERE WHAT IT READS IS OF BULK AT MOST 1048576: true; the input reads as it did. -/
def groupNestsUptoRow : OpenClaim := { program := "ytggihfllbfbbgaa", sum := "b34a723a1e04f4bdd188244e5e5f26995fe17bb8ccabd48809abde2414db094d", func := "weirgate/weirlaw6.GroupNests", spec := "groupNests", apart := false, narrowed := true }
def GroupNestsUptoSaid : Prop := groupNestsUptoRow.holds Try.pinned (OpenSpec.upto groupNestsSpec)

/-- 'weirlaw6.FrameShort', WHERE WHAT IT READS IS OF BULK AT MOST 1048576: true; the input reads as it did. -/
def frameShortUptoRow : OpenClaim := { program := "ytggihfllbfbbgaa", sum := "b34a723a1e04f4bdd188244e5e5f26995fe17bb8ccabd48809abde2414db094d", func := "weirgate/weirlaw6.FrameShort", spec := "frameShort", apart := false, narrowed := true }
def FrameShortUptoSaid : Prop := frameShortUptoRow.holds Try.pinned (OpenSpec.upto frameShortSpec)

/-- 'weirlaw6.SpreadBack', WHERE WHAT IT READS IS OF BULK AT MOST 1048576: true; the input reads as it did. -/
def spreadBackUptoRow : OpenClaim := { program := "ytggihfllbfbbgaa", sum := "b34a723a1e04f4bdd188244e5e5f26995fe17bb8ccabd48809abde2414db094d", func := "weirgate/weirlaw6.SpreadBack", spec := "spreadBack", apart := false, narrowed := true }
def SpreadBackUptoSaid : Prop := spreadBackUptoRow.holds Try.pinned (OpenSpec.upto spreadBackSpec)

/-- 'weirlaw1.GroupParts', WHERE WHAT IT READS IS OF BULK AT MOST 1048576: true; the input reads as it did. -/
def groupPartsUptoRow : OpenClaim := { program := "ytggihfllbfbbgaa", sum := "b34a723a1e04f4bdd188244e5e5f26995fe17bb8ccabd48809abde2414db094d", func := "weirgate/weirlaw1.GroupParts", spec := "groupParts", apart := false, narrowed := true }
def GroupPartsUptoSaid : Prop := groupPartsUptoRow.holds Try.pinned (OpenSpec.upto groupPartsSpec)

/-- 'weirlaw1.GroupMoves', WHERE WHAT IT READS IS OF BULK AT MOST 1048576: true; the input reads as it did. -/
def groupMovesUptoRow : OpenClaim := { program := "ytggihfllbfbbgaa", sum := "b34a723a1e04f4bdd188244e5e5f26995fe17bb8ccabd48809abde2414db094d", func := "weirgate/weirlaw1.GroupMoves", spec := "groupMoves", apart := false, narrowed := true }
def GroupMovesUptoSaid : Prop := groupMovesUptoRow.holds Try.pinned (OpenSpec.upto groupMovesSpec)

/-- 'weirlaw1.Names', WHERE WHAT IT READS IS OF BULK AT MOST 1048576: true; the input reads as it did. -/
def namesUptoRow : OpenClaim := { program := "ytggihfllbfbbgaa", sum := "b34a723a1e04f4bdd188244e5e5f26995fe17bb8ccabd48809abde2414db094d", func := "weirgate/weirlaw1.Names", spec := "names", apart := false, narrowed := true }
def NamesUptoSaid : Prop := namesUptoRow.holds Try.pinned (OpenSpec.upto namesSpec)

/-- 'weirlaw1.DenPrefix', WHERE WHAT IT READS IS OF BULK AT MOST 1048576: true; the input reads as it did. -/
def denPrefixUptoRow : OpenClaim := { program := "ytggihfllbfbbgaa", sum := "b34a723a1e04f4bdd188244e5e5f26995fe17bb8ccabd48809abde2414db094d", func := "weirgate/weirlaw1.DenPrefix", spec := "denPrefix", unfollowed := true, recurses := true, apart := false, narrowed := true }
def DenPrefixUptoSaid : Prop := denPrefixUptoRow.holds Try.pinned (OpenSpec.upto denPrefixSpec)

/-- 'weirlaw6.SinkOrder', WHERE WHAT IT READS IS OF BULK AT MOST 1048576: true; the input reads as it did. -/
def sinkOrderUptoRow : OpenClaim := { program := "ytggihfllbfbbgaa", sum := "b34a723a1e04f4bdd188244e5e5f26995fe17bb8ccabd48809abde2414db094d", func := "weirgate/weirlaw6.SinkOrder", spec := "sinkOrder", apart := false, narrowed := true }
def SinkOrderUptoSaid : Prop := sinkOrderUptoRow.holds Try.pinned (OpenSpec.upto sinkOrderSpec)

/-- 'weirlaw6.GateFair', WHERE WHAT IT READS IS OF BULK AT MOST 1048576: true; the input reads as it did. -/
def gateFairUptoRow : OpenClaim := { program := "ytggihfllbfbbgaa", sum := "b34a723a1e04f4bdd188244e5e5f26995fe17bb8ccabd48809abde2414db094d", func := "weirgate/weirlaw6.GateFair", spec := "gateFair", apart := false, narrowed := true }
def GateFairUptoSaid : Prop := gateFairUptoRow.holds Try.pinned (OpenSpec.upto gateFairSpec)

/-- 'weirlaw3.SinkTwice', WHERE WHAT IT READS IS OF BULK AT MOST 1048576: true; the input reads as it did. -/
def sinkTwiceUptoRow : OpenClaim := { program := "ytggihfllbfbbgaa", sum := "b34a723a1e04f4bdd188244e5e5f26995fe17bb8ccabd48809abde2414db094d", func := "weirgate/weirlaw3.SinkTwice", spec := "sinkTwice", apart := false, narrowed := true }
def SinkTwiceUptoSaid : Prop := sinkTwiceUptoRow.holds Try.pinned (OpenSpec.upto sinkTwiceSpec)

/-- 'weirlaw6.FrameRow', WHERE WHAT IT READS IS OF BULK AT MOST 1048576: true; the input reads as it did. -/
def frameRowUptoRow : OpenClaim := { program := "ytggihfllbfbbgaa", sum := "b34a723a1e04f4bdd188244e5e5f26995fe17bb8ccabd48809abde2414db094d", func := "weirgate/weirlaw6.FrameRow", spec := "frameRow", apart := false, narrowed := true }
def FrameRowUptoSaid : Prop := frameRowUptoRow.holds Try.pinned (OpenSpec.upto frameRowSpec)

end Rows
end Go.Proofs.Ytggihfllbfbbgaa
