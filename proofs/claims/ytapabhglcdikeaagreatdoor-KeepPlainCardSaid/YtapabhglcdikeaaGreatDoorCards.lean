/-
  DERIVED. GIVEN WITH THE SEED: THE CARDS: each row of YtapabhglcdikeaaGreatDoorRows.lean that lists a variable, with what it lists TIED to the program's text (the seventh form; the later family's looks); each row that meets fmt, with fmt's text TOLD by the authors' own Lean function (tested against real Go, not proved from fmt's source: count such statements apart). THE CARD IS WHAT COUNTS. Prove the row's statement (the work); the ties are given (YtapabhglcdikeaaGreatDoorTie.lean); close each card by the builder's one call (the guide's Derived/Test/ToyasCard.lean, 'card_holds'). Laid BY PROGRAM, IN A SANDBOX (cutbox-door.mjs). By AI agents, Wed Nov 11 2026. No macro, syntax, notation, axiom, sorry.
-/
import Derived.Test.YtapabhglcdikeaaGreatDoorRows
import GoSem.ClaimSeven
namespace Go.Proofs.YtapabhglcdikeaaGreatDoor
namespace Rows

/-- THE TIED CARD OF 'weirlaw3.KeepBreaks'. -/
def keepBreaksCard : Claim7 := { stood := { row := keepBreaksRow, standIns := [], harness := (true, "449ddece97e3f7c840e3d2d212c0aac51529a2d07aaa633ecd76b2f4de8a19ad"), looks := true }, kinds := [], alts := [], laidByText := true, laidKinds := [.data, .data, .data, .data, .sentinel, .sentinel, .pinned], laidTests := true, laidLooks := .later }
def KeepBreaksCardSaid : Prop := Claim7.holds Tryz.pinned (.plain (OpenSpec.ofChange keepBreaksSpec)) keepBreaksCard

/-- THE TIED CARD OF 'weirlaw3.KeepPlain'. -/
def keepPlainCard : Claim7 := { stood := { row := keepPlainRow, standIns := [], harness := (true, "449ddece97e3f7c840e3d2d212c0aac51529a2d07aaa633ecd76b2f4de8a19ad"), looks := true }, kinds := [], alts := [], laidByText := true, laidKinds := [.data, .data, .data, .data, .handle, .sentinel, .sentinel, .pinned], laidTests := true, laidLooks := .later }
def KeepPlainCardSaid : Prop := Claim7.holds Tryz.pinned (.plain (OpenSpec.ofChange keepPlainSpec)) keepPlainCard

/-- THE SECOND FORM's CARD OF 'weirlaw3.KeepBreaks'. -/
def keepBreaksUptoCard : Claim7 := { stood := { row := keepBreaksUptoRow, standIns := [], harness := (true, "449ddece97e3f7c840e3d2d212c0aac51529a2d07aaa633ecd76b2f4de8a19ad"), looks := true }, kinds := [], alts := [], laidByText := true, laidKinds := [.data, .data, .data, .data, .sentinel, .sentinel, .pinned], laidTests := true, laidLooks := .later }
def KeepBreaksUptoCardSaid : Prop := Claim7.holds Tryz.pinned (.plain (OpenSpec.upto keepBreaksSpec)) keepBreaksUptoCard

/-- THE SECOND FORM's CARD OF 'weirlaw3.KeepPlain'. -/
def keepPlainUptoCard : Claim7 := { stood := { row := keepPlainUptoRow, standIns := [], harness := (true, "449ddece97e3f7c840e3d2d212c0aac51529a2d07aaa633ecd76b2f4de8a19ad"), looks := true }, kinds := [], alts := [], laidByText := true, laidKinds := [.data, .data, .data, .data, .handle, .sentinel, .sentinel, .pinned], laidTests := true, laidLooks := .later }
def KeepPlainUptoCardSaid : Prop := Claim7.holds Tryz.pinned (.plain (OpenSpec.upto keepPlainSpec)) keepPlainUptoCard
end Rows
end Go.Proofs.YtapabhglcdikeaaGreatDoor
