/-
  DERIVED. GIVEN WITH THE SEED: THE CARDS: each row of YthanjafbgcljgaaGreatDoorRows.lean that lists a variable, with what it lists TIED to the program's text (the seventh form; the later family's looks); each row that meets fmt, with fmt's text TOLD by the authors' own Lean function (tested against real Go, not proved from fmt's source: count such statements apart). THE CARD IS WHAT COUNTS. Prove the row's statement (the work); the ties are given (YthanjafbgcljgaaGreatDoorTie.lean); close each card by the builder's one call (the guide's Derived/Test/ToyasCard.lean, 'card_holds'). Laid BY PROGRAM, IN A SANDBOX (cutbox-door.mjs). By AI agents, Wed Nov 11 2026. No macro, syntax, notation, axiom, sorry.
-/
import Derived.Test.YthanjafbgcljgaaGreatDoorRows
import GoSem.ClaimSeven
namespace Go.Proofs.YthanjafbgcljgaaGreatDoor
namespace Rows

/-- THE TIED CARD OF 'weirlaw3.KeepBreaks'. -/
def keepBreaksCard : Claim7 := { stood := { row := keepBreaksRow, standIns := [], harness := (true, "0842ed224c4daa526b6b9feec89ce9f84f002a601e1e20e32136ac969f344203"), looks := true }, kinds := [], alts := [], laidByText := true, laidKinds := [.data, .data, .data, .data, .sentinel, .sentinel, .pinned], laidTests := true, laidLooks := .later }
def KeepBreaksCardSaid : Prop := Claim7.holds Tryz.pinned (.plain (OpenSpec.ofChange keepBreaksSpec)) keepBreaksCard

/-- THE SECOND FORM's CARD OF 'weirlaw3.KeepBreaks'. -/
def keepBreaksUptoCard : Claim7 := { stood := { row := keepBreaksUptoRow, standIns := [], harness := (true, "0842ed224c4daa526b6b9feec89ce9f84f002a601e1e20e32136ac969f344203"), looks := true }, kinds := [], alts := [], laidByText := true, laidKinds := [.data, .data, .data, .data, .sentinel, .sentinel, .pinned], laidTests := true, laidLooks := .later }
def KeepBreaksUptoCardSaid : Prop := Claim7.holds Tryz.pinned (.plain (OpenSpec.upto keepBreaksSpec)) keepBreaksUptoCard
end Rows
end Go.Proofs.YthanjafbgcljgaaGreatDoor
