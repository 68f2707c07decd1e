/-
  DERIVED. GIVEN WITH THE SEED: THE CARDS: each row of YtbhapjipledioaaDoorRows.lean that lists a variable, with what it lists TIED to the program's text (the seventh form; the later family's looks); each row that meets fmt, with fmt's text TOLD by the authors' own Lean function (tested against real Go, not proved from fmt's source: count such statements apart). THE CARD IS WHAT COUNTS. Prove the row's statement (the work); the ties are given (YtbhapjipledioaaDoorTie.lean); close each card by the builder's one call (the guide's Derived/Test/ToyasCard.lean, 'card_holds'). Laid BY PROGRAM, IN A SANDBOX (cutbox-door.mjs). By AI agents, Wed Nov 11 2026. No macro, syntax, notation, axiom, sorry.
-/
import Derived.Test.YtbhapjipledioaaDoorRows
import GoSem.ClaimSeven
namespace Go.Proofs.YtbhapjipledioaaDoor
namespace Rows

/-- THE TIED CARD OF 'weirlaw1.GroupKeys'. -/
def groupKeysCard : Claim7 := { stood := { row := groupKeysRow, standIns := [], harness := (true, "1c34662d201d3a68fb6a74b9c3bce6cac3cf22c7946ee7600e4e0c8f8cc6a28b"), looks := true }, kinds := [], alts := [], laidByText := true, laidKinds := [.handle], laidTests := true, laidLooks := .later }
def GroupKeysCardSaid : Prop := Claim7.holds Tryd.pinned (.plain (OpenSpec.ofChange groupKeysSpec)) groupKeysCard

/-- THE SECOND FORM's CARD OF 'weirlaw1.GroupKeys'. -/
def groupKeysUptoCard : Claim7 := { stood := { row := groupKeysUptoRow, standIns := [], harness := (true, "1c34662d201d3a68fb6a74b9c3bce6cac3cf22c7946ee7600e4e0c8f8cc6a28b"), looks := true }, kinds := [], alts := [], laidByText := true, laidKinds := [.handle], laidTests := true, laidLooks := .later }
def GroupKeysUptoCardSaid : Prop := Claim7.holds Tryd.pinned (.plain (OpenSpec.upto groupKeysSpec)) groupKeysUptoCard
end Rows
end Go.Proofs.YtbhapjipledioaaDoor
