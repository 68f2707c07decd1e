/-
  DERIVED. GIVEN WITH THE SEED: THE CARDS: each row of YtcmhbhdiepkndaaGreatDoorRows.lean that lists a variable, with what it lists TIED to the program's text (the seventh form; the later family's looks); each row that meets fmt, with fmt's text TOLD by the authors' own Lean function (tested against real Go, not proved from fmt's source: count such statements apart). THE CARD IS WHAT COUNTS. Prove the row's statement (the work); the ties are given (YtcmhbhdiepkndaaGreatDoorTie.lean); close each card by the builder's one call (the guide's Derived/Test/ToyasCard.lean, 'card_holds'). Laid BY PROGRAM, IN A SANDBOX (cutbox-door.mjs). By AI agents, Wed Nov 11 2026. No macro, syntax, notation, axiom, sorry.
-/
import Derived.Test.YtcmhbhdiepkndaaGreatDoorRows
import GoSem.ClaimSeven
namespace Go.Proofs.YtcmhbhdiepkndaaGreatDoor
namespace Rows

/-- THE TIED CARD OF 'weirlaw6.DenSubs'. -/
def denSubsCard : Claim7 := { stood := { row := denSubsRow, standIns := [], harness := (true, "cfab595e54015da24ecdc5bbe71d19a8aae81f13b4e07556f500d51f463e11e4"), looks := true }, kinds := [], alts := [], laidByText := true, laidKinds := [.data, .data, .data, .data, .sentinel, .sentinel, .pinned], laidTests := true, laidLooks := .later }
def DenSubsCardSaid : Prop := Claim7.holds Tryz.pinned (.plain (OpenSpec.ofChange denSubsSpec)) denSubsCard

/-- THE TIED CARD OF 'weirlaw1.DenGrows'. -/
def denGrowsCard : Claim7 := { stood := { row := denGrowsRow, standIns := [], harness := (true, "cfab595e54015da24ecdc5bbe71d19a8aae81f13b4e07556f500d51f463e11e4"), looks := true }, kinds := [], alts := [], laidByText := true, laidKinds := [.data, .data, .data, .data, .sentinel, .sentinel, .pinned], laidTests := true, laidLooks := .later }
def DenGrowsCardSaid : Prop := Claim7.holds Tryz.pinned (.plain (OpenSpec.ofChange denGrowsSpec)) denGrowsCard

/-- THE SECOND FORM's CARD OF 'weirlaw6.DenSubs'. -/
def denSubsUptoCard : Claim7 := { stood := { row := denSubsUptoRow, standIns := [], harness := (true, "cfab595e54015da24ecdc5bbe71d19a8aae81f13b4e07556f500d51f463e11e4"), looks := true }, kinds := [], alts := [], laidByText := true, laidKinds := [.data, .data, .data, .data, .sentinel, .sentinel, .pinned], laidTests := true, laidLooks := .later }
def DenSubsUptoCardSaid : Prop := Claim7.holds Tryz.pinned (.plain (OpenSpec.upto denSubsSpec)) denSubsUptoCard

/-- THE SECOND FORM's CARD OF 'weirlaw1.DenGrows'. -/
def denGrowsUptoCard : Claim7 := { stood := { row := denGrowsUptoRow, standIns := [], harness := (true, "cfab595e54015da24ecdc5bbe71d19a8aae81f13b4e07556f500d51f463e11e4"), looks := true }, kinds := [], alts := [], laidByText := true, laidKinds := [.data, .data, .data, .data, .sentinel, .sentinel, .pinned], laidTests := true, laidLooks := .later }
def DenGrowsUptoCardSaid : Prop := Claim7.holds Tryz.pinned (.plain (OpenSpec.upto denGrowsSpec)) denGrowsUptoCard
end Rows
end Go.Proofs.YtcmhbhdiepkndaaGreatDoor
