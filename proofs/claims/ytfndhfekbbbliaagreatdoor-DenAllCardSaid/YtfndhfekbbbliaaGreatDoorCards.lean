/-
  DERIVED. GIVEN WITH THE SEED: THE CARDS: each row of YtfndhfekbbbliaaGreatDoorRows.lean that lists a variable, with what it lists TIED to the program's text (the seventh form; the later family's looks); each row that meets fmt, with fmt's text TOLD by the authors' own Lean function (tested against real Go, not proved from fmt's source: count such statements apart). THE CARD IS WHAT COUNTS. Prove the row's statement (the work); the ties are given (YtfndhfekbbbliaaGreatDoorTie.lean); close each card by the builder's one call (the guide's Derived/Test/ToyasCard.lean, 'card_holds'). Laid BY PROGRAM, IN A SANDBOX (cutbox-door.mjs). By AI agents, Wed Nov 11 2026. No macro, syntax, notation, axiom, sorry.
-/
import Derived.Test.YtfndhfekbbbliaaGreatDoorRows
import GoSem.ClaimSeven
namespace Go.Proofs.YtfndhfekbbbliaaGreatDoor
namespace Rows

/-- THE TIED CARD OF 'weirlaw1.ExprChecks'. -/
def exprChecksCard : Claim7 := { stood := { row := exprChecksRow, standIns := [], harness := (true, "c15ef27d2e579f56e090c7e6d681ab75ecd13bb14a0dc4ed98da4a0b25a23a9d"), looks := true }, kinds := [], alts := [], laidByText := true, laidKinds := [.data, .data, .data, .data, .handle, .sentinel, .sentinel, .pinned], laidTests := true, laidLooks := .later }
def ExprChecksCardSaid : Prop := Claim7.holds Tryz.pinned (.plain (OpenSpec.ofChange exprChecksSpec)) exprChecksCard

/-- THE TIED CARD OF 'weirlaw1.DenApplies'. -/
def denAppliesCard : Claim7 := { stood := { row := denAppliesRow, standIns := [], harness := (true, "c15ef27d2e579f56e090c7e6d681ab75ecd13bb14a0dc4ed98da4a0b25a23a9d"), looks := true }, kinds := [], alts := [], laidByText := true, laidKinds := [.data, .data, .data, .data, .sentinel, .sentinel, .pinned], laidTests := true, laidLooks := .later }
def DenAppliesCardSaid : Prop := Claim7.holds Tryz.pinned (.plain (OpenSpec.ofChange denAppliesSpec)) denAppliesCard

/-- THE TIED CARD OF 'weirlaw1.JobChecks'. -/
def jobChecksCard : Claim7 := { stood := { row := jobChecksRow, standIns := [], harness := (true, "c15ef27d2e579f56e090c7e6d681ab75ecd13bb14a0dc4ed98da4a0b25a23a9d"), looks := true }, kinds := [], alts := [], laidByText := true, laidKinds := [.data, .data, .data, .data, .handle, .sentinel, .sentinel, .pinned], laidTests := true, laidLooks := .later }
def JobChecksCardSaid : Prop := Claim7.holds Tryz.pinned (.plain (OpenSpec.ofChange jobChecksSpec)) jobChecksCard

/-- THE TIED CARD OF 'weirlaw1.JobBack'. -/
def jobBackCard : Claim7 := { stood := { row := jobBackRow, standIns := [], harness := (true, "c15ef27d2e579f56e090c7e6d681ab75ecd13bb14a0dc4ed98da4a0b25a23a9d"), looks := true }, kinds := [], alts := [], laidByText := true, laidKinds := [.data, .data, .data, .data, .sentinel, .sentinel, .pinned], laidTests := true, laidLooks := .later }
def JobBackCardSaid : Prop := Claim7.holds Tryz.pinned (.plain (OpenSpec.ofChange jobBackSpec)) jobBackCard

/-- THE TIED CARD OF 'weirlaw1.JobParses'. -/
def jobParsesCard : Claim7 := { stood := { row := jobParsesRow, standIns := [], harness := (true, "c15ef27d2e579f56e090c7e6d681ab75ecd13bb14a0dc4ed98da4a0b25a23a9d"), looks := true }, kinds := [], alts := [], laidByText := true, laidKinds := [.data, .data, .data, .data, .handle, .sentinel, .sentinel, .pinned], laidTests := true, laidLooks := .later }
def JobParsesCardSaid : Prop := Claim7.holds Tryz.pinned (.plain (OpenSpec.ofChange jobParsesSpec)) jobParsesCard

/-- THE TIED CARD OF 'weirlaw1.DenAll'. -/
def denAllCard : Claim7 := { stood := { row := denAllRow, standIns := [], harness := (true, "c15ef27d2e579f56e090c7e6d681ab75ecd13bb14a0dc4ed98da4a0b25a23a9d"), looks := true }, kinds := [], alts := [], laidByText := true, laidKinds := [.data, .data, .data, .data, .handle, .sentinel, .sentinel, .pinned], laidTests := true, laidLooks := .later }
def DenAllCardSaid : Prop := Claim7.holds Tryz.pinned (.plain (OpenSpec.ofChange denAllSpec)) denAllCard

/-- THE SECOND FORM's CARD OF 'weirlaw1.ExprChecks'. -/
def exprChecksUptoCard : Claim7 := { stood := { row := exprChecksUptoRow, standIns := [], harness := (true, "c15ef27d2e579f56e090c7e6d681ab75ecd13bb14a0dc4ed98da4a0b25a23a9d"), looks := true }, kinds := [], alts := [], laidByText := true, laidKinds := [.data, .data, .data, .data, .handle, .sentinel, .sentinel, .pinned], laidTests := true, laidLooks := .later }
def ExprChecksUptoCardSaid : Prop := Claim7.holds Tryz.pinned (.plain (OpenSpec.upto exprChecksSpec)) exprChecksUptoCard

/-- THE SECOND FORM's CARD OF 'weirlaw1.DenApplies'. -/
def denAppliesUptoCard : Claim7 := { stood := { row := denAppliesUptoRow, standIns := [], harness := (true, "c15ef27d2e579f56e090c7e6d681ab75ecd13bb14a0dc4ed98da4a0b25a23a9d"), looks := true }, kinds := [], alts := [], laidByText := true, laidKinds := [.data, .data, .data, .data, .sentinel, .sentinel, .pinned], laidTests := true, laidLooks := .later }
def DenAppliesUptoCardSaid : Prop := Claim7.holds Tryz.pinned (.plain (OpenSpec.upto denAppliesSpec)) denAppliesUptoCard

/-- THE SECOND FORM's CARD OF 'weirlaw1.JobChecks'. -/
def jobChecksUptoCard : Claim7 := { stood := { row := jobChecksUptoRow, standIns := [], harness := (true, "c15ef27d2e579f56e090c7e6d681ab75ecd13bb14a0dc4ed98da4a0b25a23a9d"), looks := true }, kinds := [], alts := [], laidByText := true, laidKinds := [.data, .data, .data, .data, .handle, .sentinel, .sentinel, .pinned], laidTests := true, laidLooks := .later }
def JobChecksUptoCardSaid : Prop := Claim7.holds Tryz.pinned (.plain (OpenSpec.upto jobChecksSpec)) jobChecksUptoCard

/-- THE SECOND FORM's CARD OF 'weirlaw1.JobBack'. -/
def jobBackUptoCard : Claim7 := { stood := { row := jobBackUptoRow, standIns := [], harness := (true, "c15ef27d2e579f56e090c7e6d681ab75ecd13bb14a0dc4ed98da4a0b25a23a9d"), looks := true }, kinds := [], alts := [], laidByText := true, laidKinds := [.data, .data, .data, .data, .sentinel, .sentinel, .pinned], laidTests := true, laidLooks := .later }
def JobBackUptoCardSaid : Prop := Claim7.holds Tryz.pinned (.plain (OpenSpec.upto jobBackSpec)) jobBackUptoCard

/-- THE SECOND FORM's CARD OF 'weirlaw1.JobParses'. -/
def jobParsesUptoCard : Claim7 := { stood := { row := jobParsesUptoRow, standIns := [], harness := (true, "c15ef27d2e579f56e090c7e6d681ab75ecd13bb14a0dc4ed98da4a0b25a23a9d"), looks := true }, kinds := [], alts := [], laidByText := true, laidKinds := [.data, .data, .data, .data, .handle, .sentinel, .sentinel, .pinned], laidTests := true, laidLooks := .later }
def JobParsesUptoCardSaid : Prop := Claim7.holds Tryz.pinned (.plain (OpenSpec.upto jobParsesSpec)) jobParsesUptoCard

/-- THE SECOND FORM's CARD OF 'weirlaw1.DenAll'. -/
def denAllUptoCard : Claim7 := { stood := { row := denAllUptoRow, standIns := [], harness := (true, "c15ef27d2e579f56e090c7e6d681ab75ecd13bb14a0dc4ed98da4a0b25a23a9d"), looks := true }, kinds := [], alts := [], laidByText := true, laidKinds := [.data, .data, .data, .data, .handle, .sentinel, .sentinel, .pinned], laidTests := true, laidLooks := .later }
def DenAllUptoCardSaid : Prop := Claim7.holds Tryz.pinned (.plain (OpenSpec.upto denAllSpec)) denAllUptoCard
end Rows
end Go.Proofs.YtfndhfekbbbliaaGreatDoor
