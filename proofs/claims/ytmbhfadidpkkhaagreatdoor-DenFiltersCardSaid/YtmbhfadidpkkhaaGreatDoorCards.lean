/-
  DERIVED. GIVEN WITH THE SEED: THE CARDS: each row of YtmbhfadidpkkhaaGreatDoorRows.lean that lists a variable, with what it lists TIED to the program's text (the seventh form; the later family's looks); each row that meets fmt, with fmt's text TOLD by the authors' own Lean function (tested against real Go, not proved from fmt's source: count such statements apart). THE CARD IS WHAT COUNTS. Prove the row's statement (the work); the ties are given (YtmbhfadidpkkhaaGreatDoorTie.lean); close each card by the builder's one call (the guide's Derived/Test/ToyasCard.lean, 'card_holds'). Laid BY PROGRAM, IN A SANDBOX (cutbox-door.mjs). By AI agents, Wed Nov 11 2026. No macro, syntax, notation, axiom, sorry.
-/
import Derived.Test.YtmbhfadidpkkhaaGreatDoorRows
import GoSem.ClaimSeven
namespace Go.Proofs.YtmbhfadidpkkhaaGreatDoor
namespace Rows

/-- THE TIED CARD OF 'weirlaw1.DenFilters'. -/
def denFiltersCard : Claim7 := { stood := { row := denFiltersRow, standIns := [], harness := (true, "93c9589c1d8a56241b81e41774666fa91674644d223c3d4d228e3df6d56158d2"), looks := true }, kinds := [], alts := [], laidByText := true, laidKinds := [.data, .data, .data, .data, .sentinel, .sentinel, .pinned], laidTests := true, laidLooks := .later }
def DenFiltersCardSaid : Prop := Claim7.holds Tryz.pinned (.plain (OpenSpec.ofChange denFiltersSpec)) denFiltersCard

/-- THE TIED CARD OF 'weirlaw6.DenSums'. -/
def denSumsCard : Claim7 := { stood := { row := denSumsRow, standIns := [], harness := (true, "93c9589c1d8a56241b81e41774666fa91674644d223c3d4d228e3df6d56158d2"), looks := true }, kinds := [], alts := [], laidByText := true, laidKinds := [.data, .data, .data, .data, .sentinel, .sentinel, .pinned], laidTests := true, laidLooks := .later }
def DenSumsCardSaid : Prop := Claim7.holds Tryz.pinned (.plain (OpenSpec.ofChange denSumsSpec)) denSumsCard

/-- THE TIED CARD OF 'weirlaw6.DenCounts'. -/
def denCountsCard : Claim7 := { stood := { row := denCountsRow, standIns := [], harness := (true, "93c9589c1d8a56241b81e41774666fa91674644d223c3d4d228e3df6d56158d2"), looks := true }, kinds := [], alts := [], laidByText := true, laidKinds := [.data, .data, .data, .data, .sentinel, .sentinel, .pinned], laidTests := true, laidLooks := .later }
def DenCountsCardSaid : Prop := Claim7.holds Tryz.pinned (.plain (OpenSpec.ofChange denCountsSpec)) denCountsCard

/-- THE TIED CARD OF 'weirlaw6.DenUnions'. -/
def denUnionsCard : Claim7 := { stood := { row := denUnionsRow, standIns := [], harness := (true, "93c9589c1d8a56241b81e41774666fa91674644d223c3d4d228e3df6d56158d2"), looks := true }, kinds := [], alts := [], laidByText := true, laidKinds := [.data, .data, .data, .data, .sentinel, .sentinel, .pinned], laidTests := true, laidLooks := .later }
def DenUnionsCardSaid : Prop := Claim7.holds Tryz.pinned (.plain (OpenSpec.ofChange denUnionsSpec)) denUnionsCard

/-- THE TIED CARD OF 'weirlaw6.DenSubs'. -/
def denSubsCard : Claim7 := { stood := { row := denSubsRow, standIns := [], harness := (true, "93c9589c1d8a56241b81e41774666fa91674644d223c3d4d228e3df6d56158d2"), looks := true }, kinds := [], alts := [], laidByText := true, laidKinds := [.data, .data, .data, .data, .sentinel, .sentinel, .pinned], laidTests := true, laidLooks := .later }
def DenSubsCardSaid : Prop := Claim7.holds Tryz.pinned (.plain (OpenSpec.ofChange denSubsSpec)) denSubsCard

/-- THE TIED CARD OF 'weirlaw1.DenGrows'. -/
def denGrowsCard : Claim7 := { stood := { row := denGrowsRow, standIns := [], harness := (true, "93c9589c1d8a56241b81e41774666fa91674644d223c3d4d228e3df6d56158d2"), looks := true }, kinds := [], alts := [], laidByText := true, laidKinds := [.data, .data, .data, .data, .sentinel, .sentinel, .pinned], laidTests := true, laidLooks := .later }
def DenGrowsCardSaid : Prop := Claim7.holds Tryz.pinned (.plain (OpenSpec.ofChange denGrowsSpec)) denGrowsCard

/-- THE SECOND FORM's CARD OF 'weirlaw1.DenFilters'. -/
def denFiltersUptoCard : Claim7 := { stood := { row := denFiltersUptoRow, standIns := [], harness := (true, "93c9589c1d8a56241b81e41774666fa91674644d223c3d4d228e3df6d56158d2"), looks := true }, kinds := [], alts := [], laidByText := true, laidKinds := [.data, .data, .data, .data, .sentinel, .sentinel, .pinned], laidTests := true, laidLooks := .later }
def DenFiltersUptoCardSaid : Prop := Claim7.holds Tryz.pinned (.plain (OpenSpec.upto denFiltersSpec)) denFiltersUptoCard

/-- THE SECOND FORM's CARD OF 'weirlaw6.DenSums'. -/
def denSumsUptoCard : Claim7 := { stood := { row := denSumsUptoRow, standIns := [], harness := (true, "93c9589c1d8a56241b81e41774666fa91674644d223c3d4d228e3df6d56158d2"), looks := true }, kinds := [], alts := [], laidByText := true, laidKinds := [.data, .data, .data, .data, .sentinel, .sentinel, .pinned], laidTests := true, laidLooks := .later }
def DenSumsUptoCardSaid : Prop := Claim7.holds Tryz.pinned (.plain (OpenSpec.upto denSumsSpec)) denSumsUptoCard

/-- THE SECOND FORM's CARD OF 'weirlaw6.DenCounts'. -/
def denCountsUptoCard : Claim7 := { stood := { row := denCountsUptoRow, standIns := [], harness := (true, "93c9589c1d8a56241b81e41774666fa91674644d223c3d4d228e3df6d56158d2"), looks := true }, kinds := [], alts := [], laidByText := true, laidKinds := [.data, .data, .data, .data, .sentinel, .sentinel, .pinned], laidTests := true, laidLooks := .later }
def DenCountsUptoCardSaid : Prop := Claim7.holds Tryz.pinned (.plain (OpenSpec.upto denCountsSpec)) denCountsUptoCard

/-- THE SECOND FORM's CARD OF 'weirlaw6.DenUnions'. -/
def denUnionsUptoCard : Claim7 := { stood := { row := denUnionsUptoRow, standIns := [], harness := (true, "93c9589c1d8a56241b81e41774666fa91674644d223c3d4d228e3df6d56158d2"), looks := true }, kinds := [], alts := [], laidByText := true, laidKinds := [.data, .data, .data, .data, .sentinel, .sentinel, .pinned], laidTests := true, laidLooks := .later }
def DenUnionsUptoCardSaid : Prop := Claim7.holds Tryz.pinned (.plain (OpenSpec.upto denUnionsSpec)) denUnionsUptoCard

/-- THE SECOND FORM's CARD OF 'weirlaw6.DenSubs'. -/
def denSubsUptoCard : Claim7 := { stood := { row := denSubsUptoRow, standIns := [], harness := (true, "93c9589c1d8a56241b81e41774666fa91674644d223c3d4d228e3df6d56158d2"), looks := true }, kinds := [], alts := [], laidByText := true, laidKinds := [.data, .data, .data, .data, .sentinel, .sentinel, .pinned], laidTests := true, laidLooks := .later }
def DenSubsUptoCardSaid : Prop := Claim7.holds Tryz.pinned (.plain (OpenSpec.upto denSubsSpec)) denSubsUptoCard

/-- THE SECOND FORM's CARD OF 'weirlaw1.DenGrows'. -/
def denGrowsUptoCard : Claim7 := { stood := { row := denGrowsUptoRow, standIns := [], harness := (true, "93c9589c1d8a56241b81e41774666fa91674644d223c3d4d228e3df6d56158d2"), looks := true }, kinds := [], alts := [], laidByText := true, laidKinds := [.data, .data, .data, .data, .sentinel, .sentinel, .pinned], laidTests := true, laidLooks := .later }
def DenGrowsUptoCardSaid : Prop := Claim7.holds Tryz.pinned (.plain (OpenSpec.upto denGrowsSpec)) denGrowsUptoCard
end Rows
end Go.Proofs.YtmbhfadidpkkhaaGreatDoor
