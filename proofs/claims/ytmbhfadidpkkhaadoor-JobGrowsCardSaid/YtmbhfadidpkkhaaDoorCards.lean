/-
  DERIVED. GIVEN WITH THE SEED: THE CARDS: each row of YtmbhfadidpkkhaaDoorRows.lean that lists a variable, with what it lists TIED to the program's text (the seventh form; the later family's looks); each row that meets fmt, with fmt's text TOLD by the authors' own Lean function (tested against real Go, not proved from fmt's source: count such statements apart). THE CARD IS WHAT COUNTS. Prove the row's statement (the work); the ties are given (YtmbhfadidpkkhaaDoorTie.lean); close each card by the builder's one call (the guide's Derived/Test/ToyasCard.lean, 'card_holds'). Laid BY PROGRAM, IN A SANDBOX (cutbox-door.mjs). By AI agents, Wed Nov 11 2026. No macro, syntax, notation, axiom, sorry.
-/
import Derived.Test.YtmbhfadidpkkhaaDoorRows
import GoSem.ClaimSeven
namespace Go.Proofs.YtmbhfadidpkkhaaDoor
namespace Rows

/-- THE TIED CARD OF 'weirlaw6.JobGrows'. -/
def jobGrowsCard : Claim7 := { stood := { row := jobGrowsRow, standIns := [], harness := (true, "361ddb2f15526830489959d7e88535ed2bd6f779fb148473a6a3a9796c0a522e"), looks := true }, kinds := [], alts := [], laidByText := true, laidKinds := [.data, .data, .data, .data, .sentinel, .sentinel, .pinned], laidTests := true, laidLooks := .later }
def JobGrowsCardSaid : Prop := Claim7.holds Tryd.pinned (.plain (OpenSpec.ofChange jobGrowsSpec)) jobGrowsCard

/-- THE SECOND FORM's CARD OF 'weirlaw6.JobGrows'. -/
def jobGrowsUptoCard : Claim7 := { stood := { row := jobGrowsUptoRow, standIns := [], harness := (true, "361ddb2f15526830489959d7e88535ed2bd6f779fb148473a6a3a9796c0a522e"), looks := true }, kinds := [], alts := [], laidByText := true, laidKinds := [.data, .data, .data, .data, .sentinel, .sentinel, .pinned], laidTests := true, laidLooks := .later }
def JobGrowsUptoCardSaid : Prop := Claim7.holds Tryd.pinned (.plain (OpenSpec.upto jobGrowsSpec)) jobGrowsUptoCard
end Rows
end Go.Proofs.YtmbhfadidpkkhaaDoor
