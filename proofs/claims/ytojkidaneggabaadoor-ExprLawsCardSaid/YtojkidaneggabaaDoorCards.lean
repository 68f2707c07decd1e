/-
  DERIVED. GIVEN WITH THE SEED: THE CARDS: each row of YtojkidaneggabaaDoorRows.lean that lists a variable, with what it lists TIED to the program's text (the seventh form; the later family's looks); each row that meets fmt, with fmt's text TOLD by the authors' own Lean function (tested against real Go, not proved from fmt's source: count such statements apart). THE CARD IS WHAT COUNTS. Prove the row's statement (the work); the ties are given (YtojkidaneggabaaDoorTie.lean); close each card by the builder's one call (the guide's Derived/Test/ToyasCard.lean, 'card_holds'). Laid BY PROGRAM, IN A SANDBOX (cutbox-door.mjs). By AI agents, Wed Nov 11 2026. No macro, syntax, notation, axiom, sorry.
-/
import Derived.Test.YtojkidaneggabaaDoorRows
import GoSem.ClaimSeven
namespace Go.Proofs.YtojkidaneggabaaDoor
namespace Rows

/-- THE TIED CARD OF 'weirlaw6.ExprDivides'. -/
def exprDividesCard : Claim7 := { stood := { row := exprDividesRow, standIns := [], harness := (true, "81e8e3e0c47329029c2c60bbce2c211f5ee87bab3a6495ab5e2ac19af4c51686"), looks := true }, kinds := [], alts := [], laidByText := true, laidKinds := [.data, .data, .data, .data, .sentinel, .sentinel, .pinned], laidTests := true, laidLooks := .later }
def ExprDividesCardSaid : Prop := Claim7.holds Tryd.pinned (.plain (OpenSpec.ofChange exprDividesSpec)) exprDividesCard

/-- THE TIED CARD OF 'weirlaw1.ExprJoins'. -/
def exprJoinsCard : Claim7 := { stood := { row := exprJoinsRow, standIns := [], harness := (true, "81e8e3e0c47329029c2c60bbce2c211f5ee87bab3a6495ab5e2ac19af4c51686"), looks := true }, kinds := [], alts := [], laidByText := true, laidKinds := [.data, .data, .data, .data, .sentinel, .sentinel, .pinned], laidTests := true, laidLooks := .later }
def ExprJoinsCardSaid : Prop := Claim7.holds Tryd.pinned (.plain (OpenSpec.ofChange exprJoinsSpec)) exprJoinsCard

/-- THE TIED CARD OF 'weirlaw6.ExprLaws'. -/
def exprLawsCard : Claim7 := { stood := { row := exprLawsRow, standIns := [], harness := (true, "81e8e3e0c47329029c2c60bbce2c211f5ee87bab3a6495ab5e2ac19af4c51686"), looks := true }, kinds := [], alts := [], laidByText := true, laidKinds := [.data, .data, .data, .data, .sentinel, .sentinel, .pinned], laidTests := true, laidLooks := .later }
def ExprLawsCardSaid : Prop := Claim7.holds Tryd.pinned (.plain (OpenSpec.ofChange exprLawsSpec)) exprLawsCard

/-- THE TIED CARD OF 'weirlaw1.ExprPrints'. -/
def exprPrintsCard : Claim7 := { stood := { row := exprPrintsRow, standIns := [], harness := (true, "81e8e3e0c47329029c2c60bbce2c211f5ee87bab3a6495ab5e2ac19af4c51686"), looks := true }, kinds := [], alts := [], laidByText := true, laidKinds := [.data, .data, .data, .data, .sentinel, .sentinel, .pinned], laidTests := true, laidLooks := .later }
def ExprPrintsCardSaid : Prop := Claim7.holds Tryd.pinned (.plain (OpenSpec.ofChange exprPrintsSpec)) exprPrintsCard

/-- THE SECOND FORM's CARD OF 'weirlaw6.ExprDivides'. -/
def exprDividesUptoCard : Claim7 := { stood := { row := exprDividesUptoRow, standIns := [], harness := (true, "81e8e3e0c47329029c2c60bbce2c211f5ee87bab3a6495ab5e2ac19af4c51686"), looks := true }, kinds := [], alts := [], laidByText := true, laidKinds := [.data, .data, .data, .data, .sentinel, .sentinel, .pinned], laidTests := true, laidLooks := .later }
def ExprDividesUptoCardSaid : Prop := Claim7.holds Tryd.pinned (.plain (OpenSpec.upto exprDividesSpec)) exprDividesUptoCard

/-- THE SECOND FORM's CARD OF 'weirlaw1.ExprJoins'. -/
def exprJoinsUptoCard : Claim7 := { stood := { row := exprJoinsUptoRow, standIns := [], harness := (true, "81e8e3e0c47329029c2c60bbce2c211f5ee87bab3a6495ab5e2ac19af4c51686"), looks := true }, kinds := [], alts := [], laidByText := true, laidKinds := [.data, .data, .data, .data, .sentinel, .sentinel, .pinned], laidTests := true, laidLooks := .later }
def ExprJoinsUptoCardSaid : Prop := Claim7.holds Tryd.pinned (.plain (OpenSpec.upto exprJoinsSpec)) exprJoinsUptoCard

/-- THE SECOND FORM's CARD OF 'weirlaw6.ExprLaws'. -/
def exprLawsUptoCard : Claim7 := { stood := { row := exprLawsUptoRow, standIns := [], harness := (true, "81e8e3e0c47329029c2c60bbce2c211f5ee87bab3a6495ab5e2ac19af4c51686"), looks := true }, kinds := [], alts := [], laidByText := true, laidKinds := [.data, .data, .data, .data, .sentinel, .sentinel, .pinned], laidTests := true, laidLooks := .later }
def ExprLawsUptoCardSaid : Prop := Claim7.holds Tryd.pinned (.plain (OpenSpec.upto exprLawsSpec)) exprLawsUptoCard

/-- THE SECOND FORM's CARD OF 'weirlaw1.ExprPrints'. -/
def exprPrintsUptoCard : Claim7 := { stood := { row := exprPrintsUptoRow, standIns := [], harness := (true, "81e8e3e0c47329029c2c60bbce2c211f5ee87bab3a6495ab5e2ac19af4c51686"), looks := true }, kinds := [], alts := [], laidByText := true, laidKinds := [.data, .data, .data, .data, .sentinel, .sentinel, .pinned], laidTests := true, laidLooks := .later }
def ExprPrintsUptoCardSaid : Prop := Claim7.holds Tryd.pinned (.plain (OpenSpec.upto exprPrintsSpec)) exprPrintsUptoCard
end Rows
end Go.Proofs.YtojkidaneggabaaDoor
