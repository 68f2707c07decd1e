/-
  DERIVED. GIVEN WITH THE SEED: THE CARDS: each row of YthobnigjhedjaaaDoorRows.lean that lists a variable, with what it lists TIED to the program's text (the seventh form; the later family's looks); each row that meets fmt, with fmt's text TOLD by the authors' own Lean function (tested against real Go, not proved from fmt's source: count such statements apart). THE CARD IS WHAT COUNTS. Prove the row's statement (the work); the ties are given (YthobnigjhedjaaaDoorTie.lean); close each card by the builder's one call (the guide's Derived/Test/ToyasCard.lean, 'card_holds'). Laid BY PROGRAM, IN A SANDBOX (cutbox-door.mjs). By AI agents, Wed Nov 11 2026. No macro, syntax, notation, axiom, sorry.
-/
import Derived.Test.YthobnigjhedjaaaDoorRows
import GoSem.ClaimSeven
namespace Go.Proofs.YthobnigjhedjaaaDoor
namespace Rows

/-- THE TIED CARD OF 'weirlaw6.ShareSums'. -/
def shareSumsCard : Claim7 := { stood := { row := shareSumsRow, standIns := [], harness := (true, "2451efb24b3f4a0c40b5bcd780cadb1d398a96d598c4a4f11fe44870a80caaab"), looks := true }, kinds := [], alts := [], laidByText := true, laidKinds := [.data, .pinned], laidTests := true, laidLooks := .later }
def ShareSumsCardSaid : Prop := Claim7.holds Tryd.pinned (.plain (OpenSpec.ofChange shareSumsSpec)) shareSumsCard

/-- THE TIED CARD OF 'weirlaw6.LsmLast'. -/
def lsmLastCard : Claim7 := { stood := { row := lsmLastRow, standIns := [], harness := (true, "2451efb24b3f4a0c40b5bcd780cadb1d398a96d598c4a4f11fe44870a80caaab"), looks := true }, kinds := [], alts := [], laidByText := true, laidKinds := [.handle], laidTests := true, laidLooks := .later }
def LsmLastCardSaid : Prop := Claim7.holds Tryd.pinned (.plain (OpenSpec.ofChange lsmLastSpec)) lsmLastCard

/-- THE SECOND FORM's CARD OF 'weirlaw6.ShareSums'. -/
def shareSumsUptoCard : Claim7 := { stood := { row := shareSumsUptoRow, standIns := [], harness := (true, "2451efb24b3f4a0c40b5bcd780cadb1d398a96d598c4a4f11fe44870a80caaab"), looks := true }, kinds := [], alts := [], laidByText := true, laidKinds := [.data, .pinned], laidTests := true, laidLooks := .later }
def ShareSumsUptoCardSaid : Prop := Claim7.holds Tryd.pinned (.plain (OpenSpec.upto shareSumsSpec)) shareSumsUptoCard

/-- THE SECOND FORM's CARD OF 'weirlaw6.LsmLast'. -/
def lsmLastUptoCard : Claim7 := { stood := { row := lsmLastUptoRow, standIns := [], harness := (true, "2451efb24b3f4a0c40b5bcd780cadb1d398a96d598c4a4f11fe44870a80caaab"), looks := true }, kinds := [], alts := [], laidByText := true, laidKinds := [.handle], laidTests := true, laidLooks := .later }
def LsmLastUptoCardSaid : Prop := Claim7.holds Tryd.pinned (.plain (OpenSpec.upto lsmLastSpec)) lsmLastUptoCard
end Rows
end Go.Proofs.YthobnigjhedjaaaDoor
