/-
  DERIVED. GIVEN WITH THE SEED: THE CARDS: each row of YtdnmdekmgbgioaaDoorRows.lean that lists a variable, with what it lists TIED to the program's text (the seventh form; the later family's looks); each row that meets fmt, with fmt's text TOLD by the authors' own Lean function (tested against real Go, not proved from fmt's source: count such statements apart). THE CARD IS WHAT COUNTS. Prove the row's statement (the work); the ties are given (YtdnmdekmgbgioaaDoorTie.lean); close each card by the builder's one call (the guide's Derived/Test/ToyasCard.lean, 'card_holds'). Laid BY PROGRAM, IN A SANDBOX (cutbox-door.mjs). By AI agents, Wed Nov 11 2026. No macro, syntax, notation, axiom, sorry.
-/
import Derived.Test.YtdnmdekmgbgioaaDoorRows
import GoSem.ClaimSeven
namespace Go.Proofs.YtdnmdekmgbgioaaDoor
namespace Rows

/-- THE TIED CARD OF 'weirlaw6.DiskAgain'. -/
def diskAgainCard : Claim7 := { stood := { row := diskAgainRow, standIns := [], harness := (true, "586f733f4eb20a7ed0a869a5d4b0f2675326ab9e5ef79df5c5f721a938c50e83"), looks := true }, kinds := [], alts := [], laidByText := true, laidKinds := [.data, .pinned], laidTests := true, laidLooks := .later }
def DiskAgainCardSaid : Prop := Claim7.holds Tryd.pinned (.plain (OpenSpec.ofChange diskAgainSpec)) diskAgainCard

/-- THE TIED CARD OF 'weirlaw6.ShareSums'. -/
def shareSumsCard : Claim7 := { stood := { row := shareSumsRow, standIns := [], harness := (true, "586f733f4eb20a7ed0a869a5d4b0f2675326ab9e5ef79df5c5f721a938c50e83"), looks := true }, kinds := [], alts := [], laidByText := true, laidKinds := [.data, .pinned], laidTests := true, laidLooks := .later }
def ShareSumsCardSaid : Prop := Claim7.holds Tryd.pinned (.plain (OpenSpec.ofChange shareSumsSpec)) shareSumsCard

/-- THE TIED CARD OF 'weirlaw6.LsmLast'. -/
def lsmLastCard : Claim7 := { stood := { row := lsmLastRow, standIns := [], harness := (true, "586f733f4eb20a7ed0a869a5d4b0f2675326ab9e5ef79df5c5f721a938c50e83"), looks := true }, kinds := [], alts := [], laidByText := true, laidKinds := [.handle], laidTests := true, laidLooks := .later }
def LsmLastCardSaid : Prop := Claim7.holds Tryd.pinned (.plain (OpenSpec.ofChange lsmLastSpec)) lsmLastCard

/-- THE SECOND FORM's CARD OF 'weirlaw6.DiskAgain'. -/
def diskAgainUptoCard : Claim7 := { stood := { row := diskAgainUptoRow, standIns := [], harness := (true, "586f733f4eb20a7ed0a869a5d4b0f2675326ab9e5ef79df5c5f721a938c50e83"), looks := true }, kinds := [], alts := [], laidByText := true, laidKinds := [.data, .pinned], laidTests := true, laidLooks := .later }
def DiskAgainUptoCardSaid : Prop := Claim7.holds Tryd.pinned (.plain (OpenSpec.upto diskAgainSpec)) diskAgainUptoCard

/-- THE SECOND FORM's CARD OF 'weirlaw6.ShareSums'. -/
def shareSumsUptoCard : Claim7 := { stood := { row := shareSumsUptoRow, standIns := [], harness := (true, "586f733f4eb20a7ed0a869a5d4b0f2675326ab9e5ef79df5c5f721a938c50e83"), looks := true }, kinds := [], alts := [], laidByText := true, laidKinds := [.data, .pinned], laidTests := true, laidLooks := .later }
def ShareSumsUptoCardSaid : Prop := Claim7.holds Tryd.pinned (.plain (OpenSpec.upto shareSumsSpec)) shareSumsUptoCard

/-- THE SECOND FORM's CARD OF 'weirlaw6.LsmLast'. -/
def lsmLastUptoCard : Claim7 := { stood := { row := lsmLastUptoRow, standIns := [], harness := (true, "586f733f4eb20a7ed0a869a5d4b0f2675326ab9e5ef79df5c5f721a938c50e83"), looks := true }, kinds := [], alts := [], laidByText := true, laidKinds := [.handle], laidTests := true, laidLooks := .later }
def LsmLastUptoCardSaid : Prop := Claim7.holds Tryd.pinned (.plain (OpenSpec.upto lsmLastSpec)) lsmLastUptoCard
end Rows
end Go.Proofs.YtdnmdekmgbgioaaDoor
