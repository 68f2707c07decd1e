/-
  DERIVED. GIVEN WITH THE SEED: THE CARDS: each row of YtmcmejmfaihclaaDoorRows.lean that lists a variable, with what it lists TIED to the program's text (the seventh form; the later family's looks); each row that meets fmt, with fmt's text TOLD by the authors' own Lean function (tested against real Go, not proved from fmt's source: count such statements apart). THE CARD IS WHAT COUNTS. Prove the row's statement (the work); the ties are given (YtmcmejmfaihclaaDoorTie.lean); close each card by the builder's one call (the guide's Derived/Test/ToyasCard.lean, 'card_holds'). Laid BY PROGRAM, IN A SANDBOX (cutbox-door.mjs). By AI agents, Wed Nov 11 2026. No macro, syntax, notation, axiom, sorry.
-/
import Derived.Test.YtmcmejmfaihclaaDoorRows
import GoSem.ClaimSeven
namespace Go.Proofs.YtmcmejmfaihclaaDoor
namespace Rows

/-- THE TIED CARD OF 'weirlaw1.GroupKeys'. -/
def groupKeysCard : Claim7 := { stood := { row := groupKeysRow, standIns := [], harness := (true, "ae9e845ec9e86c7201a9fec69e6add4975bce95b6f191c95ad55e64f23ae2f4e"), looks := true }, kinds := [], alts := [], laidByText := true, laidKinds := [.handle], laidTests := true, laidLooks := .later }
def GroupKeysCardSaid : Prop := Claim7.holds Tryd.pinned (.plain (OpenSpec.ofChange groupKeysSpec)) groupKeysCard

/-- THE TIED CARD OF 'weirlaw1.GroupCrews'. -/
def groupCrewsCard : Claim7 := { stood := { row := groupCrewsRow, standIns := [], harness := (true, "ae9e845ec9e86c7201a9fec69e6add4975bce95b6f191c95ad55e64f23ae2f4e"), looks := true }, kinds := [], alts := [], laidByText := true, laidKinds := [.handle], laidTests := true, laidLooks := .later }
def GroupCrewsCardSaid : Prop := Claim7.holds Tryd.pinned (.plain (OpenSpec.ofChange groupCrewsSpec)) groupCrewsCard

/-- THE TIED CARD OF 'weirlaw3.SinkPlays'. -/
def sinkPlaysCard : Claim7 := { stood := { row := sinkPlaysRow, standIns := [], harness := (true, "ae9e845ec9e86c7201a9fec69e6add4975bce95b6f191c95ad55e64f23ae2f4e"), looks := true }, kinds := [], alts := [], laidByText := true, laidKinds := [.handle], laidTests := true, laidLooks := .later }
def SinkPlaysCardSaid : Prop := Claim7.holds Tryd.pinned (.plain (OpenSpec.ofChange sinkPlaysSpec)) sinkPlaysCard

/-- THE SECOND FORM's CARD OF 'weirlaw1.GroupKeys'. -/
def groupKeysUptoCard : Claim7 := { stood := { row := groupKeysUptoRow, standIns := [], harness := (true, "ae9e845ec9e86c7201a9fec69e6add4975bce95b6f191c95ad55e64f23ae2f4e"), looks := true }, kinds := [], alts := [], laidByText := true, laidKinds := [.handle], laidTests := true, laidLooks := .later }
def GroupKeysUptoCardSaid : Prop := Claim7.holds Tryd.pinned (.plain (OpenSpec.upto groupKeysSpec)) groupKeysUptoCard

/-- THE SECOND FORM's CARD OF 'weirlaw1.GroupCrews'. -/
def groupCrewsUptoCard : Claim7 := { stood := { row := groupCrewsUptoRow, standIns := [], harness := (true, "ae9e845ec9e86c7201a9fec69e6add4975bce95b6f191c95ad55e64f23ae2f4e"), looks := true }, kinds := [], alts := [], laidByText := true, laidKinds := [.handle], laidTests := true, laidLooks := .later }
def GroupCrewsUptoCardSaid : Prop := Claim7.holds Tryd.pinned (.plain (OpenSpec.upto groupCrewsSpec)) groupCrewsUptoCard

/-- THE SECOND FORM's CARD OF 'weirlaw3.SinkPlays'. -/
def sinkPlaysUptoCard : Claim7 := { stood := { row := sinkPlaysUptoRow, standIns := [], harness := (true, "ae9e845ec9e86c7201a9fec69e6add4975bce95b6f191c95ad55e64f23ae2f4e"), looks := true }, kinds := [], alts := [], laidByText := true, laidKinds := [.handle], laidTests := true, laidLooks := .later }
def SinkPlaysUptoCardSaid : Prop := Claim7.holds Tryd.pinned (.plain (OpenSpec.upto sinkPlaysSpec)) sinkPlaysUptoCard
end Rows
end Go.Proofs.YtmcmejmfaihclaaDoor
