/-
  DERIVED. GIVEN WITH THE SEED: THE CARDS: each row of YtfglidaicjjpfaaGreatDoorRows.lean that lists a variable, with what it lists TIED to the program's text (the seventh form; the later family's looks); each row that meets fmt, with fmt's text TOLD by the authors' own Lean function (tested against real Go, not proved from fmt's source: count such statements apart). THE CARD IS WHAT COUNTS. Prove the row's statement (the work); the ties are given (YtfglidaicjjpfaaGreatDoorTie.lean); close each card by the builder's one call (the guide's Derived/Test/ToyasCard.lean, 'card_holds'). Laid BY PROGRAM, IN A SANDBOX (cutbox-door.mjs). By AI agents, Wed Nov 11 2026. No macro, syntax, notation, axiom, sorry.
-/
import Derived.Test.YtfglidaicjjpfaaGreatDoorRows
import GoSem.ClaimSeven
namespace Go.Proofs.YtfglidaicjjpfaaGreatDoor
namespace Rows

/-- THE TIED CARD OF 'waywardenlaw3.DaemonBad'. -/
def daemonBadCard : Claim7 := { stood := { row := daemonBadRow, standIns := [], harness := (true, "0095c7970d727e0365f455717386df79668f1c8288ba7aed3c5b0ac964ae3823"), looks := true }, kinds := [], alts := [], laidByText := true, laidKinds := [.handle], laidTests := true, laidLooks := .later }
def DaemonBadCardSaid : Prop := Claim7.holds Tryz.pinned (.plain (OpenSpec.ofChange daemonBadSpec)) daemonBadCard

/-- THE TIED CARD OF 'waywardenlaw3.DaemonTells'. -/
def daemonTellsCard : Claim7 := { stood := { row := daemonTellsRow, standIns := [], harness := (true, "0095c7970d727e0365f455717386df79668f1c8288ba7aed3c5b0ac964ae3823"), looks := true }, kinds := [], alts := [], laidByText := true, laidKinds := [.handle], laidTests := true, laidLooks := .later }
def DaemonTellsCardSaid : Prop := Claim7.holds Tryz.pinned (.plain (OpenSpec.ofChange daemonTellsSpec)) daemonTellsCard

/-- THE SECOND FORM's CARD OF 'waywardenlaw3.DaemonBad'. -/
def daemonBadUptoCard : Claim7 := { stood := { row := daemonBadUptoRow, standIns := [], harness := (true, "0095c7970d727e0365f455717386df79668f1c8288ba7aed3c5b0ac964ae3823"), looks := true }, kinds := [], alts := [], laidByText := true, laidKinds := [.handle], laidTests := true, laidLooks := .later }
def DaemonBadUptoCardSaid : Prop := Claim7.holds Tryz.pinned (.plain (OpenSpec.upto daemonBadSpec)) daemonBadUptoCard

/-- THE SECOND FORM's CARD OF 'waywardenlaw3.DaemonTells'. -/
def daemonTellsUptoCard : Claim7 := { stood := { row := daemonTellsUptoRow, standIns := [], harness := (true, "0095c7970d727e0365f455717386df79668f1c8288ba7aed3c5b0ac964ae3823"), looks := true }, kinds := [], alts := [], laidByText := true, laidKinds := [.handle], laidTests := true, laidLooks := .later }
def DaemonTellsUptoCardSaid : Prop := Claim7.holds Tryz.pinned (.plain (OpenSpec.upto daemonTellsSpec)) daemonTellsUptoCard
end Rows
end Go.Proofs.YtfglidaicjjpfaaGreatDoor
