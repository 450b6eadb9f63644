/-
  DERIVED. GIVEN WITH THE SEED: THE CARDS: each row of YtenaboichkejhaaDoorRows.lean that lists a variable, with what it lists TIED to the program's text (the seventh form; the later family's looks); each row that meets fmt, with fmt's text TOLD by the authors' own Lean function (tested against real Go, not proved from fmt's source: count such statements apart). THE CARD IS WHAT COUNTS. Prove the row's statement (the work); the ties are given (YtenaboichkejhaaDoorTie.lean); close each card by the builder's one call (the guide's Derived/Test/ToyasCard.lean, 'card_holds'). Laid BY PROGRAM, IN A SANDBOX (cutbox-door.mjs). By AI agents, Wed Nov 11 2026. No macro, syntax, notation, axiom, sorry.
-/
import Derived.Test.YtenaboichkejhaaDoorRows
import GoSem.ClaimSeven
namespace Go.Proofs.YtenaboichkejhaaDoor
namespace Rows

/-- THE TIED CARD OF 'waywardenlaw7.LoopOwn'. -/
def loopOwnCard : Claim7 := { stood := { row := loopOwnRow, standIns := [], harness := (true, "ba4c3db9491983552c6aab6376243e8f5acdd23acbbc83b05a29f430dc7a539d"), looks := true }, kinds := [], alts := [], laidByText := true, laidKinds := [.handle], laidTests := true, laidLooks := .later }
def LoopOwnCardSaid : Prop := Claim7.holds Tryd.pinned (.plain (OpenSpec.ofChange loopOwnSpec)) loopOwnCard

/-- THE TIED CARD OF 'waywardenlaw6.PrefUps'. -/
def prefUpsCard : Claim7 := { stood := { row := prefUpsRow, standIns := [], harness := (true, "ba4c3db9491983552c6aab6376243e8f5acdd23acbbc83b05a29f430dc7a539d"), looks := true }, kinds := [], alts := [], laidByText := true, laidKinds := [.handle], laidTests := true, laidLooks := .later }
def PrefUpsCardSaid : Prop := Claim7.holds Tryd.pinned (.plain (OpenSpec.ofChange prefUpsSpec)) prefUpsCard

/-- THE SECOND FORM's CARD OF 'waywardenlaw7.LoopOwn'. -/
def loopOwnUptoCard : Claim7 := { stood := { row := loopOwnUptoRow, standIns := [], harness := (true, "ba4c3db9491983552c6aab6376243e8f5acdd23acbbc83b05a29f430dc7a539d"), looks := true }, kinds := [], alts := [], laidByText := true, laidKinds := [.handle], laidTests := true, laidLooks := .later }
def LoopOwnUptoCardSaid : Prop := Claim7.holds Tryd.pinned (.plain (OpenSpec.upto loopOwnSpec)) loopOwnUptoCard

/-- THE SECOND FORM's CARD OF 'waywardenlaw6.PrefUps'. -/
def prefUpsUptoCard : Claim7 := { stood := { row := prefUpsUptoRow, standIns := [], harness := (true, "ba4c3db9491983552c6aab6376243e8f5acdd23acbbc83b05a29f430dc7a539d"), looks := true }, kinds := [], alts := [], laidByText := true, laidKinds := [.handle], laidTests := true, laidLooks := .later }
def PrefUpsUptoCardSaid : Prop := Claim7.holds Tryd.pinned (.plain (OpenSpec.upto prefUpsSpec)) prefUpsUptoCard
end Rows
end Go.Proofs.YtenaboichkejhaaDoor
