/-
  DERIVED. GIVEN WITH THE SEED: THE CARDS: each row of YtbmeeglehbaggaaDoorRows.lean that lists a variable, with what it lists TIED to the program's text (the seventh form; the later family's looks); each row that meets fmt, with fmt's text TOLD by the authors' own Lean function (tested against real Go, not proved from fmt's source: count such statements apart). THE CARD IS WHAT COUNTS. Prove the row's statement (the work); the ties are given (YtbmeeglehbaggaaDoorTie.lean); close each card by the builder's one call (the guide's Derived/Test/ToyasCard.lean, 'card_holds'). Laid BY PROGRAM, IN A SANDBOX (cutbox-door.mjs). By AI agents, Wed Nov 11 2026. No macro, syntax, notation, axiom, sorry.
-/
import Derived.Test.YtbmeeglehbaggaaDoorRows
import GoSem.ClaimSeven
namespace Go.Proofs.YtbmeeglehbaggaaDoor
namespace Rows

/-- THE TIED CARD OF 'waywardenlaw7.LineOwn'. -/
def lineOwnCard : Claim7 := { stood := { row := lineOwnRow, standIns := [], harness := (true, "1a9e3f63fa0295df7dabe07c85cab3429ad847de1523d9746532fcdb70b2f063"), looks := true }, kinds := [], alts := [], laidByText := true, laidKinds := [.data], laidTests := true, laidLooks := .later }
def LineOwnCardSaid : Prop := Claim7.holds Tryd.pinned (.plain (OpenSpec.ofChange lineOwnSpec)) lineOwnCard

/-- THE TIED CARD OF 'waywardenlaw7.PlanOwn'. -/
def planOwnCard : Claim7 := { stood := { row := planOwnRow, standIns := [], harness := (true, "1a9e3f63fa0295df7dabe07c85cab3429ad847de1523d9746532fcdb70b2f063"), looks := true }, kinds := [], alts := [], laidByText := true, laidKinds := [.handle], laidTests := true, laidLooks := .later }
def PlanOwnCardSaid : Prop := Claim7.holds Tryd.pinned (.plain (OpenSpec.ofChange planOwnSpec)) planOwnCard

/-- THE TIED CARD OF 'waywardenlaw7.PickOwn'. -/
def pickOwnCard : Claim7 := { stood := { row := pickOwnRow, standIns := [], harness := (true, "1a9e3f63fa0295df7dabe07c85cab3429ad847de1523d9746532fcdb70b2f063"), looks := true }, kinds := [], alts := [], laidByText := true, laidKinds := [.handle], laidTests := true, laidLooks := .later }
def PickOwnCardSaid : Prop := Claim7.holds Tryd.pinned (.plain (OpenSpec.ofChange pickOwnSpec)) pickOwnCard

/-- THE TIED CARD OF 'waywardenlaw6.WheelClears'. -/
def wheelClearsCard : Claim7 := { stood := { row := wheelClearsRow, standIns := [], harness := (true, "1a9e3f63fa0295df7dabe07c85cab3429ad847de1523d9746532fcdb70b2f063"), looks := true }, kinds := [], alts := [], laidByText := true, laidKinds := [.handle], laidTests := true, laidLooks := .later }
def WheelClearsCardSaid : Prop := Claim7.holds Tryd.pinned (.plain (OpenSpec.ofChange wheelClearsSpec)) wheelClearsCard

/-- THE TIED CARD OF 'waywardenlaw7.WireOwn'. -/
def wireOwnCard : Claim7 := { stood := { row := wireOwnRow, standIns := [], harness := (true, "1a9e3f63fa0295df7dabe07c85cab3429ad847de1523d9746532fcdb70b2f063"), looks := true }, kinds := [], alts := [], laidByText := true, laidKinds := [.handle], laidTests := true, laidLooks := .later }
def WireOwnCardSaid : Prop := Claim7.holds Tryd.pinned (.plain (OpenSpec.ofChange wireOwnSpec)) wireOwnCard

/-- THE SECOND FORM's CARD OF 'waywardenlaw7.LineOwn'. -/
def lineOwnUptoCard : Claim7 := { stood := { row := lineOwnUptoRow, standIns := [], harness := (true, "1a9e3f63fa0295df7dabe07c85cab3429ad847de1523d9746532fcdb70b2f063"), looks := true }, kinds := [], alts := [], laidByText := true, laidKinds := [.data], laidTests := true, laidLooks := .later }
def LineOwnUptoCardSaid : Prop := Claim7.holds Tryd.pinned (.plain (OpenSpec.upto lineOwnSpec)) lineOwnUptoCard

/-- THE SECOND FORM's CARD OF 'waywardenlaw7.PlanOwn'. -/
def planOwnUptoCard : Claim7 := { stood := { row := planOwnUptoRow, standIns := [], harness := (true, "1a9e3f63fa0295df7dabe07c85cab3429ad847de1523d9746532fcdb70b2f063"), looks := true }, kinds := [], alts := [], laidByText := true, laidKinds := [.handle], laidTests := true, laidLooks := .later }
def PlanOwnUptoCardSaid : Prop := Claim7.holds Tryd.pinned (.plain (OpenSpec.upto planOwnSpec)) planOwnUptoCard

/-- THE SECOND FORM's CARD OF 'waywardenlaw7.PickOwn'. -/
def pickOwnUptoCard : Claim7 := { stood := { row := pickOwnUptoRow, standIns := [], harness := (true, "1a9e3f63fa0295df7dabe07c85cab3429ad847de1523d9746532fcdb70b2f063"), looks := true }, kinds := [], alts := [], laidByText := true, laidKinds := [.handle], laidTests := true, laidLooks := .later }
def PickOwnUptoCardSaid : Prop := Claim7.holds Tryd.pinned (.plain (OpenSpec.upto pickOwnSpec)) pickOwnUptoCard

/-- THE SECOND FORM's CARD OF 'waywardenlaw6.WheelClears'. -/
def wheelClearsUptoCard : Claim7 := { stood := { row := wheelClearsUptoRow, standIns := [], harness := (true, "1a9e3f63fa0295df7dabe07c85cab3429ad847de1523d9746532fcdb70b2f063"), looks := true }, kinds := [], alts := [], laidByText := true, laidKinds := [.handle], laidTests := true, laidLooks := .later }
def WheelClearsUptoCardSaid : Prop := Claim7.holds Tryd.pinned (.plain (OpenSpec.upto wheelClearsSpec)) wheelClearsUptoCard

/-- THE SECOND FORM's CARD OF 'waywardenlaw7.WireOwn'. -/
def wireOwnUptoCard : Claim7 := { stood := { row := wireOwnUptoRow, standIns := [], harness := (true, "1a9e3f63fa0295df7dabe07c85cab3429ad847de1523d9746532fcdb70b2f063"), looks := true }, kinds := [], alts := [], laidByText := true, laidKinds := [.handle], laidTests := true, laidLooks := .later }
def WireOwnUptoCardSaid : Prop := Claim7.holds Tryd.pinned (.plain (OpenSpec.upto wireOwnSpec)) wireOwnUptoCard
end Rows
end Go.Proofs.YtbmeeglehbaggaaDoor
