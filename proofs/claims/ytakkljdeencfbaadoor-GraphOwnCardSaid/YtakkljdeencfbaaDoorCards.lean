/-
  DERIVED. GIVEN WITH THE SEED: THE CARDS: each row of YtakkljdeencfbaaDoorRows.lean that lists a variable, with what it lists TIED to the program's text (the seventh form; the later family's looks); each row that meets fmt, with fmt's text TOLD by the authors' own Lean function (tested against real Go, not proved from fmt's source: count such statements apart). THE CARD IS WHAT COUNTS. Prove the row's statement (the work); the ties are given (YtakkljdeencfbaaDoorTie.lean); close each card by the builder's one call (the guide's Derived/Test/ToyasCard.lean, 'card_holds'). Laid BY PROGRAM, IN A SANDBOX (cutbox-door.mjs). By AI agents, Wed Nov 11 2026. No macro, syntax, notation, axiom, sorry.
-/
import Derived.Test.YtakkljdeencfbaaDoorRows
import GoSem.ClaimSeven
namespace Go.Proofs.YtakkljdeencfbaaDoor
namespace Rows

/-- THE TIED CARD OF 'waywardenlaw6.GraphOwn'. -/
def graphOwnCard : Claim7 := { stood := { row := graphOwnRow, standIns := [], harness := (true, "03290cb5b979adeb2a09147059b419511e1b18f266b124d53ca10bc84ac6a097"), looks := true }, kinds := [], alts := [], laidByText := true, laidKinds := [.handle], laidTests := true, laidLooks := .later }
def GraphOwnCardSaid : Prop := Claim7.holds Tryd.pinned (.plain (OpenSpec.ofChange graphOwnSpec)) graphOwnCard

/-- THE TIED CARD OF 'waywardenlaw7.BellOwn'. -/
def bellOwnCard : Claim7 := { stood := { row := bellOwnRow, standIns := [], harness := (true, "03290cb5b979adeb2a09147059b419511e1b18f266b124d53ca10bc84ac6a097"), looks := true }, kinds := [], alts := [], laidByText := true, laidKinds := [.handle], laidTests := true, laidLooks := .later }
def BellOwnCardSaid : Prop := Claim7.holds Tryd.pinned (.plain (OpenSpec.ofChange bellOwnSpec)) bellOwnCard

/-- THE TIED CARD OF 'waywardenlaw7.SpanOwn'. -/
def spanOwnCard : Claim7 := { stood := { row := spanOwnRow, standIns := [], harness := (true, "03290cb5b979adeb2a09147059b419511e1b18f266b124d53ca10bc84ac6a097"), looks := true }, kinds := [], alts := [], laidByText := true, laidKinds := [.handle], laidTests := true, laidLooks := .later }
def SpanOwnCardSaid : Prop := Claim7.holds Tryd.pinned (.plain (OpenSpec.ofChange spanOwnSpec)) spanOwnCard

/-- THE TIED CARD OF 'waywardenlaw7.SpfOwn'. -/
def spfOwnCard : Claim7 := { stood := { row := spfOwnRow, standIns := [], harness := (true, "03290cb5b979adeb2a09147059b419511e1b18f266b124d53ca10bc84ac6a097"), looks := true }, kinds := [], alts := [], laidByText := true, laidKinds := [.handle], laidTests := true, laidLooks := .later }
def SpfOwnCardSaid : Prop := Claim7.holds Tryd.pinned (.plain (OpenSpec.ofChange spfOwnSpec)) spfOwnCard

/-- THE TIED CARD OF 'waywardenlaw7.WaysOwn'. -/
def waysOwnCard : Claim7 := { stood := { row := waysOwnRow, standIns := [], harness := (true, "03290cb5b979adeb2a09147059b419511e1b18f266b124d53ca10bc84ac6a097"), looks := true }, kinds := [], alts := [], laidByText := true, laidKinds := [.handle], laidTests := true, laidLooks := .later }
def WaysOwnCardSaid : Prop := Claim7.holds Tryd.pinned (.plain (OpenSpec.ofChange waysOwnSpec)) waysOwnCard

/-- THE SECOND FORM's CARD OF 'waywardenlaw6.GraphOwn'. -/
def graphOwnUptoCard : Claim7 := { stood := { row := graphOwnUptoRow, standIns := [], harness := (true, "03290cb5b979adeb2a09147059b419511e1b18f266b124d53ca10bc84ac6a097"), looks := true }, kinds := [], alts := [], laidByText := true, laidKinds := [.handle], laidTests := true, laidLooks := .later }
def GraphOwnUptoCardSaid : Prop := Claim7.holds Tryd.pinned (.plain (OpenSpec.upto graphOwnSpec)) graphOwnUptoCard

/-- THE SECOND FORM's CARD OF 'waywardenlaw7.BellOwn'. -/
def bellOwnUptoCard : Claim7 := { stood := { row := bellOwnUptoRow, standIns := [], harness := (true, "03290cb5b979adeb2a09147059b419511e1b18f266b124d53ca10bc84ac6a097"), looks := true }, kinds := [], alts := [], laidByText := true, laidKinds := [.handle], laidTests := true, laidLooks := .later }
def BellOwnUptoCardSaid : Prop := Claim7.holds Tryd.pinned (.plain (OpenSpec.upto bellOwnSpec)) bellOwnUptoCard

/-- THE SECOND FORM's CARD OF 'waywardenlaw7.SpanOwn'. -/
def spanOwnUptoCard : Claim7 := { stood := { row := spanOwnUptoRow, standIns := [], harness := (true, "03290cb5b979adeb2a09147059b419511e1b18f266b124d53ca10bc84ac6a097"), looks := true }, kinds := [], alts := [], laidByText := true, laidKinds := [.handle], laidTests := true, laidLooks := .later }
def SpanOwnUptoCardSaid : Prop := Claim7.holds Tryd.pinned (.plain (OpenSpec.upto spanOwnSpec)) spanOwnUptoCard

/-- THE SECOND FORM's CARD OF 'waywardenlaw7.SpfOwn'. -/
def spfOwnUptoCard : Claim7 := { stood := { row := spfOwnUptoRow, standIns := [], harness := (true, "03290cb5b979adeb2a09147059b419511e1b18f266b124d53ca10bc84ac6a097"), looks := true }, kinds := [], alts := [], laidByText := true, laidKinds := [.handle], laidTests := true, laidLooks := .later }
def SpfOwnUptoCardSaid : Prop := Claim7.holds Tryd.pinned (.plain (OpenSpec.upto spfOwnSpec)) spfOwnUptoCard

/-- THE SECOND FORM's CARD OF 'waywardenlaw7.WaysOwn'. -/
def waysOwnUptoCard : Claim7 := { stood := { row := waysOwnUptoRow, standIns := [], harness := (true, "03290cb5b979adeb2a09147059b419511e1b18f266b124d53ca10bc84ac6a097"), looks := true }, kinds := [], alts := [], laidByText := true, laidKinds := [.handle], laidTests := true, laidLooks := .later }
def WaysOwnUptoCardSaid : Prop := Claim7.holds Tryd.pinned (.plain (OpenSpec.upto waysOwnSpec)) waysOwnUptoCard
end Rows
end Go.Proofs.YtakkljdeencfbaaDoor
