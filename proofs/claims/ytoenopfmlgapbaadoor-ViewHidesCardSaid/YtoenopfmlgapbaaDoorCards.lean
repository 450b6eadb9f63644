/-
  DERIVED. GIVEN WITH THE SEED: THE CARDS: each row of YtoenopfmlgapbaaDoorRows.lean that lists a variable, with what it lists TIED to the program's text (the seventh form; the later family's looks); each row that meets fmt, with fmt's text TOLD by the authors' own Lean function (tested against real Go, not proved from fmt's source: count such statements apart). THE CARD IS WHAT COUNTS. Prove the row's statement (the work); the ties are given (YtoenopfmlgapbaaDoorTie.lean); close each card by the builder's one call (the guide's Derived/Test/ToyasCard.lean, 'card_holds'). Laid BY PROGRAM, IN A SANDBOX (cutbox-door.mjs). By AI agents, Wed Nov 11 2026. No macro, syntax, notation, axiom, sorry.
-/
import Derived.Test.YtoenopfmlgapbaaDoorRows
import GoSem.ClaimSeven
namespace Go.Proofs.YtoenopfmlgapbaaDoor
namespace Rows

/-- THE TIED CARD OF 'waywardenlaw3.ViewHides'. -/
def viewHidesCard : Claim7 := { stood := { row := viewHidesRow, standIns := [], harness := (true, "a3612f74a1c23d753d9163641436fd3ecfae428e73a6c12fdfd925af37d76df4"), looks := true }, kinds := [], alts := [], laidByText := true, laidKinds := [.handle], laidTests := true, laidLooks := .later }
def ViewHidesCardSaid : Prop := Claim7.holds Tryd.pinned (.plain (OpenSpec.ofChange viewHidesSpec)) viewHidesCard

/-- THE TIED CARD OF 'waywardenlaw7.LineOwn'. -/
def lineOwnCard : Claim7 := { stood := { row := lineOwnRow, standIns := [], harness := (true, "a3612f74a1c23d753d9163641436fd3ecfae428e73a6c12fdfd925af37d76df4"), looks := true }, kinds := [], alts := [], laidByText := true, laidKinds := [.data], laidTests := true, laidLooks := .later }
def LineOwnCardSaid : Prop := Claim7.holds Tryd.pinned (.plain (OpenSpec.ofChange lineOwnSpec)) lineOwnCard

/-- THE SECOND FORM's CARD OF 'waywardenlaw3.ViewHides'. -/
def viewHidesUptoCard : Claim7 := { stood := { row := viewHidesUptoRow, standIns := [], harness := (true, "a3612f74a1c23d753d9163641436fd3ecfae428e73a6c12fdfd925af37d76df4"), looks := true }, kinds := [], alts := [], laidByText := true, laidKinds := [.handle], laidTests := true, laidLooks := .later }
def ViewHidesUptoCardSaid : Prop := Claim7.holds Tryd.pinned (.plain (OpenSpec.upto viewHidesSpec)) viewHidesUptoCard

/-- THE SECOND FORM's CARD OF 'waywardenlaw7.LineOwn'. -/
def lineOwnUptoCard : Claim7 := { stood := { row := lineOwnUptoRow, standIns := [], harness := (true, "a3612f74a1c23d753d9163641436fd3ecfae428e73a6c12fdfd925af37d76df4"), looks := true }, kinds := [], alts := [], laidByText := true, laidKinds := [.data], laidTests := true, laidLooks := .later }
def LineOwnUptoCardSaid : Prop := Claim7.holds Tryd.pinned (.plain (OpenSpec.upto lineOwnSpec)) lineOwnUptoCard
end Rows
end Go.Proofs.YtoenopfmlgapbaaDoor
