/-
  DERIVED. GIVEN WITH THE SEED: THE CARDS: each row of YtfjempfffdeklaaDoorRows.lean that lists a variable, with what it lists TIED to the program's text (the seventh form; the later family's looks); each row that meets fmt, with fmt's text TOLD by the authors' own Lean function (tested against real Go, not proved from fmt's source: count such statements apart). THE CARD IS WHAT COUNTS. Prove the row's statement (the work); the ties are given (YtfjempfffdeklaaDoorTie.lean); close each card by the builder's one call (the guide's Derived/Test/ToyasCard.lean, 'card_holds'). Laid BY PROGRAM, IN A SANDBOX (cutbox-door.mjs). By AI agents, Wed Nov 11 2026. No macro, syntax, notation, axiom, sorry.
-/
import Derived.Test.YtfjempfffdeklaaDoorRows
import GoSem.ClaimSeven
namespace Go.Proofs.YtfjempfffdeklaaDoor
namespace Rows

/-- THE TIED CARD OF 'waywardenlaw3.ViewTells'. -/
def viewTellsCard : Claim7 := { stood := { row := viewTellsRow, standIns := [], harness := (true, "570a7a594db172276be7361a4698ed1185a4e81fe016e8aad76a6faef397796f"), looks := true }, kinds := [], alts := [], laidByText := true, laidKinds := [.handle], laidTests := true, laidLooks := .later }
def ViewTellsCardSaid : Prop := Claim7.holds Tryd.pinned (.plain (OpenSpec.ofChange viewTellsSpec)) viewTellsCard

/-- THE TIED CARD OF 'waywardenlaw7.ViewOwn'. -/
def viewOwnCard : Claim7 := { stood := { row := viewOwnRow, standIns := [], harness := (true, "570a7a594db172276be7361a4698ed1185a4e81fe016e8aad76a6faef397796f"), looks := true }, kinds := [], alts := [], laidByText := true, laidKinds := [.handle], laidTests := true, laidLooks := .later }
def ViewOwnCardSaid : Prop := Claim7.holds Tryd.pinned (.plain (OpenSpec.ofChange viewOwnSpec)) viewOwnCard

/-- THE TIED CARD OF 'waywardenlaw3.BestTells'. -/
def bestTellsCard : Claim7 := { stood := { row := bestTellsRow, standIns := [], harness := (true, "570a7a594db172276be7361a4698ed1185a4e81fe016e8aad76a6faef397796f"), looks := true }, kinds := [], alts := [], laidByText := true, laidKinds := [.handle], laidTests := true, laidLooks := .later }
def BestTellsCardSaid : Prop := Claim7.holds Tryd.pinned (.plain (OpenSpec.ofChange bestTellsSpec)) bestTellsCard

/-- THE TIED CARD OF 'waywardenlaw3.BestWhole'. -/
def bestWholeCard : Claim7 := { stood := { row := bestWholeRow, standIns := [], harness := (true, "570a7a594db172276be7361a4698ed1185a4e81fe016e8aad76a6faef397796f"), looks := true }, kinds := [], alts := [], laidByText := true, laidKinds := [.handle], laidTests := true, laidLooks := .later }
def BestWholeCardSaid : Prop := Claim7.holds Tryd.pinned (.plain (OpenSpec.ofChange bestWholeSpec)) bestWholeCard

/-- THE TIED CARD OF 'waywardenlaw3.BestEngine'. -/
def bestEngineCard : Claim7 := { stood := { row := bestEngineRow, standIns := [], harness := (true, "570a7a594db172276be7361a4698ed1185a4e81fe016e8aad76a6faef397796f"), looks := true }, kinds := [], alts := [], laidByText := true, laidKinds := [.handle], laidTests := true, laidLooks := .later }
def BestEngineCardSaid : Prop := Claim7.holds Tryd.pinned (.plain (OpenSpec.ofChange bestEngineSpec)) bestEngineCard

/-- THE TIED CARD OF 'waywardenlaw6.LineSame'. -/
def lineSameCard : Claim7 := { stood := { row := lineSameRow, standIns := [], harness := (true, "570a7a594db172276be7361a4698ed1185a4e81fe016e8aad76a6faef397796f"), looks := true }, kinds := [], alts := [], laidByText := true, laidKinds := [.handle, .data], laidTests := true, laidLooks := .later }
def LineSameCardSaid : Prop := Claim7.holds Tryd.pinned (.plain (OpenSpec.ofChange lineSameSpec)) lineSameCard

/-- THE TIED CARD OF 'waywardenlaw3.RibTells'. -/
def ribTellsCard : Claim7 := { stood := { row := ribTellsRow, standIns := [], harness := (true, "570a7a594db172276be7361a4698ed1185a4e81fe016e8aad76a6faef397796f"), looks := true }, kinds := [], alts := [], laidByText := true, laidKinds := [.handle], laidTests := true, laidLooks := .later }
def RibTellsCardSaid : Prop := Claim7.holds Tryd.pinned (.plain (OpenSpec.ofChange ribTellsSpec)) ribTellsCard

/-- THE TIED CARD OF 'waywardenlaw3.TrigTells'. -/
def trigTellsCard : Claim7 := { stood := { row := trigTellsRow, standIns := [], harness := (true, "570a7a594db172276be7361a4698ed1185a4e81fe016e8aad76a6faef397796f"), looks := true }, kinds := [], alts := [], laidByText := true, laidKinds := [.handle], laidTests := true, laidLooks := .later }
def TrigTellsCardSaid : Prop := Claim7.holds Tryd.pinned (.plain (OpenSpec.ofChange trigTellsSpec)) trigTellsCard

/-- THE TIED CARD OF 'waywardenlaw6.TrieOrder'. -/
def trieOrderCard : Claim7 := { stood := { row := trieOrderRow, standIns := [], harness := (true, "570a7a594db172276be7361a4698ed1185a4e81fe016e8aad76a6faef397796f"), looks := true }, kinds := [], alts := [], laidByText := true, laidKinds := [.handle], laidTests := true, laidLooks := .later }
def TrieOrderCardSaid : Prop := Claim7.holds Tryd.pinned (.plain (OpenSpec.ofChange trieOrderSpec)) trieOrderCard

/-- THE TIED CARD OF 'waywardenlaw7.SppOwn'. -/
def sppOwnCard : Claim7 := { stood := { row := sppOwnRow, standIns := [], harness := (true, "570a7a594db172276be7361a4698ed1185a4e81fe016e8aad76a6faef397796f"), looks := true }, kinds := [], alts := [], laidByText := true, laidKinds := [.handle], laidTests := true, laidLooks := .later }
def SppOwnCardSaid : Prop := Claim7.holds Tryd.pinned (.plain (OpenSpec.ofChange sppOwnSpec)) sppOwnCard

/-- THE SECOND FORM's CARD OF 'waywardenlaw3.ViewTells'. -/
def viewTellsUptoCard : Claim7 := { stood := { row := viewTellsUptoRow, standIns := [], harness := (true, "570a7a594db172276be7361a4698ed1185a4e81fe016e8aad76a6faef397796f"), looks := true }, kinds := [], alts := [], laidByText := true, laidKinds := [.handle], laidTests := true, laidLooks := .later }
def ViewTellsUptoCardSaid : Prop := Claim7.holds Tryd.pinned (.plain (OpenSpec.upto viewTellsSpec)) viewTellsUptoCard

/-- THE SECOND FORM's CARD OF 'waywardenlaw7.ViewOwn'. -/
def viewOwnUptoCard : Claim7 := { stood := { row := viewOwnUptoRow, standIns := [], harness := (true, "570a7a594db172276be7361a4698ed1185a4e81fe016e8aad76a6faef397796f"), looks := true }, kinds := [], alts := [], laidByText := true, laidKinds := [.handle], laidTests := true, laidLooks := .later }
def ViewOwnUptoCardSaid : Prop := Claim7.holds Tryd.pinned (.plain (OpenSpec.upto viewOwnSpec)) viewOwnUptoCard

/-- THE SECOND FORM's CARD OF 'waywardenlaw3.BestTells'. -/
def bestTellsUptoCard : Claim7 := { stood := { row := bestTellsUptoRow, standIns := [], harness := (true, "570a7a594db172276be7361a4698ed1185a4e81fe016e8aad76a6faef397796f"), looks := true }, kinds := [], alts := [], laidByText := true, laidKinds := [.handle], laidTests := true, laidLooks := .later }
def BestTellsUptoCardSaid : Prop := Claim7.holds Tryd.pinned (.plain (OpenSpec.upto bestTellsSpec)) bestTellsUptoCard

/-- THE SECOND FORM's CARD OF 'waywardenlaw3.BestWhole'. -/
def bestWholeUptoCard : Claim7 := { stood := { row := bestWholeUptoRow, standIns := [], harness := (true, "570a7a594db172276be7361a4698ed1185a4e81fe016e8aad76a6faef397796f"), looks := true }, kinds := [], alts := [], laidByText := true, laidKinds := [.handle], laidTests := true, laidLooks := .later }
def BestWholeUptoCardSaid : Prop := Claim7.holds Tryd.pinned (.plain (OpenSpec.upto bestWholeSpec)) bestWholeUptoCard

/-- THE SECOND FORM's CARD OF 'waywardenlaw3.BestEngine'. -/
def bestEngineUptoCard : Claim7 := { stood := { row := bestEngineUptoRow, standIns := [], harness := (true, "570a7a594db172276be7361a4698ed1185a4e81fe016e8aad76a6faef397796f"), looks := true }, kinds := [], alts := [], laidByText := true, laidKinds := [.handle], laidTests := true, laidLooks := .later }
def BestEngineUptoCardSaid : Prop := Claim7.holds Tryd.pinned (.plain (OpenSpec.upto bestEngineSpec)) bestEngineUptoCard

/-- THE SECOND FORM's CARD OF 'waywardenlaw6.LineSame'. -/
def lineSameUptoCard : Claim7 := { stood := { row := lineSameUptoRow, standIns := [], harness := (true, "570a7a594db172276be7361a4698ed1185a4e81fe016e8aad76a6faef397796f"), looks := true }, kinds := [], alts := [], laidByText := true, laidKinds := [.handle, .data], laidTests := true, laidLooks := .later }
def LineSameUptoCardSaid : Prop := Claim7.holds Tryd.pinned (.plain (OpenSpec.upto lineSameSpec)) lineSameUptoCard

/-- THE SECOND FORM's CARD OF 'waywardenlaw3.RibTells'. -/
def ribTellsUptoCard : Claim7 := { stood := { row := ribTellsUptoRow, standIns := [], harness := (true, "570a7a594db172276be7361a4698ed1185a4e81fe016e8aad76a6faef397796f"), looks := true }, kinds := [], alts := [], laidByText := true, laidKinds := [.handle], laidTests := true, laidLooks := .later }
def RibTellsUptoCardSaid : Prop := Claim7.holds Tryd.pinned (.plain (OpenSpec.upto ribTellsSpec)) ribTellsUptoCard

/-- THE SECOND FORM's CARD OF 'waywardenlaw3.TrigTells'. -/
def trigTellsUptoCard : Claim7 := { stood := { row := trigTellsUptoRow, standIns := [], harness := (true, "570a7a594db172276be7361a4698ed1185a4e81fe016e8aad76a6faef397796f"), looks := true }, kinds := [], alts := [], laidByText := true, laidKinds := [.handle], laidTests := true, laidLooks := .later }
def TrigTellsUptoCardSaid : Prop := Claim7.holds Tryd.pinned (.plain (OpenSpec.upto trigTellsSpec)) trigTellsUptoCard

/-- THE SECOND FORM's CARD OF 'waywardenlaw6.TrieOrder'. -/
def trieOrderUptoCard : Claim7 := { stood := { row := trieOrderUptoRow, standIns := [], harness := (true, "570a7a594db172276be7361a4698ed1185a4e81fe016e8aad76a6faef397796f"), looks := true }, kinds := [], alts := [], laidByText := true, laidKinds := [.handle], laidTests := true, laidLooks := .later }
def TrieOrderUptoCardSaid : Prop := Claim7.holds Tryd.pinned (.plain (OpenSpec.upto trieOrderSpec)) trieOrderUptoCard

/-- THE SECOND FORM's CARD OF 'waywardenlaw7.SppOwn'. -/
def sppOwnUptoCard : Claim7 := { stood := { row := sppOwnUptoRow, standIns := [], harness := (true, "570a7a594db172276be7361a4698ed1185a4e81fe016e8aad76a6faef397796f"), looks := true }, kinds := [], alts := [], laidByText := true, laidKinds := [.handle], laidTests := true, laidLooks := .later }
def SppOwnUptoCardSaid : Prop := Claim7.holds Tryd.pinned (.plain (OpenSpec.upto sppOwnSpec)) sppOwnUptoCard
end Rows
end Go.Proofs.YtfjempfffdeklaaDoor
