import Derived.Test.YtbmeeglehbaggaaNets
import Derived.WalkSpells
namespace Go.Proofs.Ytbmeeglehbaggaa
open Go.RowKit
theorem nts_one (l : List Nt) : ∀ u ∈ l.flatMap Nt.cells, u.oneCell' = true := fun u hu => by
  obtain ⟨x, _, hx⟩ := List.mem_flatMap.1 hu
  exact nt_one x u hx

end Go.Proofs.Ytbmeeglehbaggaa
