import Derived.Test.YtfjempfffdeklaaDoorArgBest
import Derived.Test.YtfjempfffdeklaaDoorSmall
namespace Go
open Go.ChangeShapes Go.WideShapes Go.ChangeAt Go.RowKit
theorem bests_small {H : Type} {P : Program} {ts : List TypeId} {ds : List (DataW H)} {j : Nat} {t e q r : TypeId} {fs : Array Field} {d dd : DataW H} {pl : List MemPlace} {W : World} {x : BestR} (hsz : (DataW.weightsEach P ts ds).all (· ≤ reachBytes) = true) (ht : ts[j]? = some t) (hd : ds[j]? = some d)
    (hu : P.underlying t = some (.slice e)) (he : P.underlying e = some (.struct fs)) (hf : (fs.toList.map (·.type))[2]? = some q) (hq : P.underlying q = some (.slice r)) (hb : P.bytesOf r = 8) (ho : bestOpen W x dd pl) (hm : ∃ el sp, d = .slice el sp ∧ dd ∈ el) : x.h.length * 8 ≤ 140737488351232 := by
  obtain ⟨hw, -, hs⟩ := ho
  have h1 : x.h.length ≤ x.C := hw.2.2.1
  rcases hs with hs | ⟨u0, u1, e', s', rfl, hl⟩
  · omega
  · obtain ⟨el, sp, rfl, hm⟩ := hm
    have h2 := field_small hsz ht hd hu he hm rfl hf hq
    rw [hb, hl] at h2
    have h3 : reachBytes = 140737488351232 := rfl
    omega
end Go
