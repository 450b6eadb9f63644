import Derived.Test.YtfjempfffdeklaaDoorCosts
import Derived.Test.YtfjempfffdeklaaDoorSpanMath
namespace Go
open Go.RowKit

theorem lk_nodup {n : Int} : ∀ (l : List Lk) (seen : List (Int × Int)), Proofs.YtfjempfffdeklaaDoor.lkErr n seen l = none → (l.map fun x => (Proofs.YtfjempfffdeklaaDoor.Lk.lo x, Proofs.YtfjempfffdeklaaDoor.Lk.hi x)).Nodup ∧ ∀ x ∈ l, (Proofs.YtfjempfffdeklaaDoor.Lk.lo x, Proofs.YtfjempfffdeklaaDoor.Lk.hi x) ∉ seen
  | [], _, _ => ⟨by simp, fun x hx => absurd hx (by simp)⟩
  | y :: l, seen, h => by
    rw [Proofs.YtfjempfffdeklaaDoor.lkErr_cons] at h
    split at h
    · cases h
    · split at h
      · cases h
      · split at h
        · cases h
        · rename_i h3
          obtain ⟨h1, h2⟩ := lk_nodup l _ h
          refine ⟨?_, fun x hx => ?_⟩
          · rw [List.map_cons, List.nodup_cons]
            refine ⟨fun hm => ?_, h1⟩
            obtain ⟨z, hz, hze⟩ := List.mem_map.1 hm
            exact h2 z hz (by rw [hze]; simp)
          · rcases List.mem_cons.1 hx with rfl | hx
            · exact h3
            · exact fun hs => h2 x hx (by simp [hs])
end Go
namespace Go.Proofs.YtfjempfffdeklaaDoor
open Go.RowKit

/-- What the check lets through. -/
theorem graph_ok {n : Int} {l : List Lk} (h : graphErr n l = none) : (1 ≤ n ∧ n ≤ 8) ∧ (∀ x ∈ l, ¬ Lk.bad n x ∧ x.a ≠ x.b) ∧ l.length ≤ 64 := by
  unfold graphErr at h
  split at h
  · cases h
  · rename_i hn
    have hn' : 1 ≤ n ∧ n ≤ 8 := by omega
    have hk := lkErr_ok l [] h
    refine ⟨hn', hk, ?_⟩
    have hd := (lk_nodup l [] h).1
    have hlt : ∀ x ∈ l, (0 ≤ Lk.lo x ∧ Lk.lo x < 8) ∧ (0 ≤ Lk.hi x ∧ Lk.hi x < 8) := fun x hx => by
      have := (hk x hx).1
      unfold Lk.bad at this
      unfold Lk.lo Lk.hi
      split <;> split <;> omega
    have := nodup_le 64 (l.map fun x => (Lk.lo x * 8 + Lk.hi x).toNat) (by
      unfold List.Nodup at *
      rw [List.pairwise_map] at *
      exact hd.imp_of_mem (fun {x y} hx hy hne he => hne (by
        have h1 := hlt x hx
        have h2 := hlt y hy
        have : Lk.lo x = Lk.lo y ∧ Lk.hi x = Lk.hi y := by omega
        rw [this.1, this.2]))) (fun v hv => by
      obtain ⟨x, hx, rfl⟩ := List.mem_map.1 hv
      have h1 := hlt x hx
      omega)
    simpa using this
end Go.Proofs.YtfjempfffdeklaaDoor
