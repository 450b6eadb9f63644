import Derived.Test.YtakkljdeencfbaaDoorSpfMath
import Derived.Test.YtakkljdeencfbaaDoorGOk
namespace Go.Proofs.YtakkljdeencfbaaDoor
open Go.RowKit

theorem fold_keep {n : Nat} : ∀ (l : List Lk) (rs : List (List Int)), Sq n rs → (∀ x ∈ l, x.a.toNat < n ∧ x.b.toNat < n) → ∀ p q : Nat, (∀ x ∈ l, ¬ (p = x.b.toNat ∧ q = x.a.toNat) ∧ ¬ (p = x.a.toNat ∧ q = x.b.toNat)) → at2 (l.foldl putL rs) p q = at2 rs p q
  | [], _, _, _, _, _, _ => rfl
  | y :: l, rs, h, hl, p, q, hpq => by
    rw [List.foldl_cons, fold_keep l _ (putL_sq h y (hl y (by simp)).1 (hl y (by simp)).2) (fun x hx => hl x (by simp [hx])) p q (fun x hx => hpq x (by simp [hx])), putL_at h y (hl y (by simp)).1 (hl y (by simp)).2]
    have := hpq y (by simp)
    rw [if_neg this.1, if_neg this.2]
theorem one_at {n : Nat} {p q : Nat} (hp : p < n) (hq : q < n) : at2 (ran n (oneRow n)) p q = if q = p then 0 else 16 := by
  unfold at2
  rw [nth_ran n _ p hp, oneRow, nth_set _ _ _ _ (by simpa using hp)]
  split
  · rfl
  · rw [nth_replicate _ _ _ hq]
/-- One link more. -/
theorem cost_more {N : Nat} {l : List Lk} {x : Lk} (h : graphErr N (l ++ [x]) = none) :
    (∀ i k, i < N → k < N → at2 (costsM N (l ++ [x])) i k ≤ at2 (costsM N l) i k) ∧ at2 (costsM N (l ++ [x])) x.a.toNat x.b.toNat = x.c ∧ at2 (costsM N (l ++ [x])) x.b.toNat x.a.toNat = x.c := by
  obtain ⟨hn, hk, -⟩ := graph_ok h
  have hd : ((l ++ [x]).map fun x => (Lk.lo x, Lk.hi x)).Nodup := by
    unfold graphErr at h
    split at h
    · cases h
    · exact (lk_nodup _ [] h).1
  have hb : ∀ y ∈ l ++ [x], y.a.toNat < N ∧ y.b.toNat < N ∧ 0 ≤ y.a ∧ 0 ≤ y.b ∧ 1 ≤ y.c ∧ y.c ≤ 15 ∧ y.a ≠ y.b := fun y hy => by
    obtain ⟨h1, h2⟩ := hk y hy
    unfold Lk.bad at h1
    omega
  have hx := hb x (by simp)
  have hsq : Sq N (costsM N l) := fold_sq l _ (one_sq N) (fun y hy => ⟨(hb y (by simp [hy])).1, (hb y (by simp [hy])).2.1⟩)
  have he : costsM N (l ++ [x]) = putL (costsM N l) x := by unfold costsM; rw [List.foldl_append]; rfl
  have hne : ∀ y ∈ l, (Lk.lo y, Lk.hi y) ≠ (Lk.lo x, Lk.hi x) := fun y hy hyx => by
    rw [List.map_append, List.nodup_append] at hd
    exact hd.2.2 _ (List.mem_map.2 ⟨y, hy, rfl⟩) _ (by simp) hyx
  have hno : ∀ p q : Nat, p < N → q < N → p ≠ q → (p = x.a.toNat ∧ q = x.b.toNat ∨ p = x.b.toNat ∧ q = x.a.toNat) → at2 (costsM N l) p q = 16 := fun p q hp hq hpq hor => by
    unfold costsM
    rw [fold_keep l _ (one_sq N) (fun y hy => ⟨(hb y (by simp [hy])).1, (hb y (by simp [hy])).2.1⟩) p q (fun y hy => ?_), one_at hp hq, if_neg (fun e => hpq e.symm)]
    have h1 := hne y hy
    have h2 := hb y (by simp [hy])
    have h3 : ¬ (y.a = x.a ∧ y.b = x.b) ∧ ¬ (y.a = x.b ∧ y.b = x.a) := by
      constructor
      · rintro ⟨e1, e2⟩
        exact h1 (by simp only [Lk.lo, Lk.hi, e1, e2])
      · rintro ⟨e1, e2⟩
        refine h1 ?_
        simp only [Lk.lo, Lk.hi, e1, e2, Prod.mk.injEq]
        constructor <;> split <;> split <;> omega
    omega
  rw [he]
  refine ⟨fun i k hi hk => ?_, ?_, ?_⟩
  · rw [putL_at hsq x hx.1 hx.2.1]
    split
    · rename_i e
      rw [hno i k hi hk (by omega) (.inr e)]; omega
    · split
      · rename_i e
        rw [hno i k hi hk (by omega) (.inl e)]; omega
      · exact Int.le_refl _
  · rw [putL_at hsq x hx.1 hx.2.1, if_neg (by omega), if_pos ⟨rfl, rfl⟩]
  · rw [putL_at hsq x hx.1 hx.2.1, if_pos ⟨rfl, rfl⟩]

/-- The one net that is asked first. -/
theorem far_one {far : List Int} (h : IsFar 2 (fun i k => at2 (costsM 2 [⟨0, 1, 3⟩]) i k) 0 far) : far = [0, 3] := by
  refine h.eq ⟨rfl, rfl, fun v hv => ?_, fun u k hu hk => ?_, fun v hv _ => ?_⟩
  · rcases (by omega : v = 0 ∨ v = 1) with rfl | rfl <;> decide
  · rcases (by omega : u = 0 ∨ u = 1) with rfl | rfl <;> rcases (by omega : k = 0 ∨ k = 1) with rfl | rfl <;> decide
  · rcases (by omega : v = 0 ∨ v = 1) with rfl | rfl
    · exact Come.here
    · exact Come.step (u := 0) Come.here (by omega) (by omega)
end Go.Proofs.YtakkljdeencfbaaDoor
