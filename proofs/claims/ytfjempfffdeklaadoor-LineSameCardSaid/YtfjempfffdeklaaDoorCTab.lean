import Derived.Test.YtfjempfffdeklaaDoorCosts
namespace Go.Proofs.YtfjempfffdeklaaDoor
open Go.RowKit

/-- The table of costs: square, from 0 to 16, alike from either side, 0 of one to itself. -/
structure CTab (n : Nat) (rs : List (List Int)) : Prop where
  sq : Sq n rs
  bd : ∀ i k, i < n → k < n → 0 ≤ at2 rs i k ∧ at2 rs i k ≤ 16
  sym : ∀ i k, i < n → k < n → at2 rs i k = at2 rs k i
  dia : ∀ i, i < n → at2 rs i i = 0
theorem one_ctab (n : Nat) : CTab n (ran n (oneRow n)) := by
  have h1 : ∀ i k, i < n → k < n → at2 (ran n (oneRow n)) i k = if k = i then 0 else 16 := by
    intro i k hi hk
    unfold at2
    rw [nth_ran n _ i hi, oneRow, nth_set _ _ _ _ (by simpa using hi)]
    split
    · rfl
    · rw [nth_replicate _ _ _ hk]
  refine ⟨one_sq n, fun i k hi hk => ?_, fun i k hi hk => ?_, fun i hi => ?_⟩
  · rw [h1 i k hi hk]; split <;> omega
  · rw [h1 i k hi hk, h1 k i hk hi]
    by_cases h : k = i
    · rw [if_pos h, if_pos h.symm]
    · rw [if_neg h, if_neg (fun e => h e.symm)]
  · rw [h1 i i hi hi, if_pos rfl]
theorem putL_at {n : Nat} {rs : List (List Int)} (h : Sq n rs) (x : Lk) (ha : x.a.toNat < n) (hb : x.b.toNat < n) (p q : Nat) : at2 (putL rs x) p q = if p = x.b.toNat ∧ q = x.a.toNat then x.c else if p = x.a.toNat ∧ q = x.b.toNat then x.c else at2 rs p q := by
  unfold putL
  rw [put2_at (put2_sq h _ _ _ ha) _ _ _ hb ha, put2_at h _ _ _ ha hb]
theorem putL_ctab {n : Nat} {rs : List (List Int)} (h : CTab n rs) (x : Lk) (ha : x.a.toNat < n) (hb : x.b.toNat < n) (hab : x.a.toNat ≠ x.b.toNat) (hc : 1 ≤ x.c ∧ x.c ≤ 15) : CTab n (putL rs x) := by
  refine ⟨putL_sq h.sq x ha hb, fun i k hi hk => ?_, fun i k hi hk => ?_, fun i hi => ?_⟩
  · rw [putL_at h.sq x ha hb]
    have := h.bd i k hi hk
    split
    · omega
    · split
      · omega
      · exact this
  · rw [putL_at h.sq x ha hb, putL_at h.sq x ha hb, h.sym i k hi hk]
    by_cases h1 : i = x.b.toNat ∧ k = x.a.toNat
    · rw [if_pos h1, if_neg (by omega), if_pos (by omega)]
    · rw [if_neg h1]
      by_cases h2 : i = x.a.toNat ∧ k = x.b.toNat
      · rw [if_pos h2, if_pos (by omega)]
      · rw [if_neg h2, if_neg (by omega), if_neg (by omega)]
  · rw [putL_at h.sq x ha hb, if_neg (by omega), if_neg (by omega)]
    exact h.dia i hi
theorem fold_ctab {n : Nat} : ∀ (l : List Lk) (rs : List (List Int)), CTab n rs → (∀ x ∈ l, ¬ Lk.bad n x ∧ x.a ≠ x.b) → CTab n (l.foldl putL rs) := by
  intro l
  induction l with
  | nil => intro rs h _; exact h
  | cons x l ih =>
    intro rs h hl
    obtain ⟨h1, h2⟩ := hl x (by simp)
    unfold Lk.bad at h1
    exact ih _ (putL_ctab h x (by omega) (by omega) (by omega) (by omega)) (fun y hy => hl y (by simp [hy]))
theorem costsE_cases (n : Int) (l : List Lk) : (∃ k, graphErr n l = some k ∧ costsE n l = .error k) ∨ (∃ m : Nat, n = m ∧ 1 ≤ m ∧ m ≤ 8 ∧ graphErr n l = none ∧ costsE n l = .ok (costsM m l) ∧ CTab m (costsM m l)) := by
  unfold costsE
  cases h : graphErr n l with
  | some k => exact .inl ⟨k, rfl, rfl⟩
  | none =>
    right
    have hn : 1 ≤ n ∧ n ≤ 8 := by
      unfold graphErr at h
      split at h
      · cases h
      · omega
    obtain ⟨m, rfl⟩ := Int.eq_ofNat_of_zero_le (show 0 ≤ n by omega)
    refine ⟨m, rfl, by omega, by omega, rfl, rfl, ?_⟩
    refine fold_ctab l _ (one_ctab m) ?_
    unfold graphErr at h
    split at h
    · cases h
    · exact lkErr_ok l [] h
end Go.Proofs.YtfjempfffdeklaaDoor
