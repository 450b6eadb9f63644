import Derived.Test.YtbmeeglehbaggaaBestOf
namespace Go
theorem plusM_le (c m : Int) : plusM c m ≤ c + m := by unfold plusM; split <;> omega
theorem plusM_lt {c m M : Int} (h : plusM c m = M) (hM : M < 16) : c + m = M := by unfold plusM at h; split at h <;> omega
/-- Who is told: each is so near; they go up. -/
theorem hopsK_spec (p : Nat → Int) (M : Int) : ∀ k, (∀ j, j < (hopsK p M k).length → ∃ q : Nat, nth (hopsK p M k) j = q ∧ q < k ∧ p q = M ∧ M < 16) ∧ (∀ j, j + 1 < (hopsK p M k).length → nth (hopsK p M k) j < nth (hopsK p M k) (j + 1)) := by
  intro k
  induction k with
  | zero => exact ⟨fun j hj => absurd hj (Nat.not_lt_zero _), fun j hj => absurd hj (Nat.not_lt_zero _)⟩
  | succ k ih =>
    obtain ⟨h1, h2⟩ := ih
    unfold hopsK
    by_cases h : M < 16 ∧ p k = M ∧ (hopsK p M k).length < 4
    · rw [if_pos h]
      constructor
      · intro j hj
        rw [List.length_append] at hj
        by_cases hlt : j < (hopsK p M k).length
        · obtain ⟨q, q1, q2, q3⟩ := h1 j hlt
          exact ⟨q, by rw [nth_append_left _ _ _ hlt]; exact q1, by omega, q3⟩
        · have he : j = (hopsK p M k).length := by simp at hj; omega
          refine ⟨k, ?_, by omega, h.2.1, h.1⟩
          rw [nth_append_right _ _ _ (by omega), he, Nat.sub_self]; rfl
      · intro j hj
        rw [List.length_append] at hj
        by_cases hlt : j + 1 < (hopsK p M k).length
        · rw [nth_append_left _ _ _ hlt, nth_append_left _ _ _ (by omega)]; exact h2 j hlt
        · have he : j + 1 = (hopsK p M k).length := by simp at hj; omega
          obtain ⟨q, q1, q2, q3⟩ := h1 j (by omega)
          rw [nth_append_left _ _ _ (by omega), nth_append_right _ _ _ (by omega), he, Nat.sub_self, q1]
          show (q : Int) < (k : Int)
          omega
    · rw [if_neg h]
      refine ⟨fun j hj => ?_, h2⟩
      obtain ⟨q, q1, q2, q3⟩ := h1 j hj
      exact ⟨q, q1, by omega, q3⟩
end Go
namespace Go.Proofs.Ytbmeeglehbaggaa
open Go.RowKit
/-- What is best: as near as each that is told, no farther than by any other one. -/
theorem best_least {l : List Hea} {costs : List Int} (a n : Int) (hl : ∀ x ∈ l, 1 ≤ x.m ∧ x.m ≤ 16) (hc : ∀ c ∈ costs, 1 ≤ c ∧ c ≤ 16) :
    (∀ j, j < (bestM l costs a n).2.length → ∃ q : Nat, nth (bestM l costs a n).2 j = q ∧ q < costs.length ∧ nth costs q + lastOf l q a n = (bestM l costs a n).1 ∧ (bestM l costs a n).1 < 16) ∧
    (∀ j, j + 1 < (bestM l costs a n).2.length → nth (bestM l costs a n).2 j < nth (bestM l costs a n).2 (j + 1)) ∧
    (∀ q : Nat, q < costs.length → (bestM l costs a n).1 ≤ nth costs q + lastOf l q a n) := by
  have hb := bestM_eq a n hl hc
  have hs := hopsK_spec (pOf l costs a n) (mK (pOf l costs a n) costs.length) costs.length
  have hm := mK_le (pOf l costs a n) costs.length
  rw [hb]
  refine ⟨fun j hj => ?_, hs.2, fun q hq => Int.le_trans (hm.2 q hq) (plusM_le _ _)⟩
  obtain ⟨q, q1, q2, q3, q4⟩ := hs.1 j hj
  exact ⟨q, q1, q2, plusM_lt q3 q4, q4⟩
end Go.Proofs.Ytbmeeglehbaggaa
