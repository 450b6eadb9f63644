import Derived.Test.YtfjempfffdeklaaDoorLineRow
namespace Go.Proofs.YtfjempfffdeklaaDoor
open Go.RowKit

/-! Costs of right links: from 1 to 16 between two. -/
theorem one_pos' (n : Nat) : ∀ i k, i < n → k < n → i ≠ k → 1 ≤ at2 (ran n (oneRow n)) i k := by
  intro i k hi hk hne
  unfold at2
  rw [nth_ran n _ i hi, oneRow, nth_set _ _ _ _ (by simpa using hi), if_neg (fun e => hne e.symm), nth_replicate _ _ _ hk]
  decide
theorem fold_pos {n : Nat} : ∀ (l : List Lk) (rs : List (List Int)), CTab n rs → (∀ i k, i < n → k < n → i ≠ k → 1 ≤ at2 rs i k) → (∀ x ∈ l, ¬ Lk.bad n x ∧ x.a ≠ x.b) → ∀ i k, i < n → k < n → i ≠ k → 1 ≤ at2 (l.foldl putL rs) i k := by
  intro l
  induction l with
  | nil => intro rs _ h _; exact h
  | cons x l ih =>
    intro rs hc h hl
    obtain ⟨h1, h2⟩ := hl x (by simp)
    unfold Lk.bad at h1
    have ha : x.a.toNat < n := by omega
    have hb : x.b.toNat < n := by omega
    refine ih _ (putL_ctab hc x ha hb (by omega) (by omega)) (fun i k hi hk hne => ?_) (fun y hy => hl y (by simp [hy]))
    rw [putL_at hc.sq x ha hb]
    have := h i k hi hk hne
    split
    · omega
    · split
      · omega
      · exact this
theorem costs_pos {n : Nat} {l : List Lk} (h : graphErr n l = none) : CPos n (costF n l) := by
  have hct : CTab n (costsM n l) := by
    rcases costsE_cases (n : Int) l with ⟨k, e, -⟩ | ⟨m, hm, -, -, -, -, hct⟩
    · rw [h] at e; cases e
    · obtain rfl : n = m := by omega
      exact hct
  have hok : ∀ x ∈ l, ¬ Lk.bad n x ∧ x.a ≠ x.b := by
    have hg := h
    unfold graphErr at hg
    split at hg
    · cases hg
    · exact lkErr_ok l [] hg
  refine ⟨fun i k hi hk hne => ⟨?_, (hct.bd i k hi hk).2⟩, fun i k hi hk => hct.sym i k hi hk⟩
  exact fold_pos l _ (one_ctab n) (one_pos' n) hok i k hi hk hne
end Go.Proofs.YtfjempfffdeklaaDoor
