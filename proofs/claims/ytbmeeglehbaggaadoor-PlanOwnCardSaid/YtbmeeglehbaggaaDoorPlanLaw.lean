import Derived.Test.YtbmeeglehbaggaaDoorFit
namespace Go.Proofs.YtbmeeglehbaggaaDoor
open Go.RowKit

/-! PlanLess's plain law. -/
theorem foldl_size (l : List Int) : ∀ x : Int, l.foldl (fun r k => r - sizeN k) x = x - (l.map sizeN).sum := by
  induction l with
  | nil => intro x; simp
  | cons y l ih => intro x; simp only [List.foldl_cons, List.map_cons, List.sum_cons]; rw [ih]; omega
theorem roomV_eq (n : Int) (l : List Int) : roomV n l = sizeN n - (l.map sizeN).sum := foldl_size l _
theorem roomE_parts {a n : Int} {l : List Int} (h : roomE a n l = none) : netErr a n = none ∧ l.length ≤ 64 ∧ ∀ k ∈ l, 0 ≤ k ∧ k ≤ 32 := by
  unfold roomE at h
  split at h
  · cases h
  · rename_i hn
    split at h
    · cases h
    · split at h
      · exact ⟨hn, by omega, by assumption⟩
      · cases h
theorem roomE_of {a n : Int} {l : List Int} (h1 : netErr a n = none) (h2 : l.length ≤ 64) (h3 : ∀ k ∈ l, 0 ≤ k ∧ k ≤ 32) : roomE a n l = none := by
  unfold roomE
  rw [h1]
  show (if _ then _ else (if _ then _ else _)) = _
  rw [if_neg (by omega), if_pos h3]
theorem fitE_parts {a n : Int} {l : List Int} (h : fitE a n l = none) : roomE a n l = none ∧ 0 ≤ roomV n l := by
  unfold fitE at h
  split at h
  · cases h
  · rename_i hr
    split at h
    · cases h
    · exact ⟨hr, by omega⟩
theorem fitE_eq {a n : Int} {l : List Int} (h : roomE a n l = none) : fitE a n l = if roomV n l < 0 then some 4 else none := by
  unfold fitE; rw [h]
theorem fit_more {a n m : Int} {l : List Int} (h : fitE a n l = none) (hl : l.length < 64) (hm : 0 ≤ m ∧ m ≤ 32) : (fitE a n (l ++ [m]) = none) ↔ sizeN m ≤ roomV n l := by
  obtain ⟨hr, -⟩ := fitE_parts h
  obtain ⟨h1, h2, h3⟩ := roomE_parts hr
  have hr2 : roomE a n (l ++ [m]) = none := roomE_of h1 (by simp; omega) (fun k hk => by
    rcases List.mem_append.1 hk with hk | hk
    · exact h3 k hk
    · rw [List.mem_singleton] at hk; subst hk; exact hm)
  have e : roomV n (l ++ [m]) = roomV n l - sizeN m := by unfold roomV; rw [List.foldl_append]; rfl
  rw [fitE_eq hr2, e]
  split <;> simp <;> omega
theorem fit_less {a n : Int} {l : List Int} {i : Nat} (h : fitE a n l = none) (hi : i < l.length) : fitE a n (l.take i ++ l.drop (i + 1)) = none := by
  obtain ⟨hr, h0⟩ := fitE_parts h
  obtain ⟨h1, h2, h3⟩ := roomE_parts hr
  have hr2 : roomE a n (l.take i ++ l.drop (i + 1)) = none := roomE_of h1 (by simp; omega) (fun k hk => by
    rcases List.mem_append.1 hk with hk | hk
    · exact h3 k (List.mem_of_mem_take hk)
    · exact h3 k (List.mem_of_mem_drop hk))
  have hx := sizeN_bd (h3 _ (List.getElem_mem hi))
  have e : (l.map sizeN).sum = ((l.take i ++ l.drop (i + 1)).map sizeN).sum + sizeN l[i] := by
    conv => lhs; rw [← List.take_append_drop i l, List.drop_eq_getElem_cons hi]
    simp only [List.map_append, List.sum_append, List.map_cons, List.sum_cons]
    omega
  rw [roomV_eq] at h0
  rw [fitE_eq hr2, roomV_eq, if_neg (by omega)]
end Go.Proofs.YtbmeeglehbaggaaDoor
