import Derived.Test.YtgfbkebbnfcgkaaRibW5
namespace Go.Proofs.Ytgfbkebbnfcgkaa
open Go.RowKit

theorem IsRib.new (w : World) : IsRib (w.alloc (.cells #[.int .i64 0, .slice none 0 0] 106)).heap (w.heap.size + 1) w.heap.size 0 [] :=
  ⟨none, 0, Blk.made w 106 [.int .i64 0, .slice none 0 0], Rd.nil _ _ _, (fun b off e => by cases e), by omega⟩
theorem RibPost.okE {w w' : World} {base br : Nat} {r : Except Int (List Td)} {l' : List Td} {now : Int} {e : Ending} (h : RibPost w base br r now e w') (hr : r = .ok l') : e = .returned .nilIface ∧ IsRib w'.heap base br now l' ∧ Fr (fun k => k = br) w w' := by subst hr; exact h
theorem RibPost.errE {w w' : World} {base br : Nat} {r : Except Int (List Td)} {now k : Int} {e : Ending} (h : RibPost w base br r now e w') (hr : r = .error k) : e = .returned (errv k) ∧ Fr (fun _ => False) w w' := by subst hr; exact h
theorem learn_one : learnE 0 [] 1 0 0 5 0 = .ok [⟨1, 0, 0, 5, 0⟩] := by kernel_rfl

/-- What is known behind some words of one neighbour on one net, all at time 7. -/
structure LastInv (f a n : Int) (now : Int) (l : List Td) (last : Int) (some' : Bool) : Prop where
  ok : RibOk now l
  tm : now = 0 ∨ now = 7
  yes : some' = true → l = [⟨f, a, n, last, 7⟩] ∧ now = 7
  no : some' = false → l = []
theorem last_one (f a n m : Int) (hm : 1 ≤ m) : rAged 7 [⟨f, a, n, m, 7⟩] = [⟨f, a, n, m, 7⟩] := by
  unfold rAged
  rw [List.filterMap_cons]
  by_cases h : m < 16
  · rw [age1_live (x := ⟨f, a, n, m, 7⟩) h (by simp)]; rfl
  · rw [age1_dead (x := ⟨f, a, n, m, 7⟩) h, if_pos (by simp)]; rfl
theorem idx_one (f a n m t : Int) : rIdx [⟨f, a, n, m, t⟩] f a n = 0 := rIdx_neg _ (by unfold tdAhead netLess; simp only; omega)
theorem is_one (f a n m t : Int) : rIs [⟨f, a, n, m, t⟩] f a n := by unfold rIs; rw [idx_one]; exact ⟨by simp, rfl, rfl, rfl⟩
theorem is_nil (f a n : Int) : ¬ rIs [] f a n := fun h => by have := h.1; simp at this
theorem LastInv.err {f a n now last : Int} {l : List Td} {s : Bool} (h : LastInv f a n now l last s) : LastInv f a n now l last s := h
theorem LastInv.step {f a n now last m : Int} {l l' : List Td} {s : Bool} (h : LastInv f a n now l last s) (ha : 0 ≤ a ∧ a < 4294967296) (hl : learnE now l f a n m 7 = .ok l') : LastInv f a n 7 l' m (s || decide (m < 16)) := by
  obtain ⟨h1, h2, h3, h4, h5, h6, h7, h8, h9⟩ := learn_ok h.ok ha hl
  refine ⟨h1, .inr rfl, fun hs => ⟨?_, rfl⟩, fun hs => ?_⟩
  · cases s with
    | true =>
      obtain ⟨rfl, rfl⟩ := h.yes rfl
      have := (h.ok.each _ (List.mem_singleton.2 rfl)).m0
      rw [last_one f a n last this] at h9
      unfold rPut at h9
      rw [if_pos (is_one _ _ _ _ _), idx_one] at h9
      by_cases hm : m = 16 ∧ (nth [(⟨f, a, n, last, 7⟩ : Td)] 0).m = 16
      · rw [if_pos hm] at h9
        obtain ⟨e1, e2⟩ := hm
        have e2' : last = 16 := e2
        cases h9
        rw [e1, e2']
      · rw [if_neg hm] at h9; cases h9; rfl
    | false =>
      have := h.no rfl
      subst this
      have hm : m < 16 := by simpa using hs
      have e : rAged 7 [] = [] := rfl
      rw [e] at h9
      unfold rPut at h9
      rw [if_neg (is_nil _ _ _), if_neg (by omega), if_neg (by simp)] at h9
      cases h9; rfl
  · have hs' : s = false ∧ ¬ m < 16 := by simpa using hs
    have := h.no hs'.1
    subst this
    have e : rAged 7 [] = [] := rfl
    rw [e] at h9
    unfold rPut at h9
    rw [if_neg (is_nil _ _ _), if_pos (by omega)] at h9
    cases h9; rfl
theorem LastInv.start (f a n : Int) : LastInv f a n 0 [] 0 false   := ⟨ribOk_nil, .inl rfl, (fun h => nomatch h), fun _ => rfl⟩


end Go.Proofs.Ytgfbkebbnfcgkaa
