import Derived.Test.YtakkljdeencfbaaLength
namespace Go.Proofs.Ytakkljdeencfbaa
open Go.RowKit

def gdst (rs : List (List Int)) (x y : Int) : Prop := ¬ (at2 rs x.toNat y.toNat = 0 ∨ at2 rs x.toNat y.toNat = 16)
def inN (n : Nat) (x : Int) : Prop := ¬ (x < 0 ∨ (n : Int) ≤ x)
def wok (n : Nat) (rs : List (List Int)) : List Int → Prop
  | [] => True
  | [x] => inN n x
  | x :: y :: l => inN n x ∧ gdst rs x y ∧ wok n rs (y :: l)
def wtot (rs : List (List Int)) : List Int → Int
  | [] => 0
  | [_] => 0
  | x :: y :: l => at2 rs x.toNat y.toNat + wtot rs (y :: l)
theorem wok_one (n : Nat) (rs : List (List Int)) (x : Int) : wok n rs [x] ↔ inN n x := Iff.rfl
theorem wok_two (n : Nat) (rs : List (List Int)) (x y : Int) (l : List Int) : wok n rs (x :: y :: l) ↔ inN n x ∧ gdst rs x y ∧ wok n rs (y :: l) := Iff.rfl
theorem wtot_one (rs : List (List Int)) (x : Int) : wtot rs [x] = 0 := rfl
theorem wtot_two (rs : List (List Int)) (x y : Int) (l : List Int) : wtot rs (x :: y :: l) = at2 rs x.toNat y.toNat + wtot rs (y :: l) := rfl
theorem wok_head {n : Nat} {rs : List (List Int)} {x : Int} {l : List Int} (h : wok n rs (x :: l)) : inN n x := by
  cases l with
  | nil => exact h
  | cons y l => exact h.1
theorem goLen_ok {n : Nat} {rs : List (List Int)} : ∀ (l : List Int) (x s : Int), wok n rs (x :: l) → goLen n rs (some x) s l = some (s + wtot rs (x :: l)) := by
  intro l
  induction l with
  | nil => intro x s _; rw [wtot_one, Int.add_zero]; rfl
  | cons y l ih =>
    intro x s h
    obtain ⟨h1, h2, h3⟩ := h
    rw [goLen_cons, wstep_some (wok_head h3), if_neg h2]
    show goLen n rs (some y) _ l = _
    rw [ih y _ h3, wtot_two, Int.add_assoc]
theorem goLen_inv {n : Nat} {rs : List (List Int)} : ∀ (l : List Int) (x s t : Int), inN n x → goLen n rs (some x) s l = some t → wok n rs (x :: l) ∧ t = s + wtot rs (x :: l) := by
  intro l
  induction l with
  | nil => intro x s t hx h; cases h; exact ⟨hx, by rw [wtot_one, Int.add_zero]⟩
  | cons y l ih =>
    intro x s t hx h
    rw [goLen_cons] at h
    by_cases hb : y < 0 ∨ (n : Int) ≤ y
    · rw [wstep_bad hb] at h; cases h
    · rw [wstep_some hb] at h
      by_cases hg : at2 rs x.toNat y.toNat = 0 ∨ at2 rs x.toNat y.toNat = 16
      · rw [if_pos hg] at h; cases h
      · rw [if_neg hg] at h
        obtain ⟨h1, h2⟩ := ih y _ t hb h
        exact ⟨⟨hx, hg, h1⟩, by rw [h2, wtot_two, Int.add_assoc]⟩
theorem len_ok {n : Nat} {rs : List (List Int)} {x : Int} {l : List Int} (h : wok n rs (x :: l)) : goLen n rs none 0 (x :: l) = some (wtot rs (x :: l)) := by
  rw [goLen_cons, wstep_none (wok_head h)]
  show goLen n rs (some x) (0 + 0) l = _
  rw [goLen_ok l x _ h]; simp
theorem len_inv {n : Nat} {rs : List (List Int)} {l : List Int} {t : Int} (h0 : l ≠ []) (h : goLen n rs none 0 l = some t) : wok n rs l ∧ t = wtot rs l := by
  cases l with
  | nil => exact absurd rfl h0
  | cons x l =>
    rw [goLen_cons] at h
    by_cases hb : x < 0 ∨ (n : Int) ≤ x
    · rw [wstep_bad hb] at h; cases h
    · rw [wstep_none hb] at h
      obtain ⟨h1, h2⟩ := goLen_inv l x _ t hb h
      exact ⟨h1, by rw [h2]; simp⟩
theorem wok_app {n : Nat} {rs : List (List Int)} (x : Int) (b : List Int) : ∀ a : List Int, wok n rs (a ++ x :: b) ↔ wok n rs (a ++ [x]) ∧ wok n rs (x :: b) := by
  intro a
  induction a with
  | nil => exact ⟨fun h => ⟨wok_head h, h⟩, fun h => h.2⟩
  | cons z a ih =>
    cases a with
    | nil => exact ⟨fun h => ⟨⟨h.1, h.2.1, wok_head h.2.2⟩, h.2.2⟩, fun h => ⟨h.1.1, h.1.2.1, h.2⟩⟩
    | cons y a =>
      have ih' : wok n rs (y :: (a ++ x :: b)) ↔ wok n rs (y :: (a ++ [x])) ∧ wok n rs (x :: b) := ih
      show inN n z ∧ gdst rs z y ∧ wok n rs (y :: (a ++ x :: b)) ↔ (inN n z ∧ gdst rs z y ∧ wok n rs (y :: (a ++ [x]))) ∧ wok n rs (x :: b)
      rw [ih']
      exact ⟨fun h => ⟨⟨h.1, h.2.1, h.2.2.1⟩, h.2.2.2⟩, fun h => ⟨h.1.1, h.1.2.1, h.1.2.2, h.2⟩⟩
theorem wtot_app (rs : List (List Int)) (x : Int) (b : List Int) : ∀ a : List Int, wtot rs (a ++ x :: b) = wtot rs (a ++ [x]) + wtot rs (x :: b) := by
  intro a
  induction a with
  | nil => show wtot rs (x :: b) = 0 + _; rw [Int.zero_add]
  | cons z a ih =>
    cases a with
    | nil => show at2 rs z.toNat x.toNat + wtot rs (x :: b) = (at2 rs z.toNat x.toNat + 0) + _; rw [Int.add_zero]
    | cons y a =>
      have ih' : wtot rs (y :: (a ++ x :: b)) = wtot rs (y :: (a ++ [x])) + wtot rs (x :: b) := ih
      show at2 rs z.toNat y.toNat + wtot rs (y :: (a ++ x :: b)) = (at2 rs z.toNat y.toNat + wtot rs (y :: (a ++ [x]))) + _
      rw [ih', Int.add_assoc]
theorem wok_rev {n : Nat} {rs : List (List Int)} (hT : CTab n rs) : ∀ l : List Int, wok n rs l → wok n rs l.reverse ∧ wtot rs l.reverse = wtot rs l := by
  intro l
  induction l with
  | nil => intro _; exact ⟨trivial, rfl⟩
  | cons x l ih =>
    cases l with
    | nil => intro h; exact ⟨h, rfl⟩
    | cons y l =>
      intro h
      obtain ⟨h1, h2, h3⟩ := h
      obtain ⟨i1, i2⟩ := ih h3
      have hy := wok_head h3
      have e : (x :: y :: l).reverse = l.reverse ++ y :: [x] := by simp
      have e2 : (y :: l).reverse = l.reverse ++ [y] := by simp
      rw [e2] at i1 i2
      have hs : at2 rs y.toNat x.toNat = at2 rs x.toNat y.toNat := by
        unfold inN at h1 hy
        exact hT.sym _ _ (by omega) (by omega)
      refine ⟨?_, ?_⟩
      · rw [e, wok_app]
        refine ⟨i1, hy, ?_, h1⟩
        unfold gdst at h2 ⊢
        rw [hs]; exact h2
      · rw [e, wtot_app, i2, wtot_two, wtot_one, hs, wtot_two]; omega

theorem lengthE_inv {n : Int} {l : List Lk} {v : List Int} {x : Int} (h : lengthE n l v = .ok x) : ∃ m : Nat, n = m ∧ costsE n l = .ok (costsM m l) ∧ CTab m (costsM m l) ∧ v ≠ [] ∧ wok m (costsM m l) v ∧ x = wtot (costsM m l) v := by
  unfold lengthE at h
  rcases costsE_cases n l with ⟨q, _, hq⟩ | ⟨m, rfl, m1, m8, _, hq, hT⟩
  · rw [hq] at h; cases h
  · rw [hq] at h
    simp only at h
    by_cases h0 : v = []
    · rw [if_pos h0] at h; cases h
    · rw [if_neg h0, Int.toNat_natCast] at h
      cases hg : goLen m (costsM m l) none 0 v with
      | none => rw [hg] at h; cases h
      | some t =>
        rw [hg] at h
        cases h
        obtain ⟨h1, h2⟩ := len_inv h0 hg
        exact ⟨m, rfl, hq, hT, h0, h1, h2⟩
theorem lengthE_ok {m : Nat} {l : List Lk} {v : List Int} (hq : costsE m l = .ok (costsM m l)) (h0 : v ≠ []) (hw : wok m (costsM m l) v) : lengthE m l v = .ok (wtot (costsM m l) v) := by
  unfold lengthE
  rw [hq]
  simp only
  rw [if_neg h0, Int.toNat_natCast]
  cases v with
  | nil => exact absurd rfl h0
  | cons x v => rw [len_ok hw]
theorem length_rev {n : Int} {l : List Lk} {v : List Int} {x : Int} (h : lengthE n l v = .ok x) : lengthE n l v.reverse = .ok x := by
  obtain ⟨m, rfl, hq, hT, h0, hw, rfl⟩ := lengthE_inv h
  obtain ⟨h1, h2⟩ := wok_rev hT v hw
  rw [lengthE_ok hq (by simpa using h0) h1, h2]
theorem length_one {n : Int} {l : List Lk} {v : List Int} {x : Int} (h : lengthE n l v = .ok x) : lengthE n l (v.take 1) = .ok 0 := by
  obtain ⟨m, rfl, hq, hT, h0, hw, rfl⟩ := lengthE_inv h
  cases v with
  | nil => exact absurd rfl h0
  | cons y v => exact lengthE_ok (v := [y]) hq (by simp) (wok_head hw)
theorem length_ne {n : Int} {l : List Lk} {v : List Int} {x : Int} (h : lengthE n l v = .ok x) : 0 < v.length := by
  obtain ⟨m, rfl, hq, hT, h0, hw, rfl⟩ := lengthE_inv h
  exact List.length_pos_iff.2 h0
theorem length_join {n : Int} {l : List Lk} {v u : List Int} {x y : Int} (hv : lengthE n l v = .ok x) (hu : lengthE n l u = .ok y) (h : nth v (v.length - 1) = nth u 0) : lengthE n l (v ++ u.drop 1) = .ok (x + y) := by
  obtain ⟨m, rfl, hq, hT, h0, hw, rfl⟩ := lengthE_inv hv
  obtain ⟨m', hm, _, _, h0', hw', rfl⟩ := lengthE_inv hu
  obtain rfl : m = m' := by omega
  cases u with
  | nil => exact absurd rfl h0'
  | cons z u =>
    have hz : nth (z :: u) 0 = z := rfl
    rw [hz] at h
    have hlen : 0 < v.length := List.length_pos_iff.2 h0
    have e : v = v.take (v.length - 1) ++ [z] := by
      have h1 := take_succ_nth v (v.length - 1) (by omega)
      rw [show v.length - 1 + 1 = v.length by omega, List.take_length, h] at h1
      exact h1
    have e2 : v ++ (z :: u).drop 1 = v.take (v.length - 1) ++ z :: u := by
      conv => lhs; rw [e]
      simp
    rw [e2, lengthE_ok hq (by simp) ((wok_app z u _).2 ⟨by rw [← e]; exact hw, hw'⟩), wtot_app, ← e]
/-- What the walk asks last. -/
theorem length_sum {n : Int} {l : List Lk} {v u : List Int} {x y s : Int} (hs : lengthE n l (v ++ u.drop 1) = .ok s) (hv : lengthE n l v = .ok x) (hu : lengthE n l u = .ok y) (h : nth v (v.length - 1) = nth u 0) : s = x + y := by
  have := length_join hv hu h
  rw [this] at hs; cases hs; rfl
theorem length_bd {n : Int} {l : List Lk} {v : List Int} {x : Int} (h : lengthE n l v = .ok x) : 0 ≤ x ∧ x ≤ 16 * v.length := by
  obtain ⟨m, rfl, hq, hT, h0, hw, rfl⟩ := lengthE_inv h
  clear hq h0 h
  generalize costsM m l = rs at *
  induction v with
  | nil => simp [wtot]
  | cons x v ih =>
    cases v with
    | nil => simp [wtot]
    | cons y v =>
      obtain ⟨h1, h2, h3⟩ := hw
      have := ih h3
      have hb := hT.bd x.toNat y.toNat (by unfold inN at h1; omega) (by have := wok_head h3; unfold inN at this; omega)
      rw [wtot_two]
      simp only [List.length_cons] at this ⊢
      omega
end Go.Proofs.Ytakkljdeencfbaa
