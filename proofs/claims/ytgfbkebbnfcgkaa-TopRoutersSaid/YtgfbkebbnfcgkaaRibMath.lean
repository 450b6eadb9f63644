import Derived.Test.YtgfbkebbnfcgkaaBase
namespace Go

/-- What is wrong with a net: 1 its length, 3 bits behind it. -/
def netErr (a n : Int) : Option Int := if n < 0 ∨ 32 < n then some 1 else if a % 2 ^ (32 - n).toNat ≠ 0 then some 3 else none
def netLess (a n a' n' : Int) : Prop := a < a' ∨ a = a' ∧ n < n'
instance (a n a' n' : Int) : Decidable (netLess a n a' n') := by unfold netLess; infer_instance
/-- Told by a neighbour of a net, how far, and when. -/
structure Td where
  f : Int
  a : Int
  n : Int
  m : Int
  t : Int
deriving Inhabited, DecidableEq
def age1 (now : Int) (x : Td) : Option Td :=
  if x.m < 16 ∧ 180 ≤ now - x.t then (if now - (x.t + 180) < 120 then some ⟨x.f, x.a, x.n, 16, x.t + 180⟩ else none)
  else if x.m < 16 ∨ now - x.t < 120 then some x else none
def rAged (now : Int) (l : List Td) : List Td := l.filterMap (age1 now)
def tdAhead (x : Td) (f a n : Int) : Prop := x.f < f ∨ x.f = f ∧ netLess x.a x.n a n
instance (x : Td) (f a n : Int) : Decidable (tdAhead x f a n) := by unfold tdAhead; infer_instance
def rIdx (l : List Td) (f a n : Int) : Nat := (l.takeWhile fun x => decide (tdAhead x f a n)).length
def rIs (l : List Td) (f a n : Int) : Prop := rIdx l f a n < l.length ∧ (nth l (rIdx l f a n)).f = f ∧ (nth l (rIdx l f a n)).a = a ∧ (nth l (rIdx l f a n)).n = n
instance (l : List Td) (f a n : Int) : Decidable (rIs l f a n) := by unfold rIs; infer_instance
def ckErr (now0 f now : Int) : Prop := now < now0 ∨ 1099511627776 < now ∨ f < 0 ∨ 8 ≤ f
instance (now0 f now : Int) : Decidable (ckErr now0 f now) := by unfold ckErr; infer_instance
def ckO (now0 f now : Int) : Option Int := if ckErr now0 f now then some 1 else none
def rPut (l : List Td) (f a n m now : Int) : Except Int (List Td) :=
  if rIs l f a n then
    if m = 16 ∧ (nth l (rIdx l f a n)).m = 16 then .ok l else .ok (l.set (rIdx l f a n) ⟨f, a, n, m, now⟩)
  else if m = 16 then .ok l
  else if 64 ≤ l.length then .error 4
  else .ok (l.take (rIdx l f a n) ++ ⟨f, a, n, m, now⟩ :: l.drop (rIdx l f a n))
def learnE (now0 : Int) (l : List Td) (f a n m now : Int) : Except Int (List Td) :=
  if ckErr now0 f now then .error 1
  else match netErr a n with
    | some k => .error k
    | none => if m < 1 ∨ 16 < m then .error 1 else rPut (rAged now l) f a n m now
def lose1 (f now : Int) (x : Td) : Td := if x.f = f ∧ x.m < 16 then ⟨x.f, x.a, x.n, 16, now⟩ else x
def rLost (f now : Int) (l : List Td) : List Td := (rAged now l).map (lose1 f now)

theorem rIdx_le (l : List Td) (f a n : Int) : rIdx l f a n ≤ l.length := (List.takeWhile_sublist _).length_le
theorem rIdx_pos {x : Td} {f a n : Int} (l : List Td) (h : tdAhead x f a n) : rIdx (x :: l) f a n = rIdx l f a n + 1 := by unfold rIdx; rw [List.takeWhile_cons_of_pos (by simpa using h)]; rfl
theorem rIdx_neg {x : Td} {f a n : Int} (l : List Td) (h : ¬ tdAhead x f a n) : rIdx (x :: l) f a n = 0 := by unfold rIdx; rw [List.takeWhile_cons_of_neg (by simpa using h)]; rfl
theorem rIdx_before (l : List Td) (f a n : Int) : ∀ k, k < rIdx l f a n → tdAhead (nth l k) f a n := by
  induction l with
  | nil => intro k hk; exact absurd hk (Nat.not_lt_zero _)
  | cons x l ih =>
    intro k hk
    by_cases hx : tdAhead x f a n
    · rw [rIdx_pos l hx] at hk
      cases k with
      | zero => exact hx
      | succ k => rw [nth_cons_succ]; exact ih k (by omega)
    · rw [rIdx_neg l hx] at hk; omega
theorem rIdx_at (l : List Td) (f a n : Int) (h : rIdx l f a n < l.length) : ¬ tdAhead (nth l (rIdx l f a n)) f a n := by
  induction l with
  | nil => simp at h
  | cons x l ih =>
    by_cases hx : tdAhead x f a n
    · have e := rIdx_pos l hx
      rw [e] at h ⊢
      rw [nth_cons_succ]
      exact ih (by simpa using h)
    · have e := rIdx_neg l hx
      rw [e, nth_cons_zero]
      exact hx
/-- The place is known by what stands before it and at it. -/
theorem rIdx_unique (l : List Td) (f a n : Int) (k : Nat) (hk : k ≤ l.length) (h1 : ∀ j, j < k → tdAhead (nth l j) f a n) (h2 : k < l.length → ¬ tdAhead (nth l k) f a n) : rIdx l f a n = k := by
  rcases Nat.lt_trichotomy (rIdx l f a n) k with h | h | h
  · exact absurd (h1 _ h) (rIdx_at l f a n (by omega))
  · exact h
  · have := rIdx_le l f a n
    exact absurd (rIdx_before l f a n k h) (h2 (by omega))

structure TdOk (now : Int) (x : Td) : Prop where
  f0 : 0 ≤ x.f
  f1 : x.f < 8
  m0 : 1 ≤ x.m
  m1 : x.m ≤ 16
  t0 : 0 ≤ x.t
  t1 : x.t ≤ now
  a0 : 0 ≤ x.a
  a1 : x.a < 4294967296
  n0 : 0 ≤ x.n
  n1 : x.n ≤ 32
def ltd (x y : Td) : Prop := tdAhead x y.f y.a y.n
structure RibOk (now : Int) (l : List Td) : Prop where
  n0 : 0 ≤ now
  n1 : now ≤ 1099511627776
  len : l.length ≤ 64
  each : ∀ x ∈ l, TdOk now x
  ord : l.Pairwise ltd
theorem ribOk_nil : RibOk 0 [] := ⟨by omega, by omega, by simp, by simp, List.Pairwise.nil⟩

theorem age1_key {now : Int} {x y : Td} (h : age1 now x = some y) : y.f = x.f ∧ y.a = x.a ∧ y.n = x.n := by
  unfold age1 at h
  split at h
  · split at h
    · cases h; exact ⟨rfl, rfl, rfl⟩
    · cases h
  · split at h
    · cases h; exact ⟨rfl, rfl, rfl⟩
    · cases h
theorem age1_ok {now0 now : Int} {x y : Td} (hx : TdOk now0 x) (hn : now0 ≤ now) (h : age1 now x = some y) : TdOk now y := by
  obtain ⟨h1, h2, h3, h4, h5, h6, h7, h8, h9, h10⟩ := hx
  unfold age1 at h
  split at h
  · split at h
    · cases h; constructor <;> simp only <;> omega
    · cases h
  · split at h
    · cases h; constructor <;> omega
    · cases h
theorem ltd_key {x y x' y' : Td} (h : ltd x y) (hx : x'.f = x.f ∧ x'.a = x.a ∧ x'.n = x.n) (hy : y'.f = y.f ∧ y'.a = y.a ∧ y'.n = y.n) : ltd x' y' := by
  unfold ltd tdAhead netLess at *
  rw [hx.1, hx.2.1, hx.2.2, hy.1, hy.2.1, hy.2.2]
  exact h
theorem rAged_ok {now0 now : Int} {l : List Td} (h : RibOk now0 l) (hn : now0 ≤ now) (hm : now ≤ 1099511627776) : RibOk now (rAged now l) := by
  refine ⟨by have := h.n0; omega, hm, Nat.le_trans (List.length_filterMap_le _ _) h.len, fun y hy => ?_, ?_⟩
  · obtain ⟨x, hx, hxy⟩ := List.mem_filterMap.1 hy
    exact age1_ok (h.each x hx) hn hxy
  · refine List.Pairwise.filterMap _ (fun x x' hlt y hy y' hy' => ?_) h.ord
    exact ltd_key hlt (age1_key hy) (age1_key hy')
theorem ahead_total (x : Td) (f a n : Int) : tdAhead x f a n ∨ (x.f = f ∧ x.a = a ∧ x.n = n) ∨ (f < x.f ∨ f = x.f ∧ netLess a n x.a x.n) := by
  unfold tdAhead netLess; omega
theorem rPut_ok {now : Int} {l l' : List Td} {f a n m : Int} (h : RibOk now l) (hf : 0 ≤ f ∧ f < 8) (ha : 0 ≤ a ∧ a < 4294967296) (hn : 0 ≤ n ∧ n ≤ 32) (hm : 1 ≤ m ∧ m ≤ 16) (hp : rPut l f a n m now = .ok l') : RibOk now l' := by
  have hnew : TdOk now ⟨f, a, n, m, now⟩ := ⟨hf.1, hf.2, hm.1, hm.2, h.n0, Int.le_refl _, ha.1, ha.2, hn.1, hn.2⟩
  unfold rPut at hp
  by_cases his : rIs l f a n
  · rw [if_pos his] at hp
    by_cases hmm : m = 16 ∧ (nth l (rIdx l f a n)).m = 16
    · rw [if_pos hmm] at hp; cases hp; exact h
    · rw [if_neg hmm] at hp
      cases hp
      obtain ⟨hi, e1, e2, e3⟩ := his
      refine ⟨h.n0, h.n1, by rw [List.length_set]; exact h.len, fun x hx => ?_, ?_⟩
      · rcases List.mem_or_eq_of_mem_set hx with hx | rfl
        · exact h.each x hx
        · exact hnew
      · rw [List.pairwise_iff_getElem]
        intro i j hi' hj' hij
        rw [List.length_set] at hi' hj'
        have hlt := List.pairwise_iff_getElem.1 h.ord i j hi' hj' hij
        rw [nth_eq l _ hi] at e1 e2 e3
        refine ltd_key hlt ?_ ?_
        · rw [List.getElem_set]; split
          · rename_i hh; subst hh; exact ⟨e1.symm, e2.symm, e3.symm⟩
          · exact ⟨rfl, rfl, rfl⟩
        · rw [List.getElem_set]; split
          · rename_i hh; subst hh; exact ⟨e1.symm, e2.symm, e3.symm⟩
          · exact ⟨rfl, rfl, rfl⟩
  · rw [if_neg his] at hp
    by_cases h16 : m = 16
    · rw [if_pos h16] at hp; cases hp; exact h
    · rw [if_neg h16] at hp
      by_cases hfull : 64 ≤ l.length
      · rw [if_pos hfull] at hp; cases hp
      · rw [if_neg hfull] at hp
        cases hp
        have hle := rIdx_le l f a n
        refine ⟨h.n0, h.n1, by simp; omega, fun x hx => ?_, ?_⟩
        · rcases List.mem_append.1 hx with hx | hx
          · exact h.each x (List.mem_of_mem_take hx)
          · rcases List.mem_cons.1 hx with rfl | hx
            · exact hnew
            · exact h.each x (List.mem_of_mem_drop hx)
        · have hsplit : (l.take (rIdx l f a n) ++ l.drop (rIdx l f a n)).Pairwise ltd := by rw [List.take_append_drop]; exact h.ord
          obtain ⟨p1, p2, p3⟩ := List.pairwise_append.1 hsplit
          have hbef : ∀ x ∈ l.take (rIdx l f a n), tdAhead x f a n := by
            intro x hx
            obtain ⟨k, hk, rfl⟩ := List.mem_iff_getElem.1 hx
            have hk' : k < rIdx l f a n := by rw [List.length_take] at hk; omega
            have := rIdx_before l f a n k hk'
            rw [nth_eq l k (by omega)] at this
            rw [List.getElem_take]; exact this
          have haft : ∀ y ∈ l.drop (rIdx l f a n), f < y.f ∨ f = y.f ∧ netLess a n y.a y.n := by
            intro y hy
            obtain ⟨k, hk, rfl⟩ := List.mem_iff_getElem.1 hy
            rw [List.length_drop] at hk
            have hi : rIdx l f a n < l.length := by omega
            have h0 : f < (nth l (rIdx l f a n)).f ∨ f = (nth l (rIdx l f a n)).f ∧ netLess a n (nth l (rIdx l f a n)).a (nth l (rIdx l f a n)).n := by
              rcases ahead_total (nth l (rIdx l f a n)) f a n with h1 | h1 | h1
              · exact absurd h1 (rIdx_at l f a n hi)
              · exact absurd ⟨hi, h1⟩ his
              · exact h1
            rw [List.getElem_drop]
            cases k with
            | zero => rw [nth_eq l _ hi] at h0; exact h0
            | succ k =>
              have h2 := List.pairwise_iff_getElem.1 h.ord (rIdx l f a n) (rIdx l f a n + (k + 1)) hi (by omega) (by omega)
              rw [nth_eq l _ hi] at h0
              unfold ltd tdAhead netLess at *
              omega
          rw [List.pairwise_append]
          refine ⟨p1, List.pairwise_cons.2 ⟨fun y hy => haft y hy, p2⟩, fun x hx y hy => ?_⟩
          rcases List.mem_cons.1 hy with rfl | hy
          · exact hbef x hx
          · exact p3 x hx y hy
theorem learn_ok {now0 now : Int} {l l' : List Td} {f a n m : Int} (h : RibOk now0 l) (ha : 0 ≤ a ∧ a < 4294967296) (hp : learnE now0 l f a n m now = .ok l') : RibOk now l' ∧ now0 ≤ now ∧ now ≤ 1099511627776 ∧ 0 ≤ f ∧ f < 8 ∧ netErr a n = none ∧ 1 ≤ m ∧ m ≤ 16 ∧ rPut (rAged now l) f a n m now = .ok l' := by
  unfold learnE at hp
  by_cases hc : ckErr now0 f now
  · rw [if_pos hc] at hp; cases hp
  · rw [if_neg hc] at hp
    cases hn : netErr a n with
    | some k => rw [hn] at hp; cases hp
    | none =>
      rw [hn] at hp
      simp only at hp
      by_cases hm : m < 1 ∨ 16 < m
      · rw [if_pos hm] at hp; cases hp
      · rw [if_neg hm] at hp
        unfold ckErr at hc
        have hnn : 0 ≤ n ∧ n ≤ 32 := by
          unfold netErr at hn
          split at hn
          · cases hn
          · omega
        exact ⟨rPut_ok (rAged_ok h (by omega) (by omega)) (by omega) ha hnn (by omega) hp, by omega, by omega, by omega, by omega, rfl, by omega, by omega, hp⟩
theorem lose1_key (f now : Int) (x : Td) : (lose1 f now x).f = x.f ∧ (lose1 f now x).a = x.a ∧ (lose1 f now x).n = x.n := by
  unfold lose1; split <;> exact ⟨rfl, rfl, rfl⟩
theorem lose_ok {now0 now f : Int} {l : List Td} (h : RibOk now0 l) (hn : now0 ≤ now) (hm : now ≤ 1099511627776) : RibOk now (rLost f now l) := by
  have h1 := rAged_ok h hn hm
  refine ⟨h1.n0, h1.n1, by unfold rLost; rw [List.length_map]; exact h1.len, fun y hy => ?_, ?_⟩
  · obtain ⟨x, hx, rfl⟩ := List.mem_map.1 hy
    obtain ⟨q1, q2, q3, q4, q5, q6, q7, q8, q9, q10⟩ := h1.each x hx
    have := h1.n0
    unfold lose1
    split
    · constructor <;> simp only <;> omega
    · exact ⟨q1, q2, q3, q4, q5, q6, q7, q8, q9, q10⟩
  · exact List.Pairwise.map _ (fun x x' hlt => ltd_key hlt (lose1_key f now x) (lose1_key f now x')) h1.ord

theorem age1_live {now : Int} {x : Td} (h : x.m < 16) (h2 : ¬ 180 ≤ now - x.t) : age1 now x = some x := by
  unfold age1; rw [if_neg (by omega), if_pos (.inl h)]
theorem age1_dies {now : Int} {x : Td} (h : x.m < 16) (h2 : 180 ≤ now - x.t) : age1 now x = if now - (x.t + 180) < 120 then some ⟨x.f, x.a, x.n, 16, x.t + 180⟩ else none := by
  unfold age1; rw [if_pos ⟨h, h2⟩]
theorem age1_dead {now : Int} {x : Td} (h : ¬ x.m < 16) : age1 now x = if now - x.t < 120 then some x else none := by
  unfold age1; rw [if_neg (by omega)]
  by_cases h2 : now - x.t < 120
  · rw [if_pos (.inr h2), if_pos h2]
  · rw [if_neg (by omega), if_neg h2]
/-- To look on the way changes nothing. -/
theorem age1_two (a b : Int) (h : a ≤ b) (x : Td) : (age1 a x).bind (age1 b) = age1 b x := by
  by_cases h1 : x.m < 16
  · by_cases h2 : 180 ≤ a - x.t
    · rw [age1_dies h1 h2, age1_dies h1 (show 180 ≤ b - x.t by omega)]
      by_cases h3 : a - (x.t + 180) < 120
      · rw [if_pos h3]
        show age1 b ⟨x.f, x.a, x.n, 16, x.t + 180⟩ = _
        rw [age1_dead (by simp)]
      · rw [if_neg h3, if_neg (by omega)]; rfl
    · rw [age1_live h1 h2]; rfl
  · rw [age1_dead h1]
    by_cases h3 : a - x.t < 120
    · rw [if_pos h3]; rfl
    · rw [if_neg h3, age1_dead h1, if_neg (by omega)]; rfl
theorem rAged_two {a b : Int} (h : a ≤ b) (l : List Td) : rAged b (rAged a l) = rAged b l := by
  unfold rAged
  rw [List.filterMap_filterMap]
  induction l with
  | nil => rfl
  | cons x l ih => rw [List.filterMap_cons, List.filterMap_cons, age1_two a b h x, ih]
end Go
