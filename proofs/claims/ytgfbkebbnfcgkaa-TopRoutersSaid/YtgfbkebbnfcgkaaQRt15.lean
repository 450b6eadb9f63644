import Derived.Test.YtgfbkebbnfcgkaaQRt1
import Derived.Test.YtgfbkebbnfcgkaaRibMath
section
namespace Go

def ntLt (x y : Nt) : Prop := netLess x.a x.n y.a y.n
instance (x y : Nt) : Decidable (ntLt x y) := by unfold ntLt; infer_instance
theorem ntLt_irrefl (x : Nt) : ¬ ntLt x x := by unfold ntLt netLess; omega
theorem ntLt_trans {x y z : Nt} (h : ntLt x y) (k : ntLt y z) : ntLt x z := by unfold ntLt netLess at *; omega
theorem ntLt_asymm {x y : Nt} (h : ntLt x y) : ¬ ntLt y x := by unfold ntLt netLess at *; omega
theorem ntLt_total (x y : Nt) : ntLt x y ∨ x = y ∨ ntLt y x := by
  by_cases h : x = y
  · exact .inr (.inl h)
  · have : ¬ (x.a = y.a ∧ x.n = y.n) := fun hh => h (by cases x; cases y; simp at hh; simp [hh])
    unfold ntLt netLess; omega
/-- Where a net has its place. -/
def nIdx (l : List Nt) (x : Nt) : Nat := (l.takeWhile fun y => decide (ntLt y x)).length
def nIns (l : List Nt) (x : Nt) : List Nt := l.take (nIdx l x) ++ x :: l.drop (nIdx l x)
theorem nIdx_le (l : List Nt) (x : Nt) : nIdx l x ≤ l.length := (List.takeWhile_sublist _).length_le
theorem nIdx_pos {y x : Nt} (l : List Nt) (h : ntLt y x) : nIdx (y :: l) x = nIdx l x + 1 := by unfold nIdx; rw [List.takeWhile_cons_of_pos (by simpa using h)]; rfl
theorem nIdx_neg {y x : Nt} (l : List Nt) (h : ¬ ntLt y x) : nIdx (y :: l) x = 0 := by unfold nIdx; rw [List.takeWhile_cons_of_neg (by simpa using h)]; rfl
theorem nIdx_before (l : List Nt) (x : Nt) : ∀ k, k < nIdx l x → ntLt (nth l k) x := by
  induction l with
  | nil => intro k hk; exact absurd hk (Nat.not_lt_zero _)
  | cons y l ih =>
    intro k hk
    by_cases hx : ntLt y x
    · rw [nIdx_pos l hx] at hk
      cases k with
      | zero => exact hx
      | succ k => rw [nth_cons_succ]; exact ih k (by omega)
    · rw [nIdx_neg l hx] at hk; omega
theorem nIdx_at (l : List Nt) (x : Nt) (h : nIdx l x < l.length) : ¬ ntLt (nth l (nIdx l x)) x := by
  induction l with
  | nil => simp at h
  | cons y l ih =>
    by_cases hx : ntLt y x
    · have e := nIdx_pos l hx
      rw [e] at h ⊢
      rw [nth_cons_succ]
      exact ih (by simpa using h)
    · have e := nIdx_neg l hx
      rw [e, nth_cons_zero]
      exact hx
theorem nIdx_unique (l : List Nt) (x : Nt) (k : Nat) (hk : k ≤ l.length) (h1 : ∀ j, j < k → ntLt (nth l j) x) (h2 : k < l.length → ¬ ntLt (nth l k) x) : nIdx l x = k := by
  rcases Nat.lt_trichotomy (nIdx l x) k with h | h | h
  · exact absurd (h1 _ h) (nIdx_at l x (by omega))
  · exact h
  · have := nIdx_le l x
    exact absurd (nIdx_before l x k h) (h2 (by omega))
def nHas (l : List Nt) (x : Nt) : Prop := nIdx l x < l.length ∧ nth l (nIdx l x) = x
instance (l : List Nt) (x : Nt) : Decidable (nHas l x) := by unfold nHas; infer_instance
/-- Nets in their order, each once. -/
abbrev NSorted (l : List Nt) : Prop := l.Pairwise ntLt
theorem nHas_iff {l : List Nt} (h : NSorted l) (x : Nt) : nHas l x ↔ x ∈ l := by
  constructor
  · intro ⟨h1, h2⟩; rw [← h2]; exact nth_mem l _ h1
  · intro hx
    obtain ⟨k, hk, rfl⟩ := List.mem_iff_getElem.1 hx
    have e : nIdx l l[k] = k := by
      refine nIdx_unique l _ k (by omega) (fun j hj => ?_) (fun _ => ?_)
      · rw [nth_eq l j (by omega)]
        exact List.pairwise_iff_getElem.1 h j k (by omega) hk hj
      · rw [nth_eq l k hk]; exact ntLt_irrefl _
    exact ⟨by rw [e]; exact hk, by rw [e, nth_eq l k hk]⟩
theorem nIns_sorted {l : List Nt} (h : NSorted l) {x : Nt} (hx : ¬ nHas l x) : NSorted (nIns l x) := by
  have hle := nIdx_le l x
  have hsplit : (l.take (nIdx l x) ++ l.drop (nIdx l x)).Pairwise ntLt := by rw [List.take_append_drop]; exact h
  obtain ⟨p1, p2, p3⟩ := List.pairwise_append.1 hsplit
  have hbef : ∀ y ∈ l.take (nIdx l x), ntLt y x := by
    intro y hy
    obtain ⟨k, hk, rfl⟩ := List.mem_iff_getElem.1 hy
    have hk' : k < nIdx l x := by rw [List.length_take] at hk; omega
    have := nIdx_before l x k hk'
    rw [nth_eq l k (by omega)] at this
    rw [List.getElem_take]; exact this
  have haft : ∀ y ∈ l.drop (nIdx l x), ntLt x y := by
    intro y hy
    obtain ⟨k, hk, rfl⟩ := List.mem_iff_getElem.1 hy
    rw [List.length_drop] at hk
    have hi : nIdx l x < l.length := by omega
    have h0 : ntLt x (nth l (nIdx l x)) := by
      rcases ntLt_total (nth l (nIdx l x)) x with h1 | h1 | h1
      · exact absurd h1 (nIdx_at l x hi)
      · exact absurd ⟨hi, h1⟩ hx
      · exact h1
    rw [List.getElem_drop]
    rw [nth_eq l _ hi] at h0
    cases k with
    | zero => exact h0
    | succ k => exact ntLt_trans h0 (List.pairwise_iff_getElem.1 h _ _ hi (by omega) (by omega))
  unfold NSorted nIns
  rw [List.pairwise_append]
  refine ⟨p1, List.pairwise_cons.2 ⟨fun y hy => haft y hy, p2⟩, fun y hy z hz => ?_⟩
  rcases List.mem_cons.1 hz with rfl | hz
  · exact hbef y hy
  · exact p3 y hy z hz
theorem nIns_mem {l : List Nt} {x y : Nt} : y ∈ nIns l x ↔ y = x ∨ y ∈ l := by
  unfold nIns
  rw [List.mem_append, List.mem_cons]
  constructor
  · rintro (h | h | h)
    · exact .inr (List.mem_of_mem_take h)
    · exact .inl h
    · exact .inr (List.mem_of_mem_drop h)
  · rintro (h | h)
    · exact .inr (.inl h)
    · rw [← List.take_append_drop (nIdx l x) l, List.mem_append] at h
      rcases h with h | h
      · exact .inl h
      · exact .inr (.inr h)
theorem nIns_len (l : List Nt) (x : Nt) : (nIns l x).length = l.length + 1 := by
  have := nIdx_le l x
  unfold nIns; simp; omega
/-- Nets, put in order. -/
def ordered (l : List Nt) : List Nt := l.foldl nIns []
theorem ordered_snoc (l : List Nt) (x : Nt) : ordered (l ++ [x]) = nIns (ordered l) x := by unfold ordered; rw [List.foldl_append]; rfl
theorem ordered_mem (l : List Nt) (y : Nt) : y ∈ ordered l ↔ y ∈ l := by
  have key : ∀ (l acc : List Nt), y ∈ l.foldl nIns acc ↔ y ∈ acc ∨ y ∈ l := by
    intro l
    induction l with
    | nil => intro acc; simp
    | cons x l ih =>
      intro acc
      rw [List.foldl_cons, ih, nIns_mem, List.mem_cons]
      by_cases h1 : y = x <;> by_cases h2 : y ∈ acc <;> by_cases h3 : y ∈ l <;> simp [h1, h2, h3]
  unfold ordered; rw [key]; simp
theorem ordered_len (l : List Nt) : (ordered l).length = l.length := by
  have key : ∀ (l acc : List Nt), (l.foldl nIns acc).length = acc.length + l.length := by
    intro l
    induction l with
    | nil => intro acc; simp
    | cons x l ih => intro acc; rw [List.foldl_cons, ih, nIns_len, List.length_cons]; omega
  unfold ordered; rw [key]; simp

/-- What is noted. -/
def tkErr (now0 now : Int) : Prop := now < now0 ∨ 1099511627776 < now
instance (now0 now : Int) : Decidable (tkErr now0 now) := by unfold tkErr; infer_instance
def tkO (now0 now : Int) : Option Int := if tkErr now0 now then some 1 else none
def noteE (now0 : Int) (l : List Nt) (x : Nt) (now : Int) : Except Int (List Nt) :=
  match netErr x.a x.n with
  | some k => .error k
  | none => if tkErr now0 now then .error 1
    else if nHas l x then .ok l
    else if l.length = 64 then .error 4
    else .ok (nIns l x)
theorem noteE_ok {now0 now : Int} {l l' : List Nt} {x : Nt} (h : noteE now0 l x now = .ok l') : netErr x.a x.n = none ∧ ¬ tkErr now0 now ∧ ((nHas l x ∧ l' = l) ∨ (¬ nHas l x ∧ l.length ≠ 64 ∧ l' = nIns l x)) := by
  unfold noteE at h
  cases hn : netErr x.a x.n with
  | some k => rw [hn] at h; cases h
  | none =>
    rw [hn] at h
    simp only at h
    by_cases ht : tkErr now0 now
    · rw [if_pos ht] at h; cases h
    · rw [if_neg ht] at h
      by_cases hh : nHas l x
      · rw [if_pos hh] at h; cases h; exact ⟨rfl, ht, .inl ⟨hh, rfl⟩⟩
      · rw [if_neg hh] at h
        by_cases h64 : l.length = 64
        · rw [if_pos h64] at h; cases h
        · rw [if_neg h64] at h; cases h; exact ⟨rfl, ht, .inr ⟨hh, h64, rfl⟩⟩
/-- When some are due; whether. -/
def dueAt (hold now last : Int) : Int := if last < 0 then now else if now < last + hold then last + hold else now
/-- What is taken, and the times and nets behind it. -/
def takeM (hold last : Int) (l : List Nt) (now : Int) : List Nt × Int × List Nt := if l = [] ∨ now < dueAt hold now last then ([], last, l) else (l, now, [])
structure TrigOk (hold now last : Int) (l : List Nt) : Prop where
  h0 : 0 ≤ hold
  h1 : hold ≤ 1000
  n0 : 0 ≤ now
  n1 : now ≤ 1099511627776
  l0 : -1 ≤ last
  l1 : last ≤ now
  len : l.length ≤ 64
  srt : NSorted l
theorem note_ok {hold now0 last now : Int} {l l' : List Nt} {x : Nt} (h : TrigOk hold now0 last l) (hn : noteE now0 l x now = .ok l') : TrigOk hold now last l' := by
  obtain ⟨_, ht, hh⟩ := noteE_ok hn
  unfold tkErr at ht
  obtain ⟨q1, q2, q3, q4, q5, q6, q7, q8⟩ := h
  rcases hh with ⟨_, rfl⟩ | ⟨hx, h64, rfl⟩
  · exact ⟨q1, q2, by omega, by omega, q5, by omega, q7, q8⟩
  · exact ⟨q1, q2, by omega, by omega, q5, by omega, by rw [nIns_len]; omega, nIns_sorted q8 hx⟩
theorem take_ok {hold now0 last now : Int} {l : List Nt} (h : TrigOk hold now0 last l) (ht : ¬ tkErr now0 now) : TrigOk hold now (takeM hold last l now).2.1 (takeM hold last l now).2.2 := by
  unfold tkErr at ht
  obtain ⟨q1, q2, q3, q4, q5, q6, q7, q8⟩ := h
  unfold takeM
  split
  · exact ⟨q1, q2, by omega, by omega, q5, by simp only; omega, q7, q8⟩
  · exact ⟨q1, q2, by omega, by omega, by simp only; omega, by simp only; omega, by simp, List.Pairwise.nil⟩
end Go
end
