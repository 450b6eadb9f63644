import Derived.Test.YtgfbkebbnfcgkaaQRt2
import Derived.Test.YtgfbkebbnfcgkaaQRt4
import Derived.Test.YtgfbkebbnfcgkaaRibMath
section
namespace Go

/-- What is wrong with costs. -/
def nearBad (costs : List Int) : Prop := 8 < costs.length ∨ ∃ c ∈ costs, c < 1 ∨ 16 < c
instance (costs : List Int) : Decidable (nearBad costs) := by unfold nearBad; infer_instance
def nearE (costs : List Int) : Option Int := if nearBad costs then some 1 else none
theorem nearE_ok {costs : List Int} (h : nearE costs = none) : costs.length ≤ 8 ∧ ∀ c ∈ costs, 1 ≤ c ∧ c ≤ 16 := by
  unfold nearE at h
  by_cases hb : nearBad costs
  · rw [if_pos hb] at h; cases h
  · unfold nearBad at hb
    refine ⟨by omega, fun c hc => ?_⟩
    have h2 : ¬ (c < 1 ∨ 16 < c) := fun h3 => hb (.inr ⟨c, hc, h3⟩)
    omega
/-- What is wrong with what was heard, of so many neighbours. -/
def heardE (N : Nat) (h : Hea) : Option Int :=
  if h.f < 0 ∨ (N : Int) ≤ h.f then some 1 else match netErr h.a h.n with
    | some k => some k
    | none => if h.m < 1 ∨ 16 < h.m then some 1 else none
def heardsE (N : Nat) : List Hea → Option Int
  | [] => none
  | h :: l => match heardE N h with
    | some k => some k
    | none => heardsE N l
def bestE (l : List Hea) (costs : List Int) (a n : Int) : Option Int := match nearE costs with
  | some k => some k
  | none => match heardsE costs.length l with
    | some k => some k
    | none => netErr a n
theorem heardE_ok {N : Nat} {h : Hea} (hk : heardE N h = none) : 0 ≤ h.f ∧ h.f < N ∧ netErr h.a h.n = none ∧ 1 ≤ h.m ∧ h.m ≤ 16 := by
  unfold heardE at hk
  split at hk
  · cases hk
  · split at hk
    · cases hk
    · split at hk
      · cases hk
      · refine ⟨by omega, by omega, by assumption, by omega, by omega⟩
theorem heardsE_ok {N : Nat} {l : List Hea} (hk : heardsE N l = none) : ∀ h ∈ l, heardE N h = none := by
  induction l with
  | nil => intro h hh; cases hh
  | cons x l ih =>
    unfold heardsE at hk
    split at hk
    · cases hk
    · intro h hh
      rcases List.mem_cons.1 hh with rfl | hh
      · assumption
      · exact ih hk h hh
/-- What a neighbour told of a net last. -/
def lastO (l : List Hea) (f a n : Int) : Option Int := l.foldl (fun acc x => if x.f = f ∧ x.a = a ∧ x.n = n then some x.m else acc) none
def lastOf (l : List Hea) (f a n : Int) : Int := (lastO l f a n).getD 16
theorem lastO_snoc (l : List Hea) (x : Hea) (f a n : Int) : lastO (l ++ [x]) f a n = if x.f = f ∧ x.a = a ∧ x.n = n then some x.m else lastO l f a n := by
  unfold lastO; rw [List.foldl_append]; rfl
theorem lastO_bd {l : List Hea} (h : ∀ x ∈ l, 1 ≤ x.m ∧ x.m ≤ 16) {f a n m : Int} (hm : lastO l f a n = some m) : 1 ≤ m ∧ m ≤ 16 := by
  have key : ∀ (l : List Hea) (acc : Option Int), (∀ x ∈ l, 1 ≤ x.m ∧ x.m ≤ 16) → (∀ q, acc = some q → 1 ≤ q ∧ q ≤ 16) → ∀ q, l.foldl (fun acc x => if x.f = f ∧ x.a = a ∧ x.n = n then some x.m else acc) acc = some q → 1 ≤ q ∧ q ≤ 16 := by
    intro l
    induction l with
    | nil => intro acc _ hacc q hq; exact hacc q hq
    | cons x l ih =>
      intro acc hl hacc q hq
      rw [List.foldl_cons] at hq
      refine ih _ (fun y hy => hl y (List.mem_cons_of_mem _ hy)) (fun r hr => ?_) q hq
      split at hr
      · cases hr; exact hl x (List.mem_cons_self ..)
      · exact hacc r hr
  exact key l none h (fun q hq => nomatch hq) m hm
/-- What each neighbour told of a net, as the map has it. -/
def toldL (l : List Hea) (a n : Int) : List (Int × Value) := l.foldl (fun acc x => if x.a = a ∧ x.n = n then mput acc x.f (.int .i64 x.m) else acc) []
theorem toldL_snoc (l : List Hea) (x : Hea) (a n : Int) : toldL (l ++ [x]) a n = if x.a = a ∧ x.n = n then mput (toldL l a n) x.f (.int .i64 x.m) else toldL l a n := by
  unfold toldL; rw [List.foldl_append]; rfl
theorem toldL_nil (a n : Int) : toldL [] a n = [] := rfl
theorem snoc_ind {α : Type} {P : List α → Prop} (h0 : P []) (h1 : ∀ l x, P l → P (l ++ [x])) : ∀ l, P l := by
  intro l
  have : P l.reverse.reverse := by
    induction l.reverse with
    | nil => exact h0
    | cons x r ih => rw [List.reverse_cons]; exact h1 _ _ ih
  rwa [List.reverse_reverse] at this
theorem toldL_get (l : List Hea) (a n f : Int) : mget (toldL l a n) f = (lastO l f a n).map (.int .i64) := by
  induction l using snoc_ind with
  | h0 => rfl
  | h1 l x ih =>
    rw [toldL_snoc, lastO_snoc]
    by_cases h : x.a = a ∧ x.n = n
    · rw [if_pos h, mget_put]
      by_cases hf : f = x.f
      · rw [if_pos hf, if_pos ⟨hf.symm, h⟩]; rfl
      · rw [if_neg hf, if_neg (fun hh => hf hh.1.symm)]; exact ih
    · rw [if_neg h, if_neg (fun hh => h hh.2)]; exact ih
theorem toldL_len (l : List Hea) (a n : Int) : (toldL l a n).length ≤ l.length := by
  induction l using snoc_ind with
  | h0 => exact Nat.le_refl _
  | h1 l x ih =>
    rw [toldL_snoc, List.length_append]
    split
    · have := mput_length (L := toldL l a n) (q := x.f) (v := .int .i64 x.m)
      show _ ≤ l.length + 1
      omega
    · show _ ≤ l.length + 1
      omega
theorem toldL_key {l : List Hea} {a n : Int} : ∀ p ∈ toldL l a n, ∃ x ∈ l, p.1 = x.f := by
  induction l using snoc_ind with
  | h0 => intro p hp; cases hp
  | h1 l x ih =>
    intro p hp
    rw [toldL_snoc] at hp
    split at hp
    · unfold mput at hp
      rcases List.mem_cons.1 hp with rfl | hp
      · exact ⟨x, by simp, rfl⟩
      · obtain ⟨y, hy, e⟩ := ih p (List.mem_filter.1 hp).1
        exact ⟨y, List.mem_append_left _ hy, e⟩
    · obtain ⟨y, hy, e⟩ := ih p hp
      exact ⟨y, List.mem_append_left _ hy, e⟩

/-- One neighbour's part in what is chosen. -/
def chStep (t : Option Int) (s : Int × List Int) (i c : Int) : Int × List Int := match t with
  | none => s
  | some m => if s.1 < c + m ∨ 16 ≤ c + m then s
    else if c + m < s.1 then (c + m, [i])
    else if s.2.length < 4 then (s.1, s.2 ++ [i]) else s
/-- What is chosen of the first k neighbours. -/
def chK (t : Int → Option Int) (costs : List Int) : Nat → Int × List Int
  | 0 => (16, [])
  | k + 1 => chStep (t k) (chK t costs k) k (nth costs k)
theorem chK_succ (t : Int → Option Int) (costs : List Int) (k : Nat) : chK t costs (k + 1) = chStep (t k) (chK t costs k) k (nth costs k) := rfl
theorem chK_bd (t : Int → Option Int) (costs : List Int) (ht : ∀ i m, t i = some m → 1 ≤ m ∧ m ≤ 16) (hc : ∀ c ∈ costs, 1 ≤ c ∧ c ≤ 16) : ∀ k, k ≤ costs.length → 2 ≤ (chK t costs k).1 ∧ (chK t costs k).1 ≤ 16 ∧ (chK t costs k).2.length ≤ 4 ∧ (∀ x ∈ (chK t costs k).2, 0 ≤ x ∧ x < (k : Int)) ∧ ((chK t costs k).2 = [] ↔ (chK t costs k).1 = 16) := by
  intro k
  induction k with
  | zero => intro _; exact ⟨(by decide : (2 : Int) ≤ 16), Int.le_refl 16, Nat.zero_le 4, (fun x hx => nomatch hx), ⟨fun _ => rfl, fun _ => rfl⟩⟩
  | succ k ih =>
    intro hk
    obtain ⟨h1, h2, h3, h4, h5⟩ := ih (by omega)
    have hck := hc _ (nth_mem costs k (by omega))
    rw [chK_succ]
    have hlift : ∀ x ∈ (chK t costs k).2, 0 ≤ x ∧ x < ((k + 1 : Nat) : Int) := fun x hx => by have := h4 x hx; omega
    cases htk : t k with
    | none => exact ⟨h1, h2, h3, hlift, h5⟩
    | some m =>
      have hm := ht _ _ htk
      unfold chStep
      simp only
      by_cases c1 : (chK t costs k).1 < nth costs k + m ∨ 16 ≤ nth costs k + m
      · rw [if_pos c1]; exact ⟨h1, h2, h3, hlift, h5⟩
      · rw [if_neg c1]
        by_cases c2 : nth costs k + m < (chK t costs k).1
        · rw [if_pos c2]
          exact ⟨by simp only; omega, by simp only; omega, by simp, fun x hx => by simp at hx; subst hx; omega, ⟨fun h => by simp at h, fun h => by simp only at h; omega⟩⟩
        · rw [if_neg c2]
          by_cases c3 : (chK t costs k).2.length < 4
          · rw [if_pos c3]
            refine ⟨h1, h2, by simp; omega, fun x hx => ?_, ⟨fun h => by simp at h, fun h => ?_⟩⟩
            · rcases List.mem_append.1 hx with hx | hx
              · exact hlift x hx
              · rw [List.mem_singleton.1 hx]; omega
            · simp only at h; omega
          · rw [if_neg c3]; exact ⟨h1, h2, h3, hlift, h5⟩
def plusM (c m : Int) : Int := if c + m < 16 then c + m else 16
/-- The document's: the least sum; by whom. -/
def mK (p : Nat → Int) : Nat → Int
  | 0 => 16
  | k + 1 => if p k < mK p k then p k else mK p k
def hopsK (p : Nat → Int) (M : Int) : Nat → List Int
  | 0 => []
  | k + 1 => if M < 16 ∧ p k = M ∧ (hopsK p M k).length < 4 then hopsK p M k ++ [(k : Int)] else hopsK p M k
theorem mK_le (p : Nat → Int) : ∀ k, mK p k ≤ 16 ∧ ∀ j, j < k → mK p k ≤ p j := by
  intro k
  induction k with
  | zero => exact ⟨Int.le_refl _, fun j hj => absurd hj (Nat.not_lt_zero _)⟩
  | succ k ih =>
    obtain ⟨h1, h2⟩ := ih
    unfold mK
    by_cases h : p k < mK p k
    · rw [if_pos h]
      refine ⟨by omega, fun j hj => ?_⟩
      rcases Nat.lt_succ_iff_lt_or_eq.1 hj with hj | rfl
      · have := h2 j hj; omega
      · exact Int.le_refl _
    · rw [if_neg h]
      refine ⟨h1, fun j hj => ?_⟩
      rcases Nat.lt_succ_iff_lt_or_eq.1 hj with hj | rfl
      · exact h2 j hj
      · omega
theorem hopsK_nil (p : Nat → Int) (M : Int) : ∀ k, (∀ j, j < k → p j ≠ M) → hopsK p M k = [] := by
  intro k
  induction k with
  | zero => intro _; rfl
  | succ k ih =>
    intro h
    unfold hopsK
    rw [ih (fun j hj => h j (by omega)), if_neg (fun hh => h k (by omega) hh.2.1)]
theorem hopsK_len (p : Nat → Int) (M : Int) : ∀ k, (hopsK p M k).length ≤ 4 ∧ (hopsK p M k).length ≤ k := by
  intro k
  induction k with
  | zero => exact ⟨Nat.zero_le _, Nat.le_refl _⟩
  | succ k ih =>
    unfold hopsK
    split
    · rename_i h
      rw [List.length_append]
      show _ + 1 ≤ 4 ∧ _ + 1 ≤ k + 1
      omega
    · omega
theorem hopsK_16 (p : Nat → Int) {M : Int} (h : 16 ≤ M) : ∀ k, hopsK p M k = [] := by
  intro k
  induction k with
  | zero => rfl
  | succ k ih => unfold hopsK; rw [ih, if_neg (fun hh => by omega)]
/-- Both choose alike. -/
theorem chK_eq (t : Int → Option Int) (costs : List Int) (p : Nat → Int) (hp : ∀ k, k < costs.length → p k = plusM (nth costs k) ((t k).getD 16)) (hc : ∀ c ∈ costs, 1 ≤ c ∧ c ≤ 16) (ht : ∀ i m, t i = some m → 1 ≤ m ∧ m ≤ 16) :
    ∀ k, k ≤ costs.length → chK t costs k = (mK p k, hopsK p (mK p k) k) := by
  intro k
  induction k with
  | zero => intro _; rfl
  | succ k ih =>
    intro hk
    have ihk := ih (by omega)
    have hck := hc _ (nth_mem costs k (by omega))
    have hpk := hp k (by omega)
    obtain ⟨hm1, hm2⟩ := mK_le p k
    rw [chK_succ, ihk]
    have hsame : 16 ≤ p k ∨ mK p k < p k → (mK p k, hopsK p (mK p k) k) = (mK p (k + 1), hopsK p (mK p (k + 1)) (k + 1)) := by
      intro h
      have e1 : mK p (k + 1) = mK p k := by show (if p k < mK p k then p k else mK p k) = _; rw [if_neg (by omega)]
      rw [e1]
      have e2 : hopsK p (mK p k) (k + 1) = hopsK p (mK p k) k := by
        show (if mK p k < 16 ∧ p k = mK p k ∧ _ then _ else _) = _
        rw [if_neg (fun hh => by omega)]
      rw [e2]
    cases htk : t k with
    | none =>
      rw [htk] at hpk
      unfold plusM at hpk
      rw [show (none : Option Int).getD 16 = 16 from rfl, if_neg (by omega)] at hpk
      exact hsame (.inl (by omega))
    | some m =>
      rw [htk] at hpk
      have hm := ht _ _ htk
      unfold plusM at hpk
      rw [show (some m : Option Int).getD 16 = m from rfl] at hpk
      unfold chStep
      simp only
      by_cases c1 : mK p k < nth costs k + m ∨ 16 ≤ nth costs k + m
      · rw [if_pos c1]
        refine hsame ?_
        by_cases c0 : nth costs k + m < 16
        · rw [if_pos c0] at hpk; omega
        · rw [if_neg c0] at hpk; omega
      · rw [if_neg c1]
        rw [if_pos (by omega)] at hpk
        by_cases c2 : nth costs k + m < mK p k
        · rw [if_pos c2]
          have e1 : mK p (k + 1) = p k := by show (if p k < mK p k then p k else mK p k) = _; rw [if_pos (by omega)]
          rw [e1]
          have e3 : hopsK p (p k) k = [] := hopsK_nil p (p k) k (fun j hj => by have := hm2 j hj; omega)
          have e2 : hopsK p (p k) (k + 1) = [(k : Int)] := by
            show (if p k < 16 ∧ p k = p k ∧ _ then _ else _) = _
            rw [e3, if_pos ⟨by omega, rfl, by decide⟩]
            rfl
          rw [e2, hpk]
        · rw [if_neg c2]
          have e0 : p k = mK p k := by omega
          have e1 : mK p (k + 1) = mK p k := by show (if p k < mK p k then p k else mK p k) = _; rw [if_neg (by omega)]
          rw [e1]
          by_cases c3 : (hopsK p (mK p k) k).length < 4
          · rw [if_pos c3]
            have e2 : hopsK p (mK p k) (k + 1) = hopsK p (mK p k) k ++ [(k : Int)] := by
              show (if mK p k < 16 ∧ p k = mK p k ∧ _ then _ else _) = _
              rw [if_pos ⟨by omega, e0, c3⟩]
            rw [e2]
          · rw [if_neg c3]
            have e2 : hopsK p (mK p k) (k + 1) = hopsK p (mK p k) k := by
              show (if mK p k < 16 ∧ p k = mK p k ∧ _ then _ else _) = _
              rw [if_neg (fun hh => c3 hh.2.2)]
            rw [e2]
end Go
end
