import Derived.Test.YtbmeeglehbaggaaGaoMath
import Derived.Test.YtbmeeglehbaggaaMatB
import Derived.Test.YtbmeeglehbaggaaRecs
namespace Go.Proofs.Ytbmeeglehbaggaa
open Go.RowKit

/-! Deals: what is wrong with them, and what each is to each. -/
def Lk.badD (n : Int) (x : Lk) : Prop := x.a < 0 ∨ n ≤ x.a ∨ x.b < 0 ∨ n ≤ x.b ∨ x.c < 1 ∨ 3 < x.c
instance (n : Int) (x : Lk) : Decidable (Lk.badD n x) := by unfold Lk.badD; infer_instance
/-- Are two deals of the same two nodes? -/
def twinB (x y : Lk) : Bool := (decide (y.a = x.a) && decide (y.b = x.b)) || (decide (y.a = x.b) && decide (y.b = x.a))
theorem twinB_iff (x y : Lk) : twinB x y = true ↔ (y.a = x.a ∧ y.b = x.b) ∨ (y.a = x.b ∧ y.b = x.a) := by
  unfold twinB; rw [Bool.or_eq_true, Bool.and_eq_true, Bool.and_eq_true]; simp only [decide_eq_true_eq]
def dealErr (n : Int) (seen : List Lk) : List Lk → Option Int
  | [] => none
  | x :: l => if Lk.badD n x then some 1 else if x.a = x.b then some 3 else if ∃ y ∈ seen, twinB x y = true then some 5 else dealErr n (seen ++ [x]) l
theorem dealErr_cons (n : Int) (seen : List Lk) (x : Lk) (l : List Lk) : dealErr n seen (x :: l) = if Lk.badD n x then some 1 else if x.a = x.b then some 3 else if ∃ y ∈ seen, twinB x y = true then some 5 else dealErr n (seen ++ [x]) l := rfl
/-- Deals that are well. -/
structure DealOk (n : Int) (l : List Lk) : Prop where
  ok : ∀ x ∈ l, ¬ Lk.badD n x ∧ x.a ≠ x.b
  tw : l.Pairwise fun x y => twinB y x = false
theorem dealErr_ok {n : Int} : ∀ (l seen : List Lk), dealErr n seen l = none → (∀ x ∈ l, ¬ Lk.badD n x ∧ x.a ≠ x.b) ∧ (∀ x ∈ l, ∀ y ∈ seen, twinB x y = false) ∧ l.Pairwise fun x y => twinB y x = false
  | [], _, _ => ⟨(fun _ h => nomatch h), (fun _ h => nomatch h), List.Pairwise.nil⟩
  | x :: l, seen, h => by
    rw [dealErr_cons] at h
    split at h
    · cases h
    · rename_i h1
      split at h
      · cases h
      · rename_i h2
        split at h
        · cases h
        · rename_i h3
          obtain ⟨i1, i2, i3⟩ := dealErr_ok l _ h
          refine ⟨fun y hy => ?_, fun y hy z hz => ?_, List.pairwise_cons.2 ⟨fun y hy => i2 y hy x (by simp), i3⟩⟩
          · rcases List.mem_cons.1 hy with rfl | hy
            · exact ⟨h1, h2⟩
            · exact i1 y hy
          · rcases List.mem_cons.1 hy with rfl | hy
            · exact Bool.eq_false_iff.2 (fun e => h3 ⟨z, hz, e⟩)
            · exact i2 y hy z (by simp [hz])
def put2D (rs : List (List Int)) (i k : Nat) (x : Int) : List (List Int) := rs.set i ((nth rs i).set k x)
def putD (rs : List (List Int)) (x : Lk) : List (List Int) := put2D (put2D rs x.a.toNat x.b.toNat x.c) x.b.toNat x.a.toNat (4 - x.c)
def tab0 (n : Nat) : List (List Int) := ran n (fun _ => List.replicate n (0 : Int))
def tabR (n : Nat) (l : List Lk) : List (List Int) := l.foldl putD (tab0 n)
theorem put2D_sq {n : Nat} {rs : List (List Int)} (h : Sq n rs) (i k : Nat) (x : Int) (hi : i < n) : Sq n (put2D rs i k x) := by
  refine ⟨by rw [put2D, List.length_set, h.len], fun j hj => ?_⟩
  unfold put2D
  rw [nth_set rs i j _ (by rw [h.len]; exact hi)]
  split
  · rw [List.length_set]; exact h.rows i hi
  · exact h.rows j hj
theorem put2D_at {n : Nat} {rs : List (List Int)} (h : Sq n rs) (i k : Nat) (x : Int) (hi : i < n) (hk : k < n) (p q : Nat) : at2 (put2D rs i k x) p q = if p = i ∧ q = k then x else at2 rs p q := by
  unfold at2 put2D
  rw [nth_set rs i p _ (by rw [h.len]; exact hi)]
  by_cases hp : p = i
  · subst hp
    rw [if_pos rfl, nth_set _ _ _ _ (by rw [h.rows p hi]; exact hk)]
    by_cases hq : q = k
    · rw [if_pos hq, if_pos ⟨rfl, hq⟩]
    · rw [if_neg hq, if_neg (fun hc => hq hc.2)]
  · rw [if_neg hp, if_neg (fun hc => hp hc.1)]
theorem tab0_sq (n : Nat) : Sq n (tab0 n) := ⟨ran_len _ _, fun i hi => by unfold tab0; rw [nth_ran n _ i hi]; simp⟩
theorem putD_sq {n : Nat} {rs : List (List Int)} (h : Sq n rs) (x : Lk) (ha : x.a.toNat < n) (hb : x.b.toNat < n) : Sq n (putD rs x) := put2D_sq (put2D_sq h _ _ _ ha) _ _ _ hb
theorem putD_at {n : Nat} {rs : List (List Int)} (h : Sq n rs) (x : Lk) (ha : x.a.toNat < n) (hb : x.b.toNat < n) (p q : Nat) : at2 (putD rs x) p q = if p = x.b.toNat ∧ q = x.a.toNat then 4 - x.c else if p = x.a.toNat ∧ q = x.b.toNat then x.c else at2 rs p q := by
  unfold putD
  rw [put2D_at (put2D_sq h _ _ _ ha) _ _ _ hb ha, put2D_at h _ _ _ ha hb]
theorem foldD_sq {n : Nat} : ∀ (l : List Lk) (rs : List (List Int)), Sq n rs → (∀ x ∈ l, x.a.toNat < n ∧ x.b.toNat < n) → Sq n (l.foldl putD rs)
  | [], _, h, _ => h
  | x :: l, _, h, hl => foldD_sq l _ (putD_sq h x (hl x (by simp)).1 (hl x (by simp)).2) (fun y hy => hl y (by simp [hy]))
theorem DealOk.lt {n : Nat} {l : List Lk} (h : DealOk n l) : ∀ x ∈ l, x.a.toNat < n ∧ x.b.toNat < n := fun x hx => by
  have := (h.ok x hx).1; unfold Lk.badD at this; omega
theorem tabR_sq {n : Nat} {l : List Lk} (h : DealOk n l) : Sq n (tabR n l) := foldD_sq l _ (tab0_sq n) h.lt
theorem tab0_at {n p q : Nat} (hp : p < n) (hq : q < n) : at2 (tab0 n) p q = 0 := by
  unfold at2 tab0
  rw [nth_ran n _ p hp, nth_replicate _ _ _ hq]
/-- The first deal of two nodes. -/
def hitB (a b : Int) (y : Lk) : Bool := (decide (y.a = a) && decide (y.b = b)) || (decide (y.a = b) && decide (y.b = a))
def whatM (l : List Lk) (a b : Int) : Int := match l.find? (hitB a b) with
  | some y => if y.a = a ∧ y.b = b then y.c else 4 - y.c
  | none => 0
theorem DealOk.head {n : Int} {l : List Lk} {x : Lk} (h : DealOk n (l ++ [x])) : DealOk n l ∧ (¬ Lk.badD n x ∧ x.a ≠ x.b) ∧ ∀ y ∈ l, twinB x y = false := by
  obtain ⟨h1, h2⟩ := h
  rw [List.pairwise_append] at h2
  exact ⟨⟨fun y hy => h1 y (by simp [hy]), h2.1⟩, h1 x (by simp), fun y hy => h2.2.2 y hy x (by simp)⟩
/-- The table tells what the first deal tells; what stands so. -/
structure TabD (n : Nat) (l : List Lk) : Prop where
  what : ∀ p q, p < n → q < n → at2 (tabR n l) p q = whatM l p q
  vals : ∀ p q, p < n → q < n → 0 ≤ at2 (tabR n l) p q ∧ at2 (tabR n l) p q ≤ 3
  anti : ∀ p q, p < n → q < n → at2 (tabR n l) p q ≠ 0 → at2 (tabR n l) q p = 4 - at2 (tabR n l) p q
theorem tabD_of {n : Nat} : ∀ (k : Nat) (l : List Lk), l.length = k → DealOk n l → TabD n l
  | 0, l, hl, _ => by
    obtain rfl := List.eq_nil_of_length_eq_zero hl
    refine ⟨fun p q hp hq => ?_, fun p q hp hq => ?_, fun p q hp hq h => ?_⟩
    · show at2 (tab0 n) p q = _
      rw [tab0_at hp hq]; rfl
    · show 0 ≤ at2 (tab0 n) p q ∧ at2 (tab0 n) p q ≤ 3
      rw [tab0_at hp hq]; omega
    · exact absurd (show at2 (tab0 n) p q = 0 from tab0_at hp hq) h
  | k + 1, l, hl, hd => by
    obtain ⟨m, x, rfl⟩ : ∃ m x, l = m ++ [x] := by
      rcases List.eq_nil_or_concat l with h | ⟨m, x, h⟩
      · rw [h] at hl; cases hl
      · exact ⟨m, x, by rw [h, List.concat_eq_append]⟩
    obtain ⟨hm, ⟨hx, hxx⟩, htw⟩ := hd.head
    have ih := tabD_of k m (by simpa using hl) hm
    have hsq := tabR_sq hm
    have hlt := hd.lt x (by simp)
    have e : tabR n (m ++ [x]) = putD (tabR n m) x := by unfold tabR; rw [List.foldl_append]; rfl
    obtain ⟨xa, xb, xc⟩ := x
    unfold Lk.badD at hx
    simp only at hx hxx hlt
    obtain ⟨A, rfl⟩ := Int.eq_ofNat_of_zero_le (show 0 ≤ xa by omega)
    obtain ⟨B, rfl⟩ := Int.eq_ofNat_of_zero_le (show 0 ≤ xb by omega)
    have hat : ∀ p q, at2 (tabR n (m ++ [⟨A, B, xc⟩])) p q = if p = B ∧ q = A then 4 - xc else if p = A ∧ q = B then xc else at2 (tabR n m) p q := fun p q => by
      rw [e, putD_at hsq _ hlt.1 hlt.2]; rfl
    have hAB : A ≠ B := fun h => hxx (by rw [h])
    refine ⟨fun p q hp hq => ?_, fun p q hp hq => ?_, fun p q hp hq => ?_⟩
    · rw [hat]
      unfold whatM
      rw [List.find?_append]
      by_cases hh : hitB p q ⟨A, B, xc⟩ = true
      · have hno : m.find? (hitB p q) = none := by
          rw [List.find?_eq_none]
          intro y hy he
          have h1 := htw y hy
          have h2 : twinB ⟨A, B, xc⟩ y = true := by
            rw [twinB_iff]
            unfold hitB at hh he
            simp only [Bool.or_eq_true, Bool.and_eq_true, decide_eq_true_eq] at hh he ⊢
            omega
          rw [h1] at h2; cases h2
        rw [hno]
        simp only [Option.none_or, List.find?_cons, hh]
        unfold hitB at hh
        simp only [Bool.or_eq_true, Bool.and_eq_true, decide_eq_true_eq] at hh
        by_cases h1 : p = B ∧ q = A
        · rw [if_pos h1, if_neg (by omega)]
        · rw [if_neg h1, if_pos (by omega), if_pos (by omega)]
      · have hh' : hitB p q ⟨A, B, xc⟩ = false := Bool.eq_false_iff.2 hh
        have e2 : ((m.find? (hitB p q)).or ([(⟨A, B, xc⟩ : Lk)].find? (hitB p q))) = m.find? (hitB p q) := by
          rw [List.find?_cons, hh']; simp
        rw [e2]
        unfold hitB at hh
        simp only [Bool.or_eq_true, Bool.and_eq_true, decide_eq_true_eq] at hh
        rw [if_neg (by omega), if_neg (by omega)]
        exact ih.what p q hp hq
    · rw [hat]
      have := ih.vals p q hp hq
      split
      · omega
      · split <;> omega
    · rw [hat, hat]
      have := ih.anti p q hp hq
      by_cases h1 : p = B ∧ q = A
      · rw [if_pos h1, if_neg (by omega), if_pos (by omega)]; omega
      · rw [if_neg h1]
        by_cases h2 : p = A ∧ q = B
        · rw [if_pos h2, if_pos (by omega)]; omega
        · rw [if_neg h2, if_neg (by omega), if_neg (by omega)]; exact this

/-! Who is done: all that one's providers are. -/
def doneS (n : Nat) (W : Nat → Nat → Int) (D : List Bool) (i : Nat) : List Bool := D.set i (nth D i || !((List.range n).any fun k => decide (W i k = 3) && !nth D k))
def doneR (n : Nat) (W : Nat → Nat → Int) (D : List Bool) : List Bool := (List.range n).foldl (doneS n W) D
def doneN (n : Nat) (W : Nat → Nat → Int) : Nat → List Bool
  | 0 => List.replicate n false
  | m + 1 => doneR n W (doneN n W m)
def Ranked (n : Nat) (W : Nat → Nat → Int) (D : List Bool) : Prop := D.length = n ∧ ∃ r : Nat → Nat, ∀ i, i < n → nth D i = true → ∀ k, k < n → W i k = 3 → nth D k = true ∧ r k < r i
theorem ranked_step {n : Nat} {W : Nat → Nat → Int} {D : List Bool} (h : Ranked n W D) {i : Nat} (hi : i < n) : Ranked n W (doneS n W D i) := by
  obtain ⟨hl, r, hr⟩ := h
  refine ⟨by unfold doneS; rw [List.length_set, hl], ?_⟩
  have hn : ∀ j, nth (doneS n W D i) j = if j = i then (nth D i || !((List.range n).any fun k => decide (W i k = 3) && !nth D k)) else nth D j := fun j => nth_set D i j _ (by rw [hl]; exact hi)
  by_cases hd : nth D i = true
  · refine ⟨r, fun j hj hjd k hk hw => ?_⟩
    have e : ∀ j, nth (doneS n W D i) j = nth D j := fun j => by
      rw [hn]; split
      · rename_i h; subst h; rw [hd]; rfl
      · rfl
    rw [e] at hjd ⊢
    exact hr j hj hjd k hk hw
  · have hd' : nth D i = false := Bool.eq_false_iff.2 hd
    obtain ⟨M, hM⟩ : ∃ M, ∀ k, k < n → r k < M := by
      have gen : ∀ (l : List Nat) (m : Nat), (∀ k ∈ l, r k < l.foldl (fun m k => m + r k + 1) m) ∧ m ≤ l.foldl (fun m k => m + r k + 1) m := by
        intro l
        induction l with
        | nil => intro m; exact ⟨(fun _ h => nomatch h), Nat.le_refl _⟩
        | cons x l ih =>
          intro m
          obtain ⟨i1, i2⟩ := ih (m + r x + 1)
          refine ⟨fun k hk => ?_, by rw [List.foldl_cons]; omega⟩
          rw [List.foldl_cons]
          rcases List.mem_cons.1 hk with rfl | hk
          · omega
          · exact i1 k hk
      exact ⟨_, fun k hk => (gen (List.range n) 0).1 k (List.mem_range.2 hk)⟩
    refine ⟨fun j => if j = i then M else r j, fun j hj hjd k hk hw => ?_⟩
    rw [hn] at hjd
    by_cases hji : j = i
    · subst hji
      rw [if_pos rfl, hd', Bool.false_or] at hjd
      have hall : nth D k = true := by
        have h1 : ((List.range n).any fun k => decide (W j k = 3) && !nth D k) = false := by simpa using hjd
        rw [List.any_eq_false] at h1
        have h2 := h1 k (List.mem_range.2 hk)
        simp only [hw, decide_true, Bool.true_and] at h2
        cases hk2 : nth D k with
        | true => rfl
        | false => rw [hk2] at h2; exact absurd rfl h2
      have hkj : k ≠ j := fun h => by subst h; rw [hd'] at hall; cases hall
      refine ⟨by rw [hn, if_neg hkj]; exact hall, ?_⟩
      show (if k = j then M else r k) < (if j = j then M else r j)
      rw [if_neg hkj, if_pos rfl]
      exact hM k hk
    · rw [if_neg hji] at hjd
      obtain ⟨h1, h2⟩ := hr j hj hjd k hk hw
      have hki : k ≠ i := fun h => by subst h; rw [hd'] at h1; cases h1
      refine ⟨by rw [hn, if_neg hki]; exact h1, ?_⟩
      show (if k = i then M else r k) < (if j = i then M else r j)
      rw [if_neg hki, if_neg hji]
      exact h2
theorem ranked_fold {n : Nat} {W : Nat → Nat → Int} : ∀ (l : List Nat) (D : List Bool), Ranked n W D → (∀ i ∈ l, i < n) → Ranked n W (l.foldl (doneS n W) D)
  | [], _, h, _ => h
  | x :: l, _, h, hl => ranked_fold l _ (ranked_step h (hl x (by simp))) (fun y hy => hl y (by simp [hy]))
theorem ranked_n (n : Nat) (W : Nat → Nat → Int) : ∀ m, Ranked n W (doneN n W m)
  | 0 => ⟨by simp [doneN], fun _ => 0, fun i hi h => by unfold doneN at h; rw [nth_replicate _ _ _ hi] at h; cases h⟩
  | m + 1 => ranked_fold _ _ (ranked_n n W m) (fun i hi => List.mem_range.1 hi)
def gaoErr (n : Int) (l : List Lk) : Option Int := if n < 1 ∨ 8 < n then some 1 else match dealErr n [] l with
  | some e => some e
  | none => if false ∈ doneN n.toNat (at2 (tabR n.toNat l)) n.toNat then some 3 else none
/-- What stands where nothing is wrong. -/
theorem gaoErr_ok {n : Int} {l : List Lk} (h : gaoErr n l = none) : ∃ N : Nat, n = N ∧ 1 ≤ N ∧ N ≤ 8 ∧ DealOk N l ∧ TabD N l ∧ ∃ r, DealsW N (at2 (tabR N l)) r := by
  unfold gaoErr at h
  split at h
  · cases h
  · rename_i hn
    split at h
    · cases h
    · rename_i hd
      split at h
      · cases h
      · rename_i hf
        obtain ⟨N, rfl⟩ := Int.eq_ofNat_of_zero_le (show 0 ≤ n by omega)
        rw [Int.toNat_natCast] at hf
        obtain ⟨h1, -, h3⟩ := dealErr_ok l [] hd
        have hok : DealOk N l := ⟨h1, h3⟩
        have ht := tabD_of l.length l rfl hok
        obtain ⟨hl, r, hr⟩ := ranked_n N (at2 (tabR N l)) N
        have hall : ∀ i, i < N → nth (doneN N (at2 (tabR N l)) N) i = true := fun i hi => by
          cases hh : nth (doneN N (at2 (tabR N l)) N) i with
          | true => rfl
          | false => exact absurd (hh ▸ nth_mem _ i (by rw [hl]; exact hi)) hf
        exact ⟨N, rfl, by omega, by omega, hok, ht, r, ht.vals, fun i k hi hk h => ht.anti i k hi hk h, fun i k hi hk hw => (hr i hi (hall i hi) k hk hw).2⟩
end Go.Proofs.Ytbmeeglehbaggaa
