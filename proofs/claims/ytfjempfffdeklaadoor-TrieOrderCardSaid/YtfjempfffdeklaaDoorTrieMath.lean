import Derived.Test.YtfjempfffdeklaaDoorTrigMath
import Derived.Test.YtfjempfffdeklaaDoorPrefW
namespace Go.Proofs.YtfjempfffdeklaaDoor
open Go.RowKit

/-! Nets in a tree: by their bits. -/
def bitA (a : Int) (i : Nat) : Int := a / 2 ^ (31 - i) % 2
theorem bitA_01 (a : Int) (i : Nat) : bitA a i = 0 ∨ bitA a i = 1 := by unfold bitA; omega
theorem pow31_pos (i : Nat) : (0 : Int) < 2 ^ (31 - i) := Int.pow_pos (by decide)
theorem pow32_two {i : Nat} (hi : i < 32) : (2 : Int) ^ (32 - i) = 2 ^ (31 - i) * 2 := by
  rw [show 32 - i = (31 - i) + 1 by omega, Int.pow_succ]
theorem cutA_succ {a : Int} (ha : 0 ≤ a ∧ a < 4294967296) {i : Nat} (hi : i < 32) : cutA a (i + 1) = cutA a i + bitA a i * 2 ^ (31 - i) := by
  unfold cutA bitA
  rw [pow32_two hi, show 32 - (i + 1) = 31 - i by omega]
  have hp := pow31_pos i
  generalize (2 : Int) ^ (31 - i) = m at *
  obtain ⟨A, rfl⟩ := Int.eq_ofNat_of_zero_le ha.1
  obtain ⟨M, rfl⟩ := Int.eq_ofNat_of_zero_le (Int.le_of_lt hp)
  have h := @Nat.mod_mul M 2 A
  have h2 : ((A : Int) % ((M : Int) * 2)) = (A : Int) % M + M * ((A : Int) / M % 2) := by
    have : ((A % (M * 2) : Nat) : Int) = ((A % M + M * (A / M % 2) : Nat) : Int) := by rw [h]
    simpa using this
  rw [h2, Int.mul_comm (M : Int)]
  omega
theorem cutA_32 (a : Int) : cutA a 32 = a := by unfold cutA; simp
/-- The two nets below. -/
theorem cut_low {a : Int} {k : Nat} (h : cutA a k = a) (hk : k < 32) : cutA a (k + 1) = a := by
  rw [← h]
  have h1 := cutA_mod a k
  unfold cutA at h ⊢
  have hd : (2 : Int) ^ (32 - (k + 1)) ∣ 2 ^ (32 - k) := ⟨2, by rw [pow32_two hk, show 32 - (k + 1) = 31 - k by omega]⟩
  have h2 : (a - a % 2 ^ (32 - k)) % 2 ^ (32 - (k + 1)) = 0 := Int.emod_eq_zero_of_dvd (Int.dvd_trans hd (Int.dvd_of_emod_eq_zero h1))
  omega
theorem cut_high {a : Int} {k : Nat} (h : cutA a k = a) (hk : k < 32) : cutA (a + 2 ^ (31 - k)) (k + 1) = a + 2 ^ (31 - k) ∧ cutA (a + 2 ^ (31 - k)) k = a := by
  have h1 := cutA_mod a k
  rw [h] at h1
  have hp := pow31_pos k
  have hm := pow32_two hk
  unfold cutA
  rw [show 32 - (k + 1) = 31 - k by omega]
  rw [hm] at h1 ⊢
  generalize (2 : Int) ^ (31 - k) = m at *
  obtain ⟨c, hc⟩ := Int.dvd_of_emod_eq_zero h1
  have e1 : (a + m) % m = 0 := Int.emod_eq_zero_of_dvd ⟨c * 2 + 1, by rw [hc]; simp only [Int.mul_add, Int.mul_one, Int.mul_assoc, Int.mul_comm 2 c]⟩
  have e2 : (a + m) % (m * 2) = m := by
    rw [hc, Int.add_comm, Int.add_mul_emod_self_left]
    exact Int.emod_eq_of_lt (by omega) (by omega)
  rw [e1, e2]
  omega

/-- A net lies within another one. -/
def liesB (a : Int) (k : Nat) (x : Nt) : Prop := k ≤ x.n.toNat ∧ cutA x.a k = a
instance (a : Int) (k : Nat) (x : Nt) : Decidable (liesB a k x) := by unfold liesB; infer_instance
/-- A right net. -/
structure NtOk (x : Nt) : Prop where
  n0 : 0 ≤ x.n
  n32 : x.n ≤ 32
  a0 : 0 ≤ x.a
  a32 : x.a < 4294967296
  cut : cutA x.a x.n.toNat = x.a
theorem ntOk_of {a n : Int} (h : netErr a n = none) (ha : 0 ≤ a ∧ a < 4294967296) : NtOk ⟨a, n⟩ := by
  obtain ⟨k, rfl, hk, hm⟩ := netErr_ok h
  exact ⟨by simp, by simp only; omega, ha.1, ha.2, by simpa using cutA_self hm⟩
theorem lies_split {x : Nt} (hx : NtOk x) {a : Int} {k : Nat} (hk : k < 32) (ha : cutA a k = a) : liesB a k x ↔ x = ⟨a, k⟩ ∨ liesB a (k + 1) x ∨ liesB (a + 2 ^ (31 - k)) (k + 1) x := by
  obtain ⟨h1, h2⟩ := cut_high ha hk
  have h3 := cut_low ha hk
  have hn := hx.n32
  have hn0 := hx.n0
  constructor
  · rintro ⟨g1, g2⟩
    by_cases hkx : k = x.n.toNat
    · left
      have := hx.cut
      rw [← hkx, g2] at this
      obtain ⟨xa, xn⟩ := x
      simp only at *
      subst this
      congr 1
      omega
    · have hs := cutA_succ ⟨hx.a0, hx.a32⟩ hk
      rw [g2] at hs
      right
      rcases bitA_01 x.a k with hb | hb <;> rw [hb] at hs
      · left; exact ⟨by omega, by omega⟩
      · right; exact ⟨by omega, by omega⟩
  · rintro (h | ⟨g1, g2⟩ | ⟨g1, g2⟩)
    · subst h; exact ⟨by simp, ha⟩
    · refine ⟨by omega, ?_⟩
      rw [← cutA_cut x.a (Nat.le_succ k) (by omega), g2, ha]
    · refine ⟨by omega, ?_⟩
      rw [← cutA_cut x.a (Nat.le_succ k) (by omega), g2, h2]
theorem lies_deep {x : Nt} (hx : NtOk x) {a : Int} : liesB a 32 x ↔ x = ⟨a, 32⟩ := by
  have hn := hx.n32
  have hn0 := hx.n0
  constructor
  · rintro ⟨g1, g2⟩
    rw [cutA_32] at g2
    obtain ⟨xa, xn⟩ := x
    simp only at *
    subst g2
    congr 1
    omega
  · rintro rfl; exact ⟨by simp, cutA_32 _⟩
theorem lies_top {x : Nt} (hx : NtOk x) : liesB 0 0 x := ⟨Nat.zero_le _, cutA_zero ⟨hx.a0, hx.a32⟩⟩
theorem lies_bd {x : Nt} {a : Int} {k : Nat} (h : liesB a k x) : a ≤ x.a ∧ x.a < a + 2 ^ (32 - k) := by
  have hp : (0 : Int) < 2 ^ (32 - k) := Int.pow_pos (by decide)
  have h1 := Int.emod_nonneg x.a (Int.ne_of_gt hp)
  have h2 := Int.emod_lt_of_pos x.a hp
  have := h.2
  unfold cutA at this
  omega

theorem ns_ext {l m : List Nt} (hl : NSorted l) (hm : NSorted m) (h : ∀ x, x ∈ l ↔ x ∈ m) : l = m := by
  induction l generalizing m with
  | nil =>
    cases m with
    | nil => rfl
    | cons y m => exact absurd ((h y).2 (by simp)) (by simp)
  | cons x l ih =>
    cases m with
    | nil => exact absurd ((h x).1 (by simp)) (by simp)
    | cons y m =>
      obtain ⟨h1, h2⟩ := List.pairwise_cons.1 hl
      obtain ⟨h3, h4⟩ := List.pairwise_cons.1 hm
      have hxy : x = y := by
        rcases List.mem_cons.1 ((h x).1 (by simp)) with e | e
        · exact e
        · rcases List.mem_cons.1 ((h y).2 (by simp)) with e2 | e2
          · exact e2.symm
          · exact absurd (h1 y e2) (ntLt_asymm (h3 x e))
      subst hxy
      congr 1
      refine ih h2 h4 (fun z => ?_)
      constructor
      · intro hz
        rcases List.mem_cons.1 ((h z).1 (by simp [hz])) with e | e
        · subst e; exact absurd (h1 z hz) (ntLt_irrefl z)
        · exact e
      · intro hz
        rcases List.mem_cons.1 ((h z).2 (by simp [hz])) with e | e
        · subst e; exact absurd (h3 z hz) (ntLt_irrefl z)
        · exact e

/-- Those within a net. -/
def subs (C : List Nt) (a : Int) (k : Nat) : List Nt := C.filter (fun x => decide (liesB a k x))
def hereL (C : List Nt) (x : Nt) : List Nt := if x ∈ C then [x] else []
theorem mem_subs {C : List Nt} {a : Int} {k : Nat} {x : Nt} : x ∈ subs C a k ↔ x ∈ C ∧ liesB a k x := by simp [subs]
theorem mem_here {C : List Nt} {x y : Nt} : y ∈ hereL C x ↔ y = x ∧ x ∈ C := by
  unfold hereL
  split
  · rename_i h; simp [h]
  · rename_i h; simp [h]
theorem subs_sorted {C : List Nt} (h : NSorted C) (a : Int) (k : Nat) : NSorted (subs C a k) := List.Pairwise.filter _ h
theorem subs_split {C : List Nt} (hs : NSorted C) (hC : ∀ x ∈ C, NtOk x) {a : Int} {k : Nat} (hk : k < 32) (ha : cutA a k = a) :
    subs C a k = hereL C ⟨a, k⟩ ++ (subs C a (k + 1) ++ subs C (a + 2 ^ (31 - k)) (k + 1)) := by
  have hp := pow31_pos k
  refine ns_ext (subs_sorted hs a k) ?_ (fun x => ?_)
  · refine List.pairwise_append.2 ⟨?_, List.pairwise_append.2 ⟨subs_sorted hs _ _, subs_sorted hs _ _, fun x hx y hy => ?_⟩, fun x hx y hy => ?_⟩
    · unfold hereL; split <;> simp
    · obtain ⟨-, hx⟩ := mem_subs.1 hx
      obtain ⟨-, hy⟩ := mem_subs.1 hy
      have h1 := lies_bd hx
      have h2 := lies_bd hy
      rw [show 32 - (k + 1) = 31 - k by omega] at h1 h2
      exact .inl (by omega)
    · obtain ⟨rfl, -⟩ := mem_here.1 hx
      rcases List.mem_append.1 hy with hy | hy
      · obtain ⟨hyC, hy⟩ := mem_subs.1 hy
        have h2 := lies_bd hy
        have h3 := hy.1
        have h4 := (hC y hyC).n0
        by_cases e : a = y.a
        · exact .inr ⟨e, by simp only; omega⟩
        · exact .inl (by simp only; omega)
      · obtain ⟨-, hy⟩ := mem_subs.1 hy
        have h2 := lies_bd hy
        exact .inl (by simp only; omega)
  · rw [List.mem_append, List.mem_append, mem_subs, mem_subs, mem_subs, mem_here]
    constructor
    · rintro ⟨h1, h2⟩
      rcases (lies_split (hC x h1) hk ha).1 h2 with h | h | h
      · subst h; exact .inl ⟨rfl, h1⟩
      · exact .inr (.inl ⟨h1, h⟩)
      · exact .inr (.inr ⟨h1, h⟩)
    · rintro (⟨rfl, h⟩ | ⟨h1, h2⟩ | ⟨h1, h2⟩)
      · exact ⟨h, (lies_split (hC _ h) hk ha).2 (.inl rfl)⟩
      · exact ⟨h1, (lies_split (hC x h1) hk ha).2 (.inr (.inl h2))⟩
      · exact ⟨h1, (lies_split (hC x h1) hk ha).2 (.inr (.inr h2))⟩
theorem subs_deep {C : List Nt} (hs : NSorted C) (hC : ∀ x ∈ C, NtOk x) (a : Int) : subs C a 32 = hereL C ⟨a, 32⟩ := by
  refine ns_ext (subs_sorted hs a 32) (by unfold hereL; split <;> simp) (fun x => ?_)
  rw [mem_subs, mem_here]
  constructor
  · rintro ⟨h1, h2⟩
    have := (lies_deep (hC x h1)).1 h2
    subst this
    exact ⟨rfl, h1⟩
  · rintro ⟨rfl, h⟩; exact ⟨h, (lies_deep (hC _ h)).2 rfl⟩
theorem subs_top {C : List Nt} (hC : ∀ x ∈ C, NtOk x) : subs C 0 0 = C := List.filter_eq_self.2 (fun x hx => decide_eq_true (lies_top (hC x hx)))
theorem subs_none {C : List Nt} {a : Int} {k : Nat} (h : ∀ x ∈ C, ¬ liesB a k x) : subs C a k = [] := List.filter_eq_nil_iff.2 (fun x hx => by simpa using h x hx)
end Go.Proofs.YtfjempfffdeklaaDoor
