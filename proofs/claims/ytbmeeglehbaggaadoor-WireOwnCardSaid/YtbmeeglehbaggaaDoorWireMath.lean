import Derived.Test.YtbmeeglehbaggaaDoorEnRec
import Derived.Test.YtbmeeglehbaggaaDoorNetW
namespace Go.Proofs.YtbmeeglehbaggaaDoor
open Go.RowKit
/-! ### Messages as bytes: the plain model -/
def entErr (e : En) : Option Int := match netErr e.a e.n with
  | some k => some k
  | none => if e.t < 0 ∨ 65535 < e.t ∨ e.m < 1 ∨ 16 < e.m then some 1 else none
def entsErr : List En → Option Int
  | [] => none
  | e :: l => match entErr e with
    | some k => some k
    | none => entsErr l
/-- What is wrong with a message. -/
def msgErr (l : List En) : Option Int := if 25 < l.length then some 4 else entsErr l
/-- A number in so many bytes. -/
def beB (n : Int) : Nat → List Int
  | 0 => []
  | k + 1 => n / 2 ^ (8 * k) % 256 :: beB n k
def entB (e : En) : List Int := beB 2 2 ++ beB e.t 2 ++ beB e.a 4 ++ beB (maskV e.n.toNat) 4 ++ beB e.p 4 ++ beB e.m 4
/-- The bytes of a message. -/
def encD (ask : Bool) (l : List En) : List Int := (if ask then 1 else 2) :: 2 :: 0 :: 0 :: l.flatMap entB
def numB (l : List Int) : Int := l.foldl (fun n c => n * 256 % 4294967296 + c) 0
def mlenO (m : Int) : Option Nat := (List.range 33).find? fun k => decide (maskV k = m)
/-- The entry of twenty bytes. -/
def entD (b : List Int) : Option En := match mlenO (numB ((b.drop 8).take 4)) with
  | none => none
  | some k => if numB (b.take 2) = 2 ∧ entErr ⟨numB ((b.drop 4).take 4), k, numB ((b.drop 2).take 2), numB ((b.drop 12).take 4), numB ((b.drop 16).take 4)⟩ = none then
      some ⟨numB ((b.drop 4).take 4), k, numB ((b.drop 2).take 2), numB ((b.drop 12).take 4), numB ((b.drop 16).take 4)⟩ else none
def baseF (p : List Int) : List Int := if 8 < p.length ∧ p.length < 12 ∧ nth p (p.length - 1) ≠ 255 then [0, 2, 0, 0, 0, 0, 0, 0, 0, 0, 0, 0, 0, 0, 0, 0, 0, 0, 0, 1] else [0, 2, 0, 0, 0, 0, 0, 0, 255, 255, 255, 255, 0, 0, 0, 0, 0, 0, 0, 1]
def filledD (p : List Int) : List Int := p ++ (baseF p).drop p.length
def headD (b : List Int) : List Int := if b.length < 4 then b ++ [2, 2, 0, 0].drop b.length else b
def headBad (b : List Int) : Prop := (nth b 0 ≠ 1 ∧ nth b 0 ≠ 2) ∨ nth b 1 ≠ 2 ∨ nth b 2 ≠ 0 ∨ nth b 3 ≠ 0
instance (b : List Int) : Decidable (headBad b) := by unfold headBad; infer_instance
/-- The entries of bytes, behind others. -/
def partsD : Nat → List Int → List En → Option (List En)
  | 0, _, acc => some acc
  | k + 1, rest, acc => if rest = [] then some acc else match entD (filledD (rest.take 20)) with
    | none => none
    | some e => if acc.length = 25 then none else partsD k (rest.drop 20) (acc ++ [e])
def shortD (b : List Int) : Prop := b.length < 4 ∨ (b.length - 4) % 20 ≠ 0
instance (b : List Int) : Decidable (shortD b) := by unfold shortD; infer_instance
/-- The message of bytes. -/
def decD (b : List Int) : Except Int (Bool × List En) := if headBad (headD b) then .error 3 else match partsD b.length ((headD b).drop 4) [] with
  | none => .error 3
  | some l => if shortD b then .error 6 else .ok (decide (nth (headD b) 0 = 1), l)

/-- Numbers that may stand in an entry. -/
def En.wf (e : En) : Prop := (0 ≤ e.a ∧ e.a < 4294967296) ∧ (0 ≤ e.p ∧ e.p < 4294967296)
theorem beB_len (n : Int) : ∀ k, (beB n k).length = k
  | 0 => rfl
  | k + 1 => by rw [beB, List.length_cons, beB_len n k]
theorem beB_bd (n : Int) : ∀ k, ∀ x ∈ beB n k, 0 ≤ x ∧ x < 256
  | 0 => fun x hx => nomatch hx
  | k + 1 => fun x hx => by
    rcases List.mem_cons.1 hx with rfl | hx
    · omega
    · exact beB_bd n k x hx
theorem entB_len (e : En) : (entB e).length = 20 := by simp [entB, beB_len]
theorem entB_bd (e : En) : ∀ x ∈ entB e, 0 ≤ x ∧ x < 256 := by
  intro x hx
  unfold entB at hx
  simp only [List.mem_append] at hx
  rcases hx with ((((h | h) | h) | h) | h) | h <;> exact beB_bd _ _ x h
theorem encD_bd (ask : Bool) (l : List En) : ∀ x ∈ encD ask l, 0 ≤ x ∧ x < 256 := by
  intro x hx
  unfold encD at hx
  simp only [List.mem_cons, List.mem_flatMap] at hx
  rcases hx with rfl | rfl | rfl | rfl | ⟨e, _, h⟩
  · cases ask <;> decide
  · decide
  · decide
  · decide
  · exact entB_bd e x h
theorem flat_entB_len : ∀ l : List En, (l.flatMap entB).length = 20 * l.length
  | [] => rfl
  | e :: l => by rw [List.flatMap_cons, List.length_append, entB_len, flat_entB_len l, List.length_cons]; omega
theorem encD_len (ask : Bool) (l : List En) : (encD ask l).length = 4 + 20 * l.length := by
  unfold encD
  simp only [List.length_cons, flat_entB_len]
  omega
theorem numB4 (n : Int) (h : 0 ≤ n ∧ n < 4294967296) : numB (beB n 4) = n := by
  simp only [beB, numB, List.foldl_cons, List.foldl_nil, Nat.reduceMul, Nat.mul_zero, Nat.mul_one, Int.reducePow, Int.pow_zero]
  omega
theorem numB2 (n : Int) (h : 0 ≤ n ∧ n < 65536) : numB (beB n 2) = n := by
  simp only [beB, numB, List.foldl_cons, List.foldl_nil, Nat.reduceMul, Nat.mul_zero, Nat.mul_one, Int.reducePow, Int.pow_zero]
  omega
theorem maskV_bd (k : Nat) : 0 ≤ maskV k ∧ maskV k < 4294967296 := by unfold maskV; omega
theorem mlenO_mask : ∀ k, k < 33 → mlenO (maskV k) = some k := by decide +kernel
theorem mlenO_some {m : Int} {k : Nat} (h : mlenO m = some k) : k ≤ 32 ∧ maskV k = m := by
  have h1 := List.find?_some h
  have h2 := List.mem_of_find?_eq_some h
  exact ⟨by have := List.mem_range.1 h2; omega, of_decide_eq_true h1⟩
theorem mlenO_none {m : Int} (h : mlenO m = none) : ∀ k, k ≤ 32 → maskV k ≠ m := by
  intro k hk e
  have := List.find?_eq_none.1 h k (List.mem_range.2 (by omega))
  exact this (decide_eq_true e)
theorem netErr_ok {a n : Int} (h : netErr a n = none) : 0 ≤ n ∧ n ≤ 32 := by
  unfold netErr at h
  split at h
  · cases h
  · omega
theorem entErr_ok {e : En} (h : entErr e = none) : netErr e.a e.n = none ∧ 0 ≤ e.t ∧ e.t ≤ 65535 ∧ 1 ≤ e.m ∧ e.m ≤ 16 := by
  unfold entErr at h
  split at h
  · cases h
  · rename_i hn
    split at h
    · cases h
    · exact ⟨hn, by omega, by omega, by omega, by omega⟩
theorem take_cut {α : Type} (a b : List α) (k : Nat) (h : a.length = k) : (a ++ b).take k = a := by subst h; simp
theorem drop_cut {α : Type} (a b : List α) (k : Nat) (h : a.length = k) : (a ++ b).drop k = b := by subst h; simp
theorem entD_entB {e : En} (hw : En.wf e) (h : entErr e = none) : entD (entB e) = some e := by
  obtain ⟨h1, h2, h3, h4, h5⟩ := entErr_ok h
  obtain ⟨n1, n2⟩ := netErr_ok h1
  obtain ⟨a, n, t, p, m⟩ := e
  simp only at h1 h2 h3 h4 h5 n1 n2
  obtain ⟨k, rfl⟩ := Int.eq_ofNat_of_zero_le n1
  have q1 : (entB ⟨a, (k : Int), t, p, m⟩).take 2 = beB 2 2 := by
    unfold entB; simp only [List.append_assoc]; exact take_cut _ _ 2 (beB_len _ _)
  have d2 : (entB ⟨a, (k : Int), t, p, m⟩).drop 2 = beB t 2 ++ (beB a 4 ++ (beB (maskV k) 4 ++ (beB p 4 ++ beB m 4))) := by
    unfold entB; simp only [List.append_assoc, Int.toNat_natCast]; exact drop_cut _ _ 2 (beB_len _ _)
  have d4 : (entB ⟨a, (k : Int), t, p, m⟩).drop 4 = beB a 4 ++ (beB (maskV k) 4 ++ (beB p 4 ++ beB m 4)) := by
    rw [show (4 : Nat) = 2 + 2 from rfl, ← List.drop_drop, d2]; exact drop_cut _ _ 2 (beB_len _ _)
  have d8 : (entB ⟨a, (k : Int), t, p, m⟩).drop 8 = beB (maskV k) 4 ++ (beB p 4 ++ beB m 4) := by
    rw [show (8 : Nat) = 4 + 4 from rfl, ← List.drop_drop, d4]; exact drop_cut _ _ 4 (beB_len _ _)
  have d12 : (entB ⟨a, (k : Int), t, p, m⟩).drop 12 = beB p 4 ++ beB m 4 := by
    rw [show (12 : Nat) = 8 + 4 from rfl, ← List.drop_drop, d8]; exact drop_cut _ _ 4 (beB_len _ _)
  have d16 : (entB ⟨a, (k : Int), t, p, m⟩).drop 16 = beB m 4 := by
    rw [show (16 : Nat) = 12 + 4 from rfl, ← List.drop_drop, d12]; exact drop_cut _ _ 4 (beB_len _ _)
  unfold entD
  rw [q1, d2, d4, d8, d12, d16, take_cut _ _ 2 (beB_len _ _), take_cut _ _ 4 (beB_len _ _), take_cut _ _ 4 (beB_len _ _), take_cut _ _ 4 (beB_len _ _),
    List.take_of_length_le (by rw [beB_len]; omega), numB2 2 (by omega), numB2 t (by omega), numB4 a hw.1, numB4 (maskV k) (maskV_bd k), numB4 p hw.2, numB4 m (by omega), mlenO_mask k (by omega)]
  simp only
  rw [if_pos ⟨trivial, h⟩]
theorem baseF_len (p : List Int) : (baseF p).length = 20 := by unfold baseF; split <;> rfl
theorem filledD_len (p : List Int) (h : p.length ≤ 20) : (filledD p).length = 20 := by
  unfold filledD; rw [List.length_append, List.length_drop, baseF_len]; omega
theorem filledD_whole (p : List Int) (h : p.length = 20) : filledD p = p := by
  unfold filledD; rw [List.drop_of_length_le (by rw [baseF_len]; omega), List.append_nil]
theorem entsErr_ok {l : List En} (h : entsErr l = none) : ∀ e ∈ l, entErr e = none := by
  induction l with
  | nil => exact fun _ h => nomatch h
  | cons x l ih =>
    unfold entsErr at h
    split at h
    · cases h
    · intro e he
      rcases List.mem_cons.1 he with rfl | he
      · assumption
      · exact ih h e he
theorem msgErr_ok {l : List En} (h : msgErr l = none) : l.length ≤ 25 ∧ ∀ e ∈ l, entErr e = none := by
  unfold msgErr at h
  split at h
  · cases h
  · exact ⟨by omega, entsErr_ok h⟩
theorem partsD_enc : ∀ (l : List En) (k : Nat) (acc : List En), (∀ e ∈ l, En.wf e ∧ entErr e = none) → l.length ≤ k → acc.length + l.length ≤ 25 → partsD k (l.flatMap entB) acc = some (acc ++ l)
  | [], k, acc, _, _, _ => by
    cases k with
    | zero => simp [partsD]
    | succ k => simp [partsD]
  | e :: l, k, acc, h, hk, ha => by
    obtain ⟨j, rfl⟩ : ∃ j, k = j + 1 := ⟨k - 1, by simp only [List.length_cons] at hk; omega⟩
    obtain ⟨h1, h2⟩ := h e (by simp)
    have hne : ¬ entB e ++ l.flatMap entB = [] := fun hh => by
      have := congrArg List.length hh
      rw [List.length_append, entB_len] at this
      simp only [List.length_nil] at this; omega
    simp only [List.length_cons] at hk ha
    rw [List.flatMap_cons, partsD, if_neg hne, take_cut _ _ 20 (entB_len e), drop_cut _ _ 20 (entB_len e), filledD_whole _ (entB_len e), entD_entB h1 h2]
    simp only
    rw [if_neg (by omega), partsD_enc l j (acc ++ [e]) (fun x hx => h x (by simp [hx])) (by omega) (by simp only [List.length_append, List.length_singleton]; omega)]
    simp
/-- What was encoded is decoded. -/
theorem decD_encD (ask : Bool) (l : List En) (hw : ∀ e ∈ l, En.wf e) (h : msgErr l = none) : decD (encD ask l) = .ok (ask, l) := by
  obtain ⟨h1, h2⟩ := msgErr_ok h
  have hl := encD_len ask l
  have hh : headD (encD ask l) = encD ask l := by unfold headD; rw [if_neg (by omega)]
  have hd : (encD ask l).drop 4 = l.flatMap entB := rfl
  have hb : ¬ headBad (encD ask l) := by
    unfold headBad encD nth
    cases ask <;> simp
  have hs : ¬ shortD (encD ask l) := by unfold shortD; rw [hl]; omega
  have h0 : decide (nth (encD ask l) 0 = 1) = ask := by unfold encD nth; cases ask <;> simp
  unfold decD
  rw [hh, if_neg hb, hd, partsD_enc l _ [] (fun e he => ⟨hw e he, h2 e he⟩) (by omega) (by simpa using h1)]
  simp only
  rw [if_neg hs, h0]
  rfl
end Go.Proofs.YtbmeeglehbaggaaDoor
