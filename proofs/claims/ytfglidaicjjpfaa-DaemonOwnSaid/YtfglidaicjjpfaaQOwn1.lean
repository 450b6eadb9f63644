import Derived.Test.YtfglidaicjjpfaaErr
import Derived.Test.YtfglidaicjjpfaaRecs
import Derived.Test.YtfglidaicjjpfaaNetW
import Derived.Shelf.Small.Bits
import Derived.Test.YtfglidaicjjpfaaAnyW
import Derived.Deep.CutBlock
import Derived.Deep.CutRange
import Derived.Deep.DeepCutAuto
import Derived.Test.YtfglidaicjjpfaaMix
section
namespace Go.Proofs.Ytfglidaicjjpfaa
open Go.RowKit
/-- An entry: a net, a tag, a hop, how far. -/
structure En where
  (a n t p m : Int)
deriving Inhabited, DecidableEq
abbrev En.cells (x : En) : List Value := [.int .u32 x.a, .int .i64 x.n, .int .i64 x.t, .int .u32 x.p, .int .i64 x.m]
theorem En.cells_len (x : En) : (En.cells x).length = 5 := rfl
theorem infoEn : (Try.prog.info? 45).map (fun i => (i.zero, i.size, i.bytes)) = some (some (.agg #[.int .u32 0, .int .i64 0, .int .i64 0, .int .u32 0, .int .i64 0]), 5, 40) := by kernel_rfl
theorem en_one (x : En) : ∀ u ∈ En.cells x, u.oneCell' = true := by simp [Value.oneCell']
end Go.Proofs.Ytfglidaicjjpfaa
end

section
namespace Go.Proofs.Ytfglidaicjjpfaa
open Go.RowKit
/-! ### Messages as bytes: the plain model -/
def entErr (e : En) : Option Int := match netErr e.a e.n with
  | some k => some k
  | none => if e.t < 0 ∨ 65535 < e.t ∨ e.m < 1 ∨ 16 < e.m then some 1 else none
def entsErr : List En → Option Int
  | [] => none
  | e :: l => match entErr e with
    | some k => some k
    | none => entsErr l
/-- What is wrong with a message. -/
def msgErr (l : List En) : Option Int := if 25 < l.length then some 4 else entsErr l
/-- A number in so many bytes. -/
def beB (n : Int) : Nat → List Int
  | 0 => []
  | k + 1 => n / 2 ^ (8 * k) % 256 :: beB n k
def entB (e : En) : List Int := beB 2 2 ++ beB e.t 2 ++ beB e.a 4 ++ beB (maskV e.n.toNat) 4 ++ beB e.p 4 ++ beB e.m 4
/-- The bytes of a message. -/
def encD (ask : Bool) (l : List En) : List Int := (if ask then 1 else 2) :: 2 :: 0 :: 0 :: l.flatMap entB
def numB (l : List Int) : Int := l.foldl (fun n c => n * 256 % 4294967296 + c) 0
def mlenO (m : Int) : Option Nat := (List.range 33).find? fun k => decide (maskV k = m)
/-- The entry of twenty bytes. -/
def entD (b : List Int) : Option En := match mlenO (numB ((b.drop 8).take 4)) with
  | none => none
  | some k => if numB (b.take 2) = 2 ∧ entErr ⟨numB ((b.drop 4).take 4), k, numB ((b.drop 2).take 2), numB ((b.drop 12).take 4), numB ((b.drop 16).take 4)⟩ = none then
      some ⟨numB ((b.drop 4).take 4), k, numB ((b.drop 2).take 2), numB ((b.drop 12).take 4), numB ((b.drop 16).take 4)⟩ else none
def baseF (p : List Int) : List Int := if 8 < p.length ∧ p.length < 12 ∧ nth p (p.length - 1) ≠ 255 then [0, 2, 0, 0, 0, 0, 0, 0, 0, 0, 0, 0, 0, 0, 0, 0, 0, 0, 0, 1] else [0, 2, 0, 0, 0, 0, 0, 0, 255, 255, 255, 255, 0, 0, 0, 0, 0, 0, 0, 1]
def filledD (p : List Int) : List Int := p ++ (baseF p).drop p.length
def headD (b : List Int) : List Int := if b.length < 4 then b ++ [2, 2, 0, 0].drop b.length else b
def headBad (b : List Int) : Prop := (nth b 0 ≠ 1 ∧ nth b 0 ≠ 2) ∨ nth b 1 ≠ 2 ∨ nth b 2 ≠ 0 ∨ nth b 3 ≠ 0
instance (b : List Int) : Decidable (headBad b) := by unfold headBad; infer_instance
/-- The entries of bytes, behind others. -/
def partsD : Nat → List Int → List En → Option (List En)
  | 0, _, acc => some acc
  | k + 1, rest, acc => if rest = [] then some acc else match entD (filledD (rest.take 20)) with
    | none => none
    | some e => if acc.length = 25 then none else partsD k (rest.drop 20) (acc ++ [e])
def shortD (b : List Int) : Prop := b.length < 4 ∨ (b.length - 4) % 20 ≠ 0
instance (b : List Int) : Decidable (shortD b) := by unfold shortD; infer_instance
/-- The message of bytes. -/
def decD (b : List Int) : Except Int (Bool × List En) := if headBad (headD b) then .error 3 else match partsD b.length ((headD b).drop 4) [] with
  | none => .error 3
  | some l => if shortD b then .error 6 else .ok (decide (nth (headD b) 0 = 1), l)

/-- Numbers that may stand in an entry. -/
def En.wf (e : En) : Prop := (0 ≤ e.a ∧ e.a < 4294967296) ∧ (0 ≤ e.p ∧ e.p < 4294967296)
theorem beB_len (n : Int) : ∀ k, (beB n k).length = k
  | 0 => rfl
  | k + 1 => by rw [beB, List.length_cons, beB_len n k]
theorem beB_bd (n : Int) : ∀ k, ∀ x ∈ beB n k, 0 ≤ x ∧ x < 256
  | 0 => fun x hx => nomatch hx
  | k + 1 => fun x hx => by
    rcases List.mem_cons.1 hx with rfl | hx
    · omega
    · exact beB_bd n k x hx
theorem entB_len (e : En) : (entB e).length = 20 := by simp [entB, beB_len]
theorem entB_bd (e : En) : ∀ x ∈ entB e, 0 ≤ x ∧ x < 256 := by
  intro x hx
  unfold entB at hx
  simp only [List.mem_append] at hx
  rcases hx with ((((h | h) | h) | h) | h) | h <;> exact beB_bd _ _ x h
theorem encD_bd (ask : Bool) (l : List En) : ∀ x ∈ encD ask l, 0 ≤ x ∧ x < 256 := by
  intro x hx
  unfold encD at hx
  simp only [List.mem_cons, List.mem_flatMap] at hx
  rcases hx with rfl | rfl | rfl | rfl | ⟨e, _, h⟩
  · cases ask <;> decide
  · decide
  · decide
  · decide
  · exact entB_bd e x h
theorem flat_entB_len : ∀ l : List En, (l.flatMap entB).length = 20 * l.length
  | [] => rfl
  | e :: l => by rw [List.flatMap_cons, List.length_append, entB_len, flat_entB_len l, List.length_cons]; omega
theorem encD_len (ask : Bool) (l : List En) : (encD ask l).length = 4 + 20 * l.length := by
  unfold encD
  simp only [List.length_cons, flat_entB_len]
  omega
theorem numB4 (n : Int) (h : 0 ≤ n ∧ n < 4294967296) : numB (beB n 4) = n := by
  simp only [beB, numB, List.foldl_cons, List.foldl_nil, Nat.reduceMul, Nat.mul_zero, Nat.mul_one, Int.reducePow, Int.pow_zero]
  omega
theorem numB2 (n : Int) (h : 0 ≤ n ∧ n < 65536) : numB (beB n 2) = n := by
  simp only [beB, numB, List.foldl_cons, List.foldl_nil, Nat.reduceMul, Nat.mul_zero, Nat.mul_one, Int.reducePow, Int.pow_zero]
  omega
theorem maskV_bd (k : Nat) : 0 ≤ maskV k ∧ maskV k < 4294967296 := by unfold maskV; omega
theorem mlenO_mask : ∀ k, k < 33 → mlenO (maskV k) = some k := by decide +kernel
theorem mlenO_some {m : Int} {k : Nat} (h : mlenO m = some k) : k ≤ 32 ∧ maskV k = m := by
  have h1 := List.find?_some h
  have h2 := List.mem_of_find?_eq_some h
  exact ⟨by have := List.mem_range.1 h2; omega, of_decide_eq_true h1⟩
theorem mlenO_none {m : Int} (h : mlenO m = none) : ∀ k, k ≤ 32 → maskV k ≠ m := by
  intro k hk e
  have := List.find?_eq_none.1 h k (List.mem_range.2 (by omega))
  exact this (decide_eq_true e)
theorem netErr_rng {a n : Int} (h : netErr a n = none) : 0 ≤ n ∧ n ≤ 32 := by
  unfold netErr at h
  split at h
  · cases h
  · omega
theorem entErr_ok {e : En} (h : entErr e = none) : netErr e.a e.n = none ∧ 0 ≤ e.t ∧ e.t ≤ 65535 ∧ 1 ≤ e.m ∧ e.m ≤ 16 := by
  unfold entErr at h
  split at h
  · cases h
  · rename_i hn
    split at h
    · cases h
    · exact ⟨hn, by omega, by omega, by omega, by omega⟩
theorem take_cut {α : Type} (a b : List α) (k : Nat) (h : a.length = k) : (a ++ b).take k = a := by subst h; simp
theorem drop_cut {α : Type} (a b : List α) (k : Nat) (h : a.length = k) : (a ++ b).drop k = b := by subst h; simp
theorem entD_entB {e : En} (hw : En.wf e) (h : entErr e = none) : entD (entB e) = some e := by
  obtain ⟨h1, h2, h3, h4, h5⟩ := entErr_ok h
  obtain ⟨n1, n2⟩ := netErr_rng h1
  obtain ⟨a, n, t, p, m⟩ := e
  simp only at h1 h2 h3 h4 h5 n1 n2
  obtain ⟨k, rfl⟩ := Int.eq_ofNat_of_zero_le n1
  have q1 : (entB ⟨a, (k : Int), t, p, m⟩).take 2 = beB 2 2 := by
    unfold entB; simp only [List.append_assoc]; exact take_cut _ _ 2 (beB_len _ _)
  have d2 : (entB ⟨a, (k : Int), t, p, m⟩).drop 2 = beB t 2 ++ (beB a 4 ++ (beB (maskV k) 4 ++ (beB p 4 ++ beB m 4))) := by
    unfold entB; simp only [List.append_assoc, Int.toNat_natCast]; exact drop_cut _ _ 2 (beB_len _ _)
  have d4 : (entB ⟨a, (k : Int), t, p, m⟩).drop 4 = beB a 4 ++ (beB (maskV k) 4 ++ (beB p 4 ++ beB m 4)) := by
    rw [show (4 : Nat) = 2 + 2 from rfl, ← List.drop_drop, d2]; exact drop_cut _ _ 2 (beB_len _ _)
  have d8 : (entB ⟨a, (k : Int), t, p, m⟩).drop 8 = beB (maskV k) 4 ++ (beB p 4 ++ beB m 4) := by
    rw [show (8 : Nat) = 4 + 4 from rfl, ← List.drop_drop, d4]; exact drop_cut _ _ 4 (beB_len _ _)
  have d12 : (entB ⟨a, (k : Int), t, p, m⟩).drop 12 = beB p 4 ++ beB m 4 := by
    rw [show (12 : Nat) = 8 + 4 from rfl, ← List.drop_drop, d8]; exact drop_cut _ _ 4 (beB_len _ _)
  have d16 : (entB ⟨a, (k : Int), t, p, m⟩).drop 16 = beB m 4 := by
    rw [show (16 : Nat) = 12 + 4 from rfl, ← List.drop_drop, d12]; exact drop_cut _ _ 4 (beB_len _ _)
  unfold entD
  rw [q1, d2, d4, d8, d12, d16, take_cut _ _ 2 (beB_len _ _), take_cut _ _ 4 (beB_len _ _), take_cut _ _ 4 (beB_len _ _), take_cut _ _ 4 (beB_len _ _),
    List.take_of_length_le (by rw [beB_len]; omega), numB2 2 (by omega), numB2 t (by omega), numB4 a hw.1, numB4 (maskV k) (maskV_bd k), numB4 p hw.2, numB4 m (by omega), mlenO_mask k (by omega)]
  simp only
  rw [if_pos ⟨trivial, h⟩]
theorem baseF_len (p : List Int) : (baseF p).length = 20 := by unfold baseF; split <;> rfl
theorem filledD_len (p : List Int) (h : p.length ≤ 20) : (filledD p).length = 20 := by
  unfold filledD; rw [List.length_append, List.length_drop, baseF_len]; omega
theorem filledD_whole (p : List Int) (h : p.length = 20) : filledD p = p := by
  unfold filledD; rw [List.drop_of_length_le (by rw [baseF_len]; omega), List.append_nil]
theorem entsErr_ok {l : List En} (h : entsErr l = none) : ∀ e ∈ l, entErr e = none := by
  induction l with
  | nil => exact fun _ h => nomatch h
  | cons x l ih =>
    unfold entsErr at h
    split at h
    · cases h
    · intro e he
      rcases List.mem_cons.1 he with rfl | he
      · assumption
      · exact ih h e he
theorem msgErr_ok {l : List En} (h : msgErr l = none) : l.length ≤ 25 ∧ ∀ e ∈ l, entErr e = none := by
  unfold msgErr at h
  split at h
  · cases h
  · exact ⟨by omega, entsErr_ok h⟩
theorem partsD_enc : ∀ (l : List En) (k : Nat) (acc : List En), (∀ e ∈ l, En.wf e ∧ entErr e = none) → l.length ≤ k → acc.length + l.length ≤ 25 → partsD k (l.flatMap entB) acc = some (acc ++ l)
  | [], k, acc, _, _, _ => by
    cases k with
    | zero => simp [partsD]
    | succ k => simp [partsD]
  | e :: l, k, acc, h, hk, ha => by
    obtain ⟨j, rfl⟩ : ∃ j, k = j + 1 := ⟨k - 1, by simp only [List.length_cons] at hk; omega⟩
    obtain ⟨h1, h2⟩ := h e (by simp)
    have hne : ¬ entB e ++ l.flatMap entB = [] := fun hh => by
      have := congrArg List.length hh
      rw [List.length_append, entB_len] at this
      simp only [List.length_nil] at this; omega
    simp only [List.length_cons] at hk ha
    rw [List.flatMap_cons, partsD, if_neg hne, take_cut _ _ 20 (entB_len e), drop_cut _ _ 20 (entB_len e), filledD_whole _ (entB_len e), entD_entB h1 h2]
    simp only
    rw [if_neg (by omega), partsD_enc l j (acc ++ [e]) (fun x hx => h x (by simp [hx])) (by omega) (by simp only [List.length_append, List.length_singleton]; omega)]
    simp
/-- What was encoded is decoded. -/
theorem decD_encD (ask : Bool) (l : List En) (hw : ∀ e ∈ l, En.wf e) (h : msgErr l = none) : decD (encD ask l) = .ok (ask, l) := by
  obtain ⟨h1, h2⟩ := msgErr_ok h
  have hl := encD_len ask l
  have hh : headD (encD ask l) = encD ask l := by unfold headD; rw [if_neg (by omega)]
  have hd : (encD ask l).drop 4 = l.flatMap entB := rfl
  have hb : ¬ headBad (encD ask l) := by
    unfold headBad encD nth
    cases ask <;> simp
  have hs : ¬ shortD (encD ask l) := by unfold shortD; rw [hl]; omega
  have h0 : decide (nth (encD ask l) 0 = 1) = ask := by unfold encD nth; cases ask <;> simp
  unfold decD
  rw [hh, if_neg hb, hd, partsD_enc l _ [] (fun e he => ⟨hw e he, h2 e he⟩) (by omega) (by simpa using h1)]
  simp only
  rw [if_neg hs, h0]
  rfl
end Go.Proofs.Ytfglidaicjjpfaa
end

section
namespace Go.Proofs
open Go.Shelf
def Try.bitsLz_ren : Go.Shelf.Ren := ⟨fun | 133 => 75 | 128 => 85 | n => n, fun | 51 => 41 | 3 => 3 | 4 => 4 | 46 => 135 | 5 => 5 | 9 => 9 | n => n, fun | n => n⟩
theorem Try.bitsLz : Go.Proofs.Lays.n133 Try.prog Try.bitsLz_ren := {
  mixed := by kernel_rfl
  f128 := Try.func85.trans (congrArg some (by kernel_rfl))
  f133 := Try.func75.trans (congrArg some (by kernel_rfl))
  t3 := Try.underlying3
  a3 := Try.isAgg3
  z3 := Try.sizeOf3
  v3 := Try.zeroValue3
  t4 := Try.underlying4
  a4 := Try.isAgg4
  z4 := Try.sizeOf4
  v4 := Try.zeroValue4
  t5 := Try.underlying5
  a5 := Try.isAgg5
  z5 := Try.sizeOf5
  v5 := Try.zeroValue5
  t9 := Try.underlying9
  a9 := Try.isAgg9
  z9 := Try.sizeOf9
  v9 := Try.zeroValue9
  t46 := Try.underlying135
  a46 := Try.isAgg135
  z46 := Try.sizeOf135
  v46 := Try.zeroValue135
  t51 := Try.underlying41
  a51 := Try.isAgg41
  z51 := Try.sizeOf41
  v51 := Try.zeroValue41
  }

end Go.Proofs
namespace Go.Proofs.Ytfglidaicjjpfaa
open Go.RowKit
theorem lz32_any (x : Int) (w : World) (h0 : 0 ≤ x) (h1 : x ≤ 4294967295) :
    Calls Try.prog 75 #[.int .u32 x] w fun e w' => e = .returned (.int .i64 (32 - (Lib.bitLen x.toNat : Int))) ∧ w' = w := Any.bits_LeadingZeros32 Try.bitsLz x w h0 h1
end Go.Proofs.Ytfglidaicjjpfaa
end

section
namespace Go.Proofs.Ytfglidaicjjpfaa
open Go.RowKit
theorem infoU8 : (Try.prog.info? 5).map (fun i => (i.zero, i.size, i.bytes)) = some (some (.int .u8 0), 1, 1) := by kernel_rfl
/-! ### masks -/
theorem xor_full {m : Int} (h : 0 ≤ m ∧ m < 4294967296) : bits .xor .u32 IntKind.u32.max m = 4294967295 - m := by
  have e : IntKind.u32.max = 4294967295 := by decide
  rw [e, u32_xor 4294967295 m (by decide) (by decide) h.1 h.2]
  obtain ⟨M, rfl⟩ := Int.eq_ofNat_of_zero_le h.1
  have hM : M < 2 ^ 32 := by omega
  have h1 : (4294967295 : Nat) ^^^ M = 4294967295 - M := by
    have h2 := congrArg BitVec.toNat (BitVec.allOnes_xor (x := BitVec.ofNat 32 M))
    rw [BitVec.toNat_xor, BitVec.toNat_allOnes, BitVec.toNat_not, BitVec.toNat_ofNat, Nat.mod_eq_of_lt hM] at h2
    exact h2
  rw [show (4294967295 : Int).toNat = 4294967295 from rfl, Int.toNat_natCast, h1]
  omega
theorem mlen_lz : ∀ k, k < 33 → 32 - (Lib.bitLen (4294967295 - maskV k).toNat : Int) = k := by decide +kernel
/-- How long a mask is. -/
def RetMlen (w : World) (r : Option Nat) (e : Ending) (w' : World) : Prop := (match r with
  | some k => e = .returned (.tuple #[.int .i64 k, .nilIface])
  | none => e = .returned (.tuple #[.int .i64 0, errv 3])) ∧ w' = w
theorem RetMlen.some' {w : World} {r : Option Nat} {e : Ending} {w' : World} {k : Nat} (hr : r = some k) (h : e = .returned (.tuple #[.int .i64 k, .nilIface])) (hw : w' = w) : RetMlen w r e w' := by subst hr; exact ⟨h, hw⟩
theorem RetMlen.none' {w : World} {r : Option Nat} {e : Ending} {w' : World} (hr : r = none) (h : e = .returned (.tuple #[.int .i64 0, errv 3])) (hw : w' = w) : RetMlen w r e w' := by subst hr; exact ⟨h, hw⟩
set_option maxRecDepth 100000 in
set_option maxHeartbeats 1000000 in
theorem masklen_any (m : Int) (w : World) (hm : 0 ≤ m ∧ m < 4294967296) : Calls Try.prog 66 #[.int .u32 m] w (RetMlen w (mlenO m)) := by
  obtain ⟨R, hR⟩ : ∃ R, R = mlenO m := ⟨_, rfl⟩
  rw [← hR]
  have HR := Lib.hid hR
  have hl := Any.bitLen_le32 (4294967295 - m) (by omega) (by omega)
  obtain ⟨k, hk⟩ : ∃ k : Nat, 32 - (Lib.bitLen (4294967295 - m).toNat : Int) = k := ⟨32 - Lib.bitLen (4294967295 - m).toNat, by omega⟩
  have hk32 : k ≤ 32 := by omega
  have HK := Lib.hid hk
  have hx := xor_full hm
  clear hR hl hk
  go_enter Try.func66, Try.ntmps66
  go_wp2_with (fail)
  refine (lz32_any (4294967295 - m) _ (by omega) (by omega)).mono ?_
  rintro e1 w1 ⟨rfl, rfl⟩
  rw [HK.out]
  clear hx
  go_wp2_with (fail)
  refine (mask_ok k w1 hk32).mono ?_
  rintro e2 w2 ⟨rfl, rfl⟩
  by_cases hmk : maskV k = m
  · have HM := Lib.hid (show R = some k by rw [HR.out, ← hmk]; exact mlenO_mask k (by omega))
    have e1 : (maskV k != m) = false := by simp [hmk]
    clear hmk
    go_wp2
    go_ret2
    exact RetMlen.some' HM.out rfl rfl
  · have HM := Lib.hid (show R = none by
      rw [HR.out]
      cases ho : mlenO m with
      | none => rfl
      | some j =>
        obtain ⟨h1, h2⟩ := mlenO_some ho
        have h3 := mlen_lz j (by omega)
        rw [h2, HK.out] at h3
        have : k = j := by omega
        subst this
        exact absurd h2 hmk)
    have e1 : (maskV k != m) = true := by simp [hmk]
    clear hmk
    go_wp2
    go_ret2
    exact RetMlen.none' HM.out rfl rfl

/-! ### what is wrong with a message -/
theorem errO_eq (r : Option Int) : errO r = match r with | none => .nilIface | some k => errv k := by cases r <;> rfl
set_option maxRecDepth 100000 in
set_option maxHeartbeats 4000000 in
theorem wcheck_any {M : Nat} (ask : Bool) (l : List En) (al : Option Addr) (cl : Nat) (w : World) (hL : Recs w.heap al 5 En.cells l) (hw : ∀ e ∈ l, En.wf e) (hll : l.length ≤ 9223372036854775806) (hM : M = l.length) :
    Calls Try.prog 32 #[.agg #[.bool ask, .slice al M cl]] w (RetV w (errO (msgErr l))) := by
  subst hM
  obtain ⟨R, hR⟩ : ∃ R, R = msgErr l := ⟨_, rfl⟩
  rw [← hR]
  have HR := Lib.hid hR
  have HL := Lib.hid hL
  have HW := Lib.hid hw
  clear hR hL hw
  have hB := Blk.made w 39 [.bool ask, .slice al l.length cl]
  have b1 := hB.cell 1
  have bl := hB.lt
  have hF0 := (Fr.refl (fun _ => False) w).alloc (.cells #[.bool ask, .slice al l.length cl] 39)
  simp only [List.getElem?_cons_succ, List.getElem?_cons_zero] at b1
  clear hB
  go_enter Try.func32, Try.ntmps32
  by_cases h25 : 25 < l.length
  · have HX := Lib.hid (show R = some 4 by rw [HR.out]; unfold msgErr; rw [if_pos h25])
    go_wp2
    go_ret
    exact RetV.mk (show errv 4 = _ by rw [HX.out]; rfl) rfl hF0
  · have HX := Lib.hid (show R = entsErr l by rw [HR.out]; unfold msgErr; rw [if_neg h25])
    go_wp2
    go_loopw [14] (fun s14 wr => ∃ k : Nat, k ≤ l.length ∧ s14 = .int .i64 k ∧ Fr (fun _ => False) w wr ∧ Hid (R = entsErr (l.drop k))) (fun s _ => l.length - (intOf s).toNat)
    case atStart => exact ⟨0, by omega, rfl, hF0, Lib.hid HX.out⟩
    case round =>
      clear hF0 b1 bl
      obtain ⟨k, hk, rfl, hF, hE⟩ := hrel
      by_cases hkl : k < l.length
      · obtain ⟨g, o, rfl, hgl, hc⟩ := Recs.pos HL.out En.cells_len (by omega) (by omega)
        have dd := fun (j : Nat) (hj : j < 5) => (hF.cell (p := ⟨g, o + (k * 5 + j), none⟩) hgl (fun h => h)).trans (hc w rfl k j hkl hj)
        have d0 := dd 0 (by omega)
        have d1 := dd 1 (by omega)
        have d2 := dd 2 (by omega)
        have d3 := dd 3 (by omega)
        have d4 := dd 4 (by omega)
        have hx := HW.out _ (nth_mem l k hkl)
        have hD := drop_nth l k hkl
        generalize nth l k = x at *
        have hE1 : R = match entErr x with
          | some q => some q
          | none => entsErr (l.drop (k + 1)) := by rw [hE.out, hD]; rfl
        obtain ⟨xa, xn, xt, xp, xm⟩ := x
        simp only [En.cells, List.getElem?_cons_zero, List.getElem?_cons_succ, ← Nat.add_assoc, Nat.add_zero] at d0 d1 d2 d3 d4
        have HE1 := Lib.hid hE1
        have hFx := hF.alloc (.cells #[.int .u32 xa, .int .i64 xn, .int .i64 xt, .int .u32 xp, .int .i64 xm] 45)
        have hBx := Blk.made wr 45 [.int .u32 xa, .int .i64 xn, .int .i64 xt, .int .u32 xp, .int .i64 xm]
        have c0 := hBx.cell 0
        have c1 := hBx.cell 1
        have cl0 := hBx.lt
        simp only [List.getElem?_cons_succ, List.getElem?_cons_zero] at c0 c1
        have hgl' := Nat.lt_of_lt_of_le hgl hF.size
        clear dd hc hD hE1 hF
        go_wp2_with (fail)
        refine (pcheck_any xa xn _ hx.1).mono ?_
        rintro e1 w1 ⟨rfl, hF1⟩
        have hF01 := hFx.trans hF1
        have hB1 := hBx.fr hF1 (fun h => h)
        have c2 := hB1.cell 2
        have c4 := hB1.cell 4
        have cl1 := hB1.lt
        simp only [List.getElem?_cons_succ, List.getElem?_cons_zero] at c2 c4
        clear hFx hBx hF1 hB1 c0 c1 cl0 d0 d1 d2 d3 d4
        cases hne : netErr xa xn with
        | some q =>
          have HX2 := Lib.hid (show R = some q by rw [HE1.out]; unfold entErr; simp only [hne])
          rw [show errO (some q) = errv q from rfl]
          clear hne
          go_wp2
          go_ret
          exact RetV.mk (show errv q = _ by rw [HX2.out]; rfl) rfl hF01
        | none =>
          have HNE := Lib.hid hne
          rw [show errO none = .nilIface from rfl]
          clear hne
          by_cases hb : xt < 0 ∨ 65535 < xt ∨ xm < 1 ∨ 16 < xm
          · have HX2 := Lib.hid (show R = some 1 by rw [HE1.out]; unfold entErr; simp only [HNE.out]; rw [if_pos hb])
            have hb2 : xt < 0 ∨ (0 ≤ xt ∧ 65535 < xt) ∨ (0 ≤ xt ∧ xt ≤ 65535 ∧ xm < 1) ∨ (0 ≤ xt ∧ xt ≤ 65535 ∧ 1 ≤ xm ∧ 16 < xm) := by omega
            clear hb
            rcases hb2 with t1 | ⟨t1, t2⟩ | ⟨t1, t2, t3⟩ | ⟨t1, t2, t3, t4⟩
            all_goals
              go_wp2
              go_ret
              exact RetV.mk (show errv 1 = _ by rw [HX2.out]; rfl) rfl hF01
          · have HX2 := Lib.hid (show R = entsErr (l.drop (k + 1)) by rw [HE1.out]; unfold entErr; simp only [HNE.out]; rw [if_neg hb])
            obtain ⟨t1, t2, t3, t4⟩ : 0 ≤ xt ∧ xt ≤ 65535 ∧ 1 ≤ xm ∧ xm ≤ 16 := by omega
            clear hb
            go_wp2
            go_roundw
            case rel => exact ⟨k + 1, by omega, by go_num, hF01, HX2⟩
            case measure => simp [intOf]; omega
      · obtain rfl : k = l.length := by omega
        have HX2 := Lib.hid (show R = none by rw [hE.out, List.drop_length]; rfl)
        clear hE
        go_wp2
        go_ret
        exact RetV.mk (show Value.nilIface = _ by rw [HX2.out]; rfl) rfl hF

/-! ### numbers -/
theorem or_small {x c : Int} (h0 : 0 ≤ x) (h1 : x < 4294967296) (hx : x % 256 = 0) (c0 : 0 ≤ c) (c1 : c < 256) : bits .or .u32 x c = x + c := by
  rw [u32_or x c h0 h1 c0 (by omega)]
  obtain ⟨X, rfl⟩ := Int.eq_ofNat_of_zero_le h0
  obtain ⟨K, rfl⟩ := Int.eq_ofNat_of_zero_le c0
  have hd : X = (X / 256) <<< 8 := by rw [Nat.shiftLeft_eq]; omega
  have := Nat.shiftLeft_add_eq_or_of_lt (show K < 2 ^ 8 by omega) (X / 256)
  rw [← hd] at this
  simp only [Int.toNat_natCast]
  rw [← this]
  simp
theorem numB_snoc (l : List Int) (x : Int) : numB (l ++ [x]) = numB l * 256 % 4294967296 + x := by unfold numB; rw [List.foldl_append]; rfl
theorem numB_bd {l : List Int} (h : ∀ x ∈ l, 0 ≤ x ∧ x < 256) : 0 ≤ numB l ∧ numB l < 4294967296 := by
  have key : ∀ (l : List Int) (n : Int), (∀ x ∈ l, 0 ≤ x ∧ x < 256) → 0 ≤ n ∧ n < 4294967296 → 0 ≤ l.foldl (fun n c => n * 256 % 4294967296 + c) n ∧ l.foldl (fun n c => n * 256 % 4294967296 + c) n < 4294967296 := by
    intro l
    induction l with
    | nil => intro n _ hn; exact hn
    | cons x l ih =>
      intro n hl hn
      rw [List.foldl_cons]
      have := hl x (by simp)
      exact ih _ (fun y hy => hl y (by simp [hy])) (by omega)
  exact key l 0 h (by decide)
set_option maxRecDepth 100000 in
set_option maxHeartbeats 1000000 in
theorem number_any {M : Nat} (l : List Int) (a : Option Addr) (c : Nat) (w : World) (hL : Rd w.heap a M 1 (ivals .u8 l)) (hb : ∀ x ∈ l, 0 ≤ x ∧ x < 256) (hl : l.length ≤ 9223372036854775806) (hM : M = l.length) :
    Calls Try.prog 67 #[.slice a M c] w (RetQ w (.int .u32 (numB l))) := by
  subst hM
  have HB := Lib.hid hb
  clear hb
  go_enter Try.func67, Try.ntmps67
  go_wp2
  go_loopw [8, 3] (fun s8 s3 wr => ∃ (k : Nat) (n : Int), k ≤ l.length ∧ s8 = .int .i64 k ∧ s3 = .int .u32 n ∧ wr = w ∧ Hid (n = numB (l.take k)) ∧ 0 ≤ n ∧ n < 4294967296) (fun s _ _ => l.length - (intOf s).toNat)
  case atStart => exact ⟨0, 0, by omega, rfl, rfl, rfl, Lib.hid rfl, by omega, by omega⟩
  case round =>
    obtain ⟨k, n, hk, rfl, rfl, rfl, hE, n0, n1⟩ := hrel
    by_cases hkl : k < l.length
    · obtain ⟨g, o, rfl, hgl, hc⟩ := Ints.pos hL (by omega)
      have d0 := hc wr rfl k hkl
      have hx := HB.out _ (nth_mem l k hkl)
      have hT : numB (l.take (k + 1)) = n * 256 % 4294967296 + nth l k := by rw [take_succ_nth l k hkl, numB_snoc, hE.out]
      have hbd := numB_bd (l := l.take (k + 1)) (fun x hx => HB.out x (List.mem_of_mem_take hx))
      rw [hT] at hbd
      generalize nth l k = x at *
      have HT := Lib.hid hT
      have ho := or_small (x := n * 256 % 4294967296) (c := x) (by omega) (by omega) (by omega) hx.1 hx.2
      clear hc hT
      go_wp2
      go_roundw
      case rel => exact ⟨k + 1, n * 256 % 4294967296 + x, by omega, by go_num, (by first | rfl | trivial), (by first | rfl | trivial), Lib.hid HT.out.symm, hbd.1, hbd.2⟩
      case measure => simp [intOf]; omega
    · obtain rfl : k = l.length := by omega
      rw [List.take_length] at hE
      go_wp2
      go_ret
      exact RetQ.mk (x := .int .u32 n) (by rw [hE.out]) rfl 0 rfl
end Go.Proofs.Ytfglidaicjjpfaa
end

section
namespace Go.Proofs.Ytfglidaicjjpfaa
open Go.RowKit
/-- Bytes put behind others. -/
def RetPut (w : World) (xs : List Int) (ys : List Int) (N : Nat) (ob : Option Nat) (e : Ending) (w' : World) : Prop :=
  ∃ a c ob', e = .returned (.slice a N c) ∧ Own w'.heap 5 1 a N c (ivals .u8 (xs ++ ys)) ob' ∧ Fr (fun k => ob = some k) w w' ∧ (ob' = ob ∨ ∃ g, ob' = some g ∧ w.heap.size ≤ g)
theorem ivals_app (k : IntKind) (a b : List Int) : ivals k a ++ ivals k b = ivals k (a ++ b) := by simp [ivals]
theorem ivals_u8_one (k : IntKind) (l : List Int) : ∀ u ∈ ivals k l, u.oneCell' = true := ivals_one k l

set_option maxRecDepth 100000 in
set_option maxHeartbeats 4000000 in
theorem put2_any {M : Nat} {a : Option Addr} {c : Nat} {ob : Option Nat} (xs : List Int) (n : Int) (w : World) (hO : Own w.heap 5 1 a M c (ivals .u8 xs) ob) (hn : 0 ≤ n ∧ n < 4294967296) (hM : M ≤ 1000000) :
    Calls Try.prog 34 #[.slice a M c, .int .u32 n, .int .i64 2] w (RetPut w xs (beB n 2) (M + 2) ob) := by
  go_enter Try.func34, Try.ntmps34
  go_wp2
  go_loopw [7, 0] (fun s7 s0 wr => ∃ (s : Int) (i : Nat) (a' : Option Addr) (c' : Nat) (ob' : Option Nat), s7 = .int .i64 s ∧ ((s = 8 ∧ i = 0) ∨ (s = 0 ∧ i = 1) ∨ (s = -8 ∧ i = 2)) ∧ s0 = .slice a' (M + i) c' ∧ Own wr.heap 5 1 a' (M + i) c' (ivals .u8 (xs ++ (beB n 2).take i)) ob' ∧ Fr (fun k => ob = some k) w wr ∧ (ob' = ob ∨ ∃ g, ob' = some g ∧ w.heap.size ≤ g)) (fun s _ _ => (intOf s + 8).toNat)
  case atStart => exact ⟨8, 0, a, c, ob, rfl, by omega, rfl, by simpa using hO, Fr.refl _ _, .inl rfl⟩
  case round =>
    obtain ⟨s, i, a', c', ob', rfl, hs, rfl, hO1, hF, hob⟩ := hrel
    have hwsz := hF.size
    rcases hs with ⟨rfl, rfl⟩ | ⟨rfl, rfl⟩ | ⟨rfl, rfl⟩
    · have hv : n / 2 ^ (8 * 1) % 256 = n / 256 % 256 := by
        rw [show (2 : Int) ^ (8 * 1) = 256 by decide]
        try omega
      obtain ⟨zs, hzs⟩ : ∃ zs, zs = xs ++ (beB n 2).take 0 := ⟨_, rfl⟩
      obtain ⟨N, hN⟩ : ∃ N, N = M + 0 := ⟨_, rfl⟩
      rw [← hzs, ← hN] at hO1
      rw [← hN]
      have hN1 : N ≤ 1000004 := by omega
      have HE := Lib.hid (show ivals .u8 (xs ++ (beB n 2).take (0 + 1)) = ivals .u8 zs ++ [.int .u8 (n / 256 % 256)] by
        rw [show (beB n 2).take (0 + 1) = (beB n 2).take 0 ++ [n / 2 ^ (8 * 1) % 256] from rfl, hv, hzs]
        simp [ivals])
      have HN := Lib.hid hN
      have hrd := rd_lit wr 5 [.int .u8 (n / 256 % 256)]
      have hOa := hO1.alloc (.cells #[.int .u8 (n / 256 % 256)] 5)
      have hFa := hF.alloc (.cells #[.int .u8 (n / 256 % 256)] 5)
      clear hv hzs hN
      go_wp2_with (at_builtin; refine wpList_app rfl _ _ 34 rfl Try.underlying34 infoU8 rfl (by decide) rfl rfl hOa hrd (by simp [Value.oneCell']) (by omega) (by omega) ?_)
      intro a8 c8 w8 ob8 v1 v2 v3
      have hF8 : Fr (fun k => ob = some k) w w8 := hFa.trans' v2 (fun i hi e => by
        rcases hob with h | ⟨g, h, h2⟩
        · rw [← h]; exact e
        · rw [h] at e; cases e; omega)
      have hsa : (wr.alloc (.cells #[.int .u8 (n / 256 % 256)] 5)).heap.size = wr.heap.size + 1 := by simp
      have hob8 : ob8 = ob ∨ ∃ g, ob8 = some g ∧ w.heap.size ≤ g := by
        rcases v3 with h | ⟨g, h, h2⟩
        · rw [h]; exact hob
        · exact .inr ⟨g, h, by omega⟩
      have v1' : Own w8.heap 5 1 a8 (M + (0 + 1)) c8 (ivals .u8 (xs ++ (beB n 2).take (0 + 1))) ob8 := by
        rw [HE.out, show M + (0 + 1) = N + 1 by have := HN.out; omega]; exact v1
      clear v1 v2 v3 hOa hrd hFa hO1 hF hob
      go_wp2
      go_roundw
      case rel => exact ⟨0, 0 + 1, a8, c8, ob8, by go_num, by omega, by rw [show M + (0 + 1) = N + 1 by have := HN.out; omega], v1', hF8, hob8⟩
      case measure => simp [intOf]
    · have hv : n / 2 ^ (8 * 0) % 256 = n % 256 := by
        rw [show (2 : Int) ^ (8 * 0) = 1 by decide]
        try omega
      obtain ⟨zs, hzs⟩ : ∃ zs, zs = xs ++ (beB n 2).take 1 := ⟨_, rfl⟩
      obtain ⟨N, hN⟩ : ∃ N, N = M + 1 := ⟨_, rfl⟩
      rw [← hzs, ← hN] at hO1
      rw [← hN]
      have hN1 : N ≤ 1000004 := by omega
      have HE := Lib.hid (show ivals .u8 (xs ++ (beB n 2).take (1 + 1)) = ivals .u8 zs ++ [.int .u8 (n % 256)] by
        rw [show (beB n 2).take (1 + 1) = (beB n 2).take 1 ++ [n / 2 ^ (8 * 0) % 256] from rfl, hv, hzs]
        simp [ivals])
      have HN := Lib.hid hN
      have hrd := rd_lit wr 5 [.int .u8 (n % 256)]
      have hOa := hO1.alloc (.cells #[.int .u8 (n % 256)] 5)
      have hFa := hF.alloc (.cells #[.int .u8 (n % 256)] 5)
      clear hv hzs hN
      go_wp2_with (at_builtin; refine wpList_app rfl _ _ 34 rfl Try.underlying34 infoU8 rfl (by decide) rfl rfl hOa hrd (by simp [Value.oneCell']) (by omega) (by omega) ?_)
      intro a8 c8 w8 ob8 v1 v2 v3
      have hF8 : Fr (fun k => ob = some k) w w8 := hFa.trans' v2 (fun i hi e => by
        rcases hob with h | ⟨g, h, h2⟩
        · rw [← h]; exact e
        · rw [h] at e; cases e; omega)
      have hsa : (wr.alloc (.cells #[.int .u8 (n % 256)] 5)).heap.size = wr.heap.size + 1 := by simp
      have hob8 : ob8 = ob ∨ ∃ g, ob8 = some g ∧ w.heap.size ≤ g := by
        rcases v3 with h | ⟨g, h, h2⟩
        · rw [h]; exact hob
        · exact .inr ⟨g, h, by omega⟩
      have v1' : Own w8.heap 5 1 a8 (M + (1 + 1)) c8 (ivals .u8 (xs ++ (beB n 2).take (1 + 1))) ob8 := by
        rw [HE.out, show M + (1 + 1) = N + 1 by have := HN.out; omega]; exact v1
      clear v1 v2 v3 hOa hrd hFa hO1 hF hob
      go_wp2
      go_roundw
      case rel => exact ⟨-8, 1 + 1, a8, c8, ob8, by go_num, by omega, by rw [show M + (1 + 1) = N + 1 by have := HN.out; omega], v1', hF8, hob8⟩
      case measure => simp [intOf]
    · go_wp2
      go_ret
      exact ⟨a', c', ob', rfl, hO1, hF, hob⟩

set_option maxRecDepth 100000 in
set_option maxHeartbeats 4000000 in
theorem put4_any {M : Nat} {a : Option Addr} {c : Nat} {ob : Option Nat} (xs : List Int) (n : Int) (w : World) (hO : Own w.heap 5 1 a M c (ivals .u8 xs) ob) (hn : 0 ≤ n ∧ n < 4294967296) (hM : M ≤ 1000000) :
    Calls Try.prog 34 #[.slice a M c, .int .u32 n, .int .i64 4] w (RetPut w xs (beB n 4) (M + 4) ob) := by
  go_enter Try.func34, Try.ntmps34
  go_wp2
  go_loopw [7, 0] (fun s7 s0 wr => ∃ (s : Int) (i : Nat) (a' : Option Addr) (c' : Nat) (ob' : Option Nat), s7 = .int .i64 s ∧ ((s = 24 ∧ i = 0) ∨ (s = 16 ∧ i = 1) ∨ (s = 8 ∧ i = 2) ∨ (s = 0 ∧ i = 3) ∨ (s = -8 ∧ i = 4)) ∧ s0 = .slice a' (M + i) c' ∧ Own wr.heap 5 1 a' (M + i) c' (ivals .u8 (xs ++ (beB n 4).take i)) ob' ∧ Fr (fun k => ob = some k) w wr ∧ (ob' = ob ∨ ∃ g, ob' = some g ∧ w.heap.size ≤ g)) (fun s _ _ => (intOf s + 8).toNat)
  case atStart => exact ⟨24, 0, a, c, ob, rfl, by omega, rfl, by simpa using hO, Fr.refl _ _, .inl rfl⟩
  case round =>
    obtain ⟨s, i, a', c', ob', rfl, hs, rfl, hO1, hF, hob⟩ := hrel
    have hwsz := hF.size
    rcases hs with ⟨rfl, rfl⟩ | ⟨rfl, rfl⟩ | ⟨rfl, rfl⟩ | ⟨rfl, rfl⟩ | ⟨rfl, rfl⟩
    · have hv : n / 2 ^ (8 * 3) % 256 = n / 16777216 := by
        rw [show (2 : Int) ^ (8 * 3) = 16777216 by decide]
        try omega
      obtain ⟨zs, hzs⟩ : ∃ zs, zs = xs ++ (beB n 4).take 0 := ⟨_, rfl⟩
      obtain ⟨N, hN⟩ : ∃ N, N = M + 0 := ⟨_, rfl⟩
      rw [← hzs, ← hN] at hO1
      rw [← hN]
      have hN1 : N ≤ 1000004 := by omega
      have HE := Lib.hid (show ivals .u8 (xs ++ (beB n 4).take (0 + 1)) = ivals .u8 zs ++ [.int .u8 (n / 16777216)] by
        rw [show (beB n 4).take (0 + 1) = (beB n 4).take 0 ++ [n / 2 ^ (8 * 3) % 256] from rfl, hv, hzs]
        simp [ivals])
      have HN := Lib.hid hN
      have hrd := rd_lit wr 5 [.int .u8 (n / 16777216)]
      have hOa := hO1.alloc (.cells #[.int .u8 (n / 16777216)] 5)
      have hFa := hF.alloc (.cells #[.int .u8 (n / 16777216)] 5)
      clear hv hzs hN
      go_wp2_with (at_builtin; refine wpList_app rfl _ _ 34 rfl Try.underlying34 infoU8 rfl (by decide) rfl rfl hOa hrd (by simp [Value.oneCell']) (by omega) (by omega) ?_)
      intro a8 c8 w8 ob8 v1 v2 v3
      have hF8 : Fr (fun k => ob = some k) w w8 := hFa.trans' v2 (fun i hi e => by
        rcases hob with h | ⟨g, h, h2⟩
        · rw [← h]; exact e
        · rw [h] at e; cases e; omega)
      have hsa : (wr.alloc (.cells #[.int .u8 (n / 16777216)] 5)).heap.size = wr.heap.size + 1 := by simp
      have hob8 : ob8 = ob ∨ ∃ g, ob8 = some g ∧ w.heap.size ≤ g := by
        rcases v3 with h | ⟨g, h, h2⟩
        · rw [h]; exact hob
        · exact .inr ⟨g, h, by omega⟩
      have v1' : Own w8.heap 5 1 a8 (M + (0 + 1)) c8 (ivals .u8 (xs ++ (beB n 4).take (0 + 1))) ob8 := by
        rw [HE.out, show M + (0 + 1) = N + 1 by have := HN.out; omega]; exact v1
      clear v1 v2 v3 hOa hrd hFa hO1 hF hob
      go_wp2
      go_roundw
      case rel => exact ⟨16, 0 + 1, a8, c8, ob8, by go_num, by omega, by rw [show M + (0 + 1) = N + 1 by have := HN.out; omega], v1', hF8, hob8⟩
      case measure => simp [intOf]
    · have hv : n / 2 ^ (8 * 2) % 256 = n / 65536 % 256 := by
        rw [show (2 : Int) ^ (8 * 2) = 65536 by decide]
        try omega
      obtain ⟨zs, hzs⟩ : ∃ zs, zs = xs ++ (beB n 4).take 1 := ⟨_, rfl⟩
      obtain ⟨N, hN⟩ : ∃ N, N = M + 1 := ⟨_, rfl⟩
      rw [← hzs, ← hN] at hO1
      rw [← hN]
      have hN1 : N ≤ 1000004 := by omega
      have HE := Lib.hid (show ivals .u8 (xs ++ (beB n 4).take (1 + 1)) = ivals .u8 zs ++ [.int .u8 (n / 65536 % 256)] by
        rw [show (beB n 4).take (1 + 1) = (beB n 4).take 1 ++ [n / 2 ^ (8 * 2) % 256] from rfl, hv, hzs]
        simp [ivals])
      have HN := Lib.hid hN
      have hrd := rd_lit wr 5 [.int .u8 (n / 65536 % 256)]
      have hOa := hO1.alloc (.cells #[.int .u8 (n / 65536 % 256)] 5)
      have hFa := hF.alloc (.cells #[.int .u8 (n / 65536 % 256)] 5)
      clear hv hzs hN
      go_wp2_with (at_builtin; refine wpList_app rfl _ _ 34 rfl Try.underlying34 infoU8 rfl (by decide) rfl rfl hOa hrd (by simp [Value.oneCell']) (by omega) (by omega) ?_)
      intro a8 c8 w8 ob8 v1 v2 v3
      have hF8 : Fr (fun k => ob = some k) w w8 := hFa.trans' v2 (fun i hi e => by
        rcases hob with h | ⟨g, h, h2⟩
        · rw [← h]; exact e
        · rw [h] at e; cases e; omega)
      have hsa : (wr.alloc (.cells #[.int .u8 (n / 65536 % 256)] 5)).heap.size = wr.heap.size + 1 := by simp
      have hob8 : ob8 = ob ∨ ∃ g, ob8 = some g ∧ w.heap.size ≤ g := by
        rcases v3 with h | ⟨g, h, h2⟩
        · rw [h]; exact hob
        · exact .inr ⟨g, h, by omega⟩
      have v1' : Own w8.heap 5 1 a8 (M + (1 + 1)) c8 (ivals .u8 (xs ++ (beB n 4).take (1 + 1))) ob8 := by
        rw [HE.out, show M + (1 + 1) = N + 1 by have := HN.out; omega]; exact v1
      clear v1 v2 v3 hOa hrd hFa hO1 hF hob
      go_wp2
      go_roundw
      case rel => exact ⟨8, 1 + 1, a8, c8, ob8, by go_num, by omega, by rw [show M + (1 + 1) = N + 1 by have := HN.out; omega], v1', hF8, hob8⟩
      case measure => simp [intOf]
    · have hv : n / 2 ^ (8 * 1) % 256 = n / 256 % 256 := by
        rw [show (2 : Int) ^ (8 * 1) = 256 by decide]
        try omega
      obtain ⟨zs, hzs⟩ : ∃ zs, zs = xs ++ (beB n 4).take 2 := ⟨_, rfl⟩
      obtain ⟨N, hN⟩ : ∃ N, N = M + 2 := ⟨_, rfl⟩
      rw [← hzs, ← hN] at hO1
      rw [← hN]
      have hN1 : N ≤ 1000004 := by omega
      have HE := Lib.hid (show ivals .u8 (xs ++ (beB n 4).take (2 + 1)) = ivals .u8 zs ++ [.int .u8 (n / 256 % 256)] by
        rw [show (beB n 4).take (2 + 1) = (beB n 4).take 2 ++ [n / 2 ^ (8 * 1) % 256] from rfl, hv, hzs]
        simp [ivals])
      have HN := Lib.hid hN
      have hrd := rd_lit wr 5 [.int .u8 (n / 256 % 256)]
      have hOa := hO1.alloc (.cells #[.int .u8 (n / 256 % 256)] 5)
      have hFa := hF.alloc (.cells #[.int .u8 (n / 256 % 256)] 5)
      clear hv hzs hN
      go_wp2_with (at_builtin; refine wpList_app rfl _ _ 34 rfl Try.underlying34 infoU8 rfl (by decide) rfl rfl hOa hrd (by simp [Value.oneCell']) (by omega) (by omega) ?_)
      intro a8 c8 w8 ob8 v1 v2 v3
      have hF8 : Fr (fun k => ob = some k) w w8 := hFa.trans' v2 (fun i hi e => by
        rcases hob with h | ⟨g, h, h2⟩
        · rw [← h]; exact e
        · rw [h] at e; cases e; omega)
      have hsa : (wr.alloc (.cells #[.int .u8 (n / 256 % 256)] 5)).heap.size = wr.heap.size + 1 := by simp
      have hob8 : ob8 = ob ∨ ∃ g, ob8 = some g ∧ w.heap.size ≤ g := by
        rcases v3 with h | ⟨g, h, h2⟩
        · rw [h]; exact hob
        · exact .inr ⟨g, h, by omega⟩
      have v1' : Own w8.heap 5 1 a8 (M + (2 + 1)) c8 (ivals .u8 (xs ++ (beB n 4).take (2 + 1))) ob8 := by
        rw [HE.out, show M + (2 + 1) = N + 1 by have := HN.out; omega]; exact v1
      clear v1 v2 v3 hOa hrd hFa hO1 hF hob
      go_wp2
      go_roundw
      case rel => exact ⟨0, 2 + 1, a8, c8, ob8, by go_num, by omega, by rw [show M + (2 + 1) = N + 1 by have := HN.out; omega], v1', hF8, hob8⟩
      case measure => simp [intOf]
    · have hv : n / 2 ^ (8 * 0) % 256 = n % 256 := by
        rw [show (2 : Int) ^ (8 * 0) = 1 by decide]
        try omega
      obtain ⟨zs, hzs⟩ : ∃ zs, zs = xs ++ (beB n 4).take 3 := ⟨_, rfl⟩
      obtain ⟨N, hN⟩ : ∃ N, N = M + 3 := ⟨_, rfl⟩
      rw [← hzs, ← hN] at hO1
      rw [← hN]
      have hN1 : N ≤ 1000004 := by omega
      have HE := Lib.hid (show ivals .u8 (xs ++ (beB n 4).take (3 + 1)) = ivals .u8 zs ++ [.int .u8 (n % 256)] by
        rw [show (beB n 4).take (3 + 1) = (beB n 4).take 3 ++ [n / 2 ^ (8 * 0) % 256] from rfl, hv, hzs]
        simp [ivals])
      have HN := Lib.hid hN
      have hrd := rd_lit wr 5 [.int .u8 (n % 256)]
      have hOa := hO1.alloc (.cells #[.int .u8 (n % 256)] 5)
      have hFa := hF.alloc (.cells #[.int .u8 (n % 256)] 5)
      clear hv hzs hN
      go_wp2_with (at_builtin; refine wpList_app rfl _ _ 34 rfl Try.underlying34 infoU8 rfl (by decide) rfl rfl hOa hrd (by simp [Value.oneCell']) (by omega) (by omega) ?_)
      intro a8 c8 w8 ob8 v1 v2 v3
      have hF8 : Fr (fun k => ob = some k) w w8 := hFa.trans' v2 (fun i hi e => by
        rcases hob with h | ⟨g, h, h2⟩
        · rw [← h]; exact e
        · rw [h] at e; cases e; omega)
      have hsa : (wr.alloc (.cells #[.int .u8 (n % 256)] 5)).heap.size = wr.heap.size + 1 := by simp
      have hob8 : ob8 = ob ∨ ∃ g, ob8 = some g ∧ w.heap.size ≤ g := by
        rcases v3 with h | ⟨g, h, h2⟩
        · rw [h]; exact hob
        · exact .inr ⟨g, h, by omega⟩
      have v1' : Own w8.heap 5 1 a8 (M + (3 + 1)) c8 (ivals .u8 (xs ++ (beB n 4).take (3 + 1))) ob8 := by
        rw [HE.out, show M + (3 + 1) = N + 1 by have := HN.out; omega]; exact v1
      clear v1 v2 v3 hOa hrd hFa hO1 hF hob
      go_wp2
      go_roundw
      case rel => exact ⟨-8, 3 + 1, a8, c8, ob8, by go_num, by omega, by rw [show M + (3 + 1) = N + 1 by have := HN.out; omega], v1', hF8, hob8⟩
      case measure => simp [intOf]
    · go_wp2
      go_ret
      exact ⟨a', c', ob', rfl, hO1, hF, hob⟩
end Go.Proofs.Ytfglidaicjjpfaa
end

section
namespace Go.Proofs.Ytfglidaicjjpfaa
open Go.RowKit
/-- The bytes of a message, or what is wrong. -/
def RetEnc (w : World) (r : Option Int) (bs : List Int) (e : Ending) (w' : World) : Prop := match r with
  | some k => RetV w (.tuple #[.slice none 0 0, errv k]) e w'
  | none => ∃ a c ob, e = .returned (.tuple #[.slice a bs.length c, .nilIface]) ∧ Own w'.heap 5 1 a bs.length c (ivals .u8 bs) ob ∧ Fr (fun _ => False) w w' ∧ ∀ g, ob = some g → w.heap.size ≤ g
theorem RetEnc.err {w w' : World} {r : Option Int} {bs : List Int} {e : Ending} {k : Int} (hr : r = some k) (he : e = .returned (.tuple #[.slice none 0 0, errv k])) (hF : Fr (fun _ => False) w w') : RetEnc w r bs e w' := by subst hr; exact ⟨he, hF⟩
theorem RetEnc.ok {w w' : World} {r : Option Int} {bs : List Int} {e : Ending} {a : Option Addr} {m c : Nat} {ob : Option Nat} {xs : List Value} (hr : r = none) (he : e = .returned (.tuple #[.slice a m c, .nilIface])) (hm : m = bs.length) (hx : xs = ivals .u8 bs) (hO : Own w'.heap 5 1 a m c xs ob) (hF : Fr (fun _ => False) w w') (hN : ∀ g, ob = some g → w.heap.size ≤ g) : RetEnc w r bs e w' := by
  subst hr; subst hm; subst hx; exact ⟨a, c, ob, he, hO, hF, hN⟩
theorem RetEnc.errE {w w' : World} {r : Option Int} {bs : List Int} {e : Ending} {k : Int} (h : RetEnc w r bs e w') (hr : r = some k) : RetV w (.tuple #[.slice none 0 0, errv k]) e w' := by subst hr; exact h
theorem RetEnc.okE {w w' : World} {r : Option Int} {bs : List Int} {e : Ending} (h : RetEnc w r bs e w') (hr : r = none) : ∃ a c ob, e = .returned (.tuple #[.slice a bs.length c, .nilIface]) ∧ Own w'.heap 5 1 a bs.length c (ivals .u8 bs) ob ∧ Fr (fun _ => False) w w' ∧ ∀ g, ob = some g → w.heap.size ≤ g := by subst hr; exact h
theorem encD_snoc (ask : Bool) (l : List En) (k : Nat) (h : k < l.length) : encD ask (l.take (k + 1)) = encD ask (l.take k) ++ entB (nth l k) := by
  unfold encD; rw [take_succ_nth l k h, List.flatMap_append]; simp
theorem _root_.Go.Fr.put {W w1 w2 : World} {ob0 ob1 : Option Nat} (h : Fr (fun k => ob0 = some k) W w1) (hob : ob1 = ob0 ∨ ∃ g, ob1 = some g ∧ W.heap.size ≤ g) (f : Fr (fun k => ob1 = some k) w1 w2) : Fr (fun k => ob0 = some k) W w2 :=
  h.trans' f (fun i hi e => by
    rcases hob with q | ⟨g, q, q2⟩
    · rw [← q]; exact e
    · rw [q] at e; cases e; omega)
theorem ob_trans {B C : Nat} {ob0 ob1 ob2 : Option Nat} (h1 : ob1 = ob0 ∨ ∃ g, ob1 = some g ∧ B ≤ g) (h2 : ob2 = ob1 ∨ ∃ g, ob2 = some g ∧ C ≤ g) (hBC : B ≤ C) : ob2 = ob0 ∨ ∃ g, ob2 = some g ∧ B ≤ g := by
  rcases h2 with q | ⟨g, q, q2⟩
  · rw [q]; exact h1
  · exact .inr ⟨g, q, Nat.le_trans hBC q2⟩
set_option maxRecDepth 100000 in
set_option maxHeartbeats 16000000 in
theorem encode_any {M : Nat} (ask : Bool) (l : List En) (al : Option Addr) (cl : Nat) (w : World) (hL : Recs w.heap al 5 En.cells l) (hw : ∀ e ∈ l, En.wf e) (hll : l.length ≤ 9223372036854775806) (hM : M = l.length) :
    Calls Try.prog 10 #[.agg #[.bool ask, .slice al M cl]] w (RetEnc w (msgErr l) (encD ask l)) := by
  subst hM
  obtain ⟨R, hR⟩ : ∃ R, R = msgErr l := ⟨_, rfl⟩
  rw [← hR]
  have hB := Blk.made w 39 [.bool ask, .slice al l.length cl]
  have b0 := hB.cell 0
  have b1 := hB.cell 1
  have bl := hB.lt
  have hF0 := (Fr.refl (fun _ => False) w).alloc (.cells #[.bool ask, .slice al l.length cl] 39)
  simp only [List.getElem?_cons_succ, List.getElem?_cons_zero] at b0 b1
  have hck := wcheck_any (M := l.length) ask l al cl _ (hL.fr0 hF0 (fun _ _ h => h)) hw hll rfl
  rw [← hR] at hck
  have HR := Lib.hid hR
  have HL := Lib.hid hL
  have HW := Lib.hid hw
  clear hR hL hw
  go_enter Try.func10, Try.ntmps10
  go_wp2_with (fail)
  refine hck.mono ?_
  rintro e1 w1 ⟨rfl, hF1⟩
  have hF01 := hF0.trans hF1
  have hB1 := hB.fr hF1 (fun h => h)
  clear hck hF0 hF1 hB b0 b1 bl
  cases hr : R with
  | some q =>
    have HX := Lib.hid hr
    rw [show errO (some q) = errv q from rfl]
    clear hr hB1
    go_wp2
    go_ret2
    exact RetEnc.err HX.out rfl hF01
  | none =>
    have hok := msgErr_ok (HR.out.symm.trans hr)
    have HRN := Lib.hid hr
    have h25 := hok.1
    have HOK := Lib.hid hok.2
    rw [show errO none = .nilIface from rfl]
    have hB2 := hB1.alloc (.cells #[.int .u8 2, .int .u8 2, .int .u8 0, .int .u8 0] 5)
    have hO2 := Own.made w1 5 1 4 (ivals .u8 [2, 2, 0, 0]) rfl (by decide)
    have hF02 := hF01.alloc (.cells #[.int .u8 2, .int .u8 2, .int .u8 0, .int .u8 0] 5)
    have hw1 := hF01.size
    have b0 := hB2.cell 0
    have b1 := hB2.cell 1
    have bl := hB2.lt
    have bw := hB1.lt
    simp only [List.getElem?_cons_succ, List.getElem?_cons_zero] at b0 b1
    have hB1' := hB1
    have hF01' := hF01
    clear hr hok hF01 hB1
    -- the head
    go_upto_if 17 with (fail)
    go_cut [5] (fun s5 wx => s5 = .slice (some ⟨w1.heap.size, 0, none⟩) 4 4 ∧ Blk wx.heap w.heap.size 39 [.bool ask, .slice al l.length cl] ∧ Own wx.heap 5 1 (some ⟨w1.heap.size, 0, none⟩) 4 4 (ivals .u8 (encD ask [])) (some w1.heap.size) ∧ Fr (fun _ => False) w wx)
    case first =>
      cases ask with
      | true =>
        obtain ⟨_, h1, h2, h3, h4, h5⟩ := hO2.pos (by omega)
        cases h1
        have f0 := h5 0
        have e0 := h4 0 (by omega)
        have HO3 := Lib.hid (Own.made w1 5 1 4 (ivals .u8 [1, 2, 0, 0]) rfl (by decide))
        have HB3 := Lib.hid (hB1'.alloc (.cells #[.int .u8 1, .int .u8 2, .int .u8 0, .int .u8 0] 5))
        have HF3 := Lib.hid (hF01'.alloc (.cells #[.int .u8 1, .int .u8 2, .int .u8 0, .int .u8 0] 5))
        clear h4 h5 h2 hO2 hB2 hF02
        go_wp2
        go_meet
        case rel => exact ⟨rfl, HB3.out, HO3.out, HF3.out⟩
      | false =>
        have HO3 := Lib.hid hO2
        have HB3 := Lib.hid hB2
        have HF3 := Lib.hid hF02
        clear hO2 hB2 hF02
        go_wp2
        go_meet
        case rel => exact ⟨rfl, HB3.out, HO3.out, HF3.out⟩
    case rest =>
    obtain ⟨rfl, hB3, hO3, hF3⟩ := hcut
    clear hB2 hO2 hF02 b0 b1 bl hB1' hF01'
    have b1 := hB3.cell 1
    have bl := hB3.lt
    simp only [List.getElem?_cons_succ, List.getElem?_cons_zero] at b1
    go_wp2
    go_loopw [23, 5] (fun s23 s5 wr => ∃ (k : Nat) (N : Nat) (a' : Option Addr) (c' : Nat) (ob' : Option Nat), k ≤ l.length ∧ s23 = .int .i64 k ∧ s5 = .slice a' N c' ∧ Own wr.heap 5 1 a' N c' (ivals .u8 (encD ask (l.take k))) ob' ∧ Hid (N = 4 + 20 * k) ∧ (∀ g, ob' = some g → w.heap.size ≤ g) ∧ Fr (fun _ => False) w wr) (fun s _ _ => l.length - (intOf s).toNat)
    case atStart => exact ⟨0, 4, _, _, _, by omega, rfl, rfl, hO3, Lib.hid rfl, (fun g hg => by cases hg; omega), hF3⟩
    case round =>
      clear hB3 hO3 hF3 b1 bl
      obtain ⟨k, N, a', c', ob', hk, rfl, rfl, hO, hN, hob, hF⟩ := hrel
      by_cases hkl : k < l.length
      · obtain ⟨g, o, rfl, hgl, hc⟩ := Recs.pos HL.out En.cells_len (by omega) (by omega)
        have dd := fun (j : Nat) (hj : j < 5) => (hF.cell (p := ⟨g, o + (k * 5 + j), none⟩) hgl (fun h => h)).trans (hc w rfl k j hkl hj)
        have d0 := dd 0 (by omega)
        have d1 := dd 1 (by omega)
        have d2 := dd 2 (by omega)
        have d3 := dd 3 (by omega)
        have d4 := dd 4 (by omega)
        have hmem := nth_mem l k hkl
        have hx := HW.out _ hmem
        have hoke := entErr_ok (HOK.out _ hmem)
        have hES := encD_snoc ask l k hkl
        generalize nth l k = x at *
        obtain ⟨xa, xn, xt, xp, xm⟩ := x
        obtain ⟨hn1, ht1, ht2, hm1, hm2⟩ := hoke
        have hn2 := netErr_rng hn1
        simp only at hn2 ht1 ht2 hm1 hm2
        obtain ⟨kn, rfl⟩ := Int.eq_ofNat_of_zero_le hn2.1
        simp only [En.cells, List.getElem?_cons_zero, List.getElem?_cons_succ, ← Nat.add_assoc, Nat.add_zero] at d0 d1 d2 d3 d4
        have hxa := hx.1
        have hxp := hx.2
        simp only at hxa hxp
        have hkn : kn ≤ 32 := by omega
        have HES := Lib.hid hES
        have hgl' := Nat.lt_of_lt_of_le hgl hF.size
        have hNb : N ≤ 504 := by rw [hN.out]; omega
        have hobl := hO.lt
        have hwr := hF.size
        have HBX := Lib.hid (Blk.made wr 45 [.int .u32 xa, .int .i64 kn, .int .i64 xt, .int .u32 xp, .int .i64 xm])
        have hO1 := hO.alloc (.cells #[.int .u32 xa, .int .i64 kn, .int .i64 xt, .int .u32 xp, .int .i64 xm] 45)
        have hF1 := hF.alloc (.cells #[.int .u32 xa, .int .i64 kn, .int .i64 xt, .int .u32 xp, .int .i64 xm] 45)
        have c1 := HBX.out.cell 1
        have cl1 := HBX.out.lt
        simp only [List.getElem?_cons_succ, List.getElem?_cons_zero] at c1
        clear dd hc hmem hx hES hO hF hn1 hn2
        go_wp2_with (fail)
        refine (mask_ok kn _ hkn).mono ?_
        rintro e2 w2 ⟨rfl, rfl⟩
        go_wp2
        obtain ⟨W, hW⟩ : ∃ W, W = wr.alloc (.cells #[.int .u32 xa, .int .i64 kn, .int .i64 xt, .int .u32 xp, .int .i64 xm] 45) := ⟨_, rfl⟩
        have hWs : W.heap.size = wr.heap.size + 1 := by rw [hW]; simp
        rw [← hW] at hO1 hF1 HBX c1 cl1 ⊢
        clear d0 d1 d2 d3 d4 hW
        have HWS := Lib.hid hWs
        have HM := Lib.hid (maskV_bd kn)
        have HOL := Lib.hid (show ∀ k, ob' = some k → ¬ k = wr.heap.size from fun k h e => by have := hobl k h; omega)
        clear hobl
        have qb : ∀ (c : Cls (fun k => ob' = some k) W) (i : Nat), c.wo.cell? ⟨wr.heap.size, i, none⟩ = [Value.int .u32 xa, .int .i64 kn, .int .i64 xt, .int .u32 xp, .int .i64 xm][i]? := fun c i => (c.fr.cell (p := ⟨wr.heap.size, i, none⟩) (by have := HBX.out.lt; exact this) (fun h => HOL.out _ h rfl)).trans (HBX.out.cell i)
        have ql : ∀ (c : Cls (fun k => ob' = some k) W), wr.heap.size < c.wo.heap.size := fun c => Nat.lt_of_lt_of_le HBX.out.lt c.fr.size
        have q2 := fun c => qb c 2
        simp only [List.getElem?_cons_succ, List.getElem?_cons_zero] at q2
        have HQB := Lib.hid qb
        clear qb
        (refine wp_region_mix (fun w' => ∃ c : Cls (fun k => ob' = some k) W, w' = c.wo) 5 (by kernel_rfl) (by kernel_rfl) (⟨⟨_, (Fr.refl _ _).drew⟩, rfl⟩) ?_; simp only [List.take_succ_cons, List.take_zero, List.drop_succ_cons, List.drop_zero])
        (refine wpMix_earlyN 1 (by kernel_rfl) (by kernel_rfl) ?_; simp only [List.take_succ_cons, List.take_zero, List.drop_succ_cons, List.drop_zero]; (repeat (go_big_quiet_step (fail))); refine wpQuiet_nil ?_)
        refine wpMix_eff (by kernel_rfl) ?_
        go_wp2_with (fail)
        refine (put2_any (encD ask (l.take k)) 2 W.drew hO1 (by decide) (by omega)).mono ?_
        rintro e3 w3 ⟨a3, c3, ob3, rfl, hO3, hF3, hob3⟩
        have hG3 : Fr (fun k => ob' = some k) W w3 := (Fr.refl _ W).drew.trans hF3
        have hob3 : ob3 = ob' ∨ ∃ g, ob3 = some g ∧ W.heap.size ≤ g := hob3
        clear hF3 hO1
        go_wp2
        refine ⟨⟨⟨_, hG3⟩, rfl⟩, ?_⟩
        (refine wpMix_lateN 3 (⟨⟨_, (Fr.refl _ _).drew⟩, rfl⟩) (by kernel_rfl) ?_; simp only [List.take_succ_cons, List.take_zero, List.drop_succ_cons, List.drop_zero]; (repeat (go_big_quiet_step (fail))); refine wpQuiet_nil ?_)
        refine wpMix_nil ?_
        go_wp2_with (fail)
        refine (put2_any _ xt w3 hO3 (by omega) (by omega)).mono ?_
        rintro e4 w4 ⟨a4, c4, ob4, rfl, hO4, hF4, hob4⟩
        have hG4 := hG3.put hob3 hF4
        have hob4' := ob_trans hob3 hob4 hG3.size
        clear hG3 hF4 hob3 hob4 hO3 q2
        have r0 : w4.cell? ⟨wr.heap.size, 0, none⟩ = some (.int .u32 xa) := HQB.out ⟨_, hG4⟩ 0
        have rl : wr.heap.size < w4.heap.size := ql ⟨_, hG4⟩
        have HQL := Lib.hid ql
        -- the four numbers
        have q3 : ∀ c : Cls (fun k => ob4 = some k) w4, c.wo.cell? ⟨wr.heap.size, 3, none⟩ = some (.int .u32 xp) := fun c => HQB.out ⟨c.wo, hG4.put hob4' c.fr⟩ 3
        have q4 : ∀ c : Cls (fun k => ob4 = some k) w4, c.wo.cell? ⟨wr.heap.size, 4, none⟩ = some (.int .i64 xm) := fun c => HQB.out ⟨c.wo, hG4.put hob4' c.fr⟩ 4
        have q5 : ∀ c : Cls (fun k => ob4 = some k) w4, wr.heap.size < c.wo.heap.size := fun c => HQL.out ⟨c.wo, hG4.put hob4' c.fr⟩
        have HG4 := Lib.hid hG4
        have HOB4 := Lib.hid hob4'
        clear hG4 hob4' ql
        go_wp2
        (refine wp_region_mix (fun w' => ∃ c : Cls (fun k => ob4 = some k) w4, w' = c.wo) 13 (by kernel_rfl) (by kernel_rfl) (⟨⟨_, (Fr.refl _ _).drew⟩, rfl⟩) ?_; simp only [List.take_succ_cons, List.take_zero, List.drop_succ_cons, List.drop_zero])
        (refine wpMix_earlyN 4 (by kernel_rfl) (by kernel_rfl) ?_; simp only [List.take_succ_cons, List.take_zero, List.drop_succ_cons, List.drop_zero]; (repeat (go_big_quiet_step (fail))); refine wpQuiet_nil ?_)
        refine wpMix_eff (by kernel_rfl) ?_
        go_wp2_with (fail)
        refine (put4_any _ xa w4.drew (hO4.fr (Fr.refl (fun _ => False) w4).drew (fun _ _ h => h)) hxa (by omega)).mono ?_
        rintro e5 w5 ⟨a5, c5, ob5, rfl, hO5, hF5, hob5⟩
        have hG5 : Fr (fun k => ob4 = some k) w4 w5 := (Fr.refl _ w4).drew.trans hF5
        have hob5 : ob5 = ob4 ∨ ∃ g, ob5 = some g ∧ w4.heap.size ≤ g := hob5
        clear hF5 hO4 r0 rl
        go_wp2
        refine ⟨⟨⟨_, hG5⟩, rfl⟩, ?_⟩
        (refine wpMix_lateN 1 (⟨⟨_, (Fr.refl _ _).drew⟩, rfl⟩) (by kernel_rfl) ?_; simp only [List.take_succ_cons, List.take_zero, List.drop_succ_cons, List.drop_zero]; (repeat (go_big_quiet_step (fail))); refine wpQuiet_nil ?_)
        refine wpMix_eff (by kernel_rfl) ?_
        go_wp2_with (fail)
        refine (put4_any _ (maskV kn) w5 hO5 HM.out (by omega)).mono ?_
        rintro e6 w6 ⟨a6, c6, ob6, rfl, hO6, hF6, hob6⟩
        have hG6 := hG5.put hob5 hF6
        have hob6' := ob_trans hob5 hob6 hG5.size
        clear hF6 hO5 hG5 hob5 hob6
        go_wp2
        refine ⟨⟨⟨_, hG6⟩, rfl⟩, ?_⟩
        (refine wpMix_lateN 2 (⟨⟨_, (Fr.refl _ _).drew⟩, rfl⟩) (by kernel_rfl) ?_; simp only [List.take_succ_cons, List.take_zero, List.drop_succ_cons, List.drop_zero]; (repeat (go_big_quiet_step (fail))); refine wpQuiet_nil ?_)
        refine wpMix_eff (by kernel_rfl) ?_
        go_wp2_with (fail)
        refine (put4_any _ xp w6 hO6 hxp (by omega)).mono ?_
        rintro e7 w7 ⟨a7, c7, ob7, rfl, hO7, hF7, hob7⟩
        have hG7 := hG6.put hob6' hF7
        have hob7' := ob_trans hob6' hob7 hG6.size
        clear hF7 hO6 hG6 hob6' hob7
        go_wp2
        refine ⟨⟨⟨_, hG7⟩, rfl⟩, ?_⟩
        (refine wpMix_lateN 3 (⟨⟨_, (Fr.refl _ _).drew⟩, rfl⟩) (by kernel_rfl) ?_; simp only [List.take_succ_cons, List.take_zero, List.drop_succ_cons, List.drop_zero]; (repeat (go_big_quiet_step (fail))); refine wpQuiet_nil ?_)
        refine wpMix_nil ?_
        clear q3 q4 q5
        go_wp2_with (fail)
        refine (put4_any _ xm w7 hO7 (by omega) (by omega)).mono ?_
        rintro e8 w8 ⟨a8, c8, ob8, rfl, hO8, hF8, hob8⟩
        have hG8 := HG4.out.put HOB4.out (hG7.put hob7' hF8)
        have hob8' := ob_trans HOB4.out (ob_trans hob7' hob8 hG7.size) HG4.out.size
        have hF08 : Fr (fun _ => False) w w8 := hF1.trans' hG8 (fun i hi e => by have := hob i e; omega)
        have hN8 : ∀ g, ob8 = some g → w.heap.size ≤ g := fun g hg => by
          have h1 := HWS.out
          rcases hob8' with e | ⟨g', e, e2⟩
          · exact hob g (by rw [← e, hg])
          · rw [hg] at e; cases e; omega
        have hxs : ((((((encD ask (l.take k) ++ beB 2 2) ++ beB xt 2) ++ beB xa 4) ++ beB (maskV kn) 4) ++ beB xp 4) ++ beB xm 4) = encD ask (l.take (k + 1)) := by
          rw [HES.out]; unfold entB; simp only [List.append_assoc, Int.toNat_natCast]
        rw [hxs] at hO8
        have HO8 := Lib.hid hO8
        have HN' := Lib.hid (show N + 2 + 2 + 4 + 4 + 4 + 4 = 4 + 20 * (k + 1) by have := hN.out; omega)
        clear hF8 hO7 hG7 hob7' hob8 hG8 hob8' hF1 hxs hO8
        go_wp2
        go_roundw
        case rel => exact ⟨k + 1, N + 2 + 2 + 4 + 4 + 4 + 4, a8, c8, ob8, by omega, by go_num, (by first | rfl | simp), HO8.out, HN', hN8, hF08⟩
        case measure => simp [intOf]; omega
      · obtain rfl : k = l.length := by omega
        rw [List.take_length] at hO
        have hNl : N = (encD ask l).length := by rw [hN.out, encD_len]
        have HO := Lib.hid hO
        clear hO
        go_wp2
        go_ret2
        exact RetEnc.ok HRN.out rfl hNl rfl HO.out hF hob
end Go.Proofs.Ytfglidaicjjpfaa
end

section
namespace Go
section
variable {P : Program} {ops : Array Oper} {C : World → Prop} {w w1 : World} {E : Nat → Bool}

/-- The tail waits for all. -/
def Region.tailT (ops : Array Oper) (T : Array Nat) (n : Nat) : Bool :=
  (List.range ops.size).all fun t => !decide (n ≤ t) || (List.range t).all fun k => (T.getD t 0).testBit k
theorem tailT_spec {T : Array Nat} {n t k : Nat} (h : Region.tailT ops T n = true) (ht : t < ops.size) (hn : n ≤ t) (hk : k < t) : (T.getD t 0).testBit k = true := by
  have h1 := List.all_eq_true.1 h t (List.mem_range.2 ht)
  simp only [decide_eq_true hn, Bool.not_true, Bool.false_or] at h1
  exact List.all_eq_true.1 h1 k (List.mem_range.2 hk)

theorem wpAnyMx_firstT {T : Array Nat} {n i : Nat} {oi : Oper} {v : Value} {L : Array Bool → Act → World → Prop} (hi : ops[i]? = some oi) (hsel : ∀ (j : Nat) (o : Oper) cs b, ops[j]? = some o → o.op ≠ .select cs b)
    (hT : Region.ancOk ops T = true) (hm : Region.tailT ops T n = true) (hin : i < n)
    (hdone : ∀ listed a w, L listed a w → ∀ j ∈ Region.ready .any ops listed, n ≤ j) :
    ∀ (f : Nat) (listed : Array Bool) (a : Act) (w : World), HeadInv .any ops n listed →
      (∀ j oj, ops[j]? = some oj → j ≠ i → listed.getD j true = false → (∀ e ∈ oj.after, Region.binds .any e = true → e.on ≠ i) → oi.apart ops oj = true) →
      i ∈ Region.ready .any ops listed → YC P ops (clsOf C w1 E i) oi v a → (oi.op.quietB = true ∨ Region.wanted oi (yielded ops a.tmps) = false) →
      wpAnyMx P ops C w1 E n L f (listed.setIfInBounds i true) (a.put oi.dst v) w → wpAnyMx P ops C w1 E n L (f + 1) listed a w := by
  have his : i < ops.size := (Array.getElem?_eq_some_iff.1 hi).1
  have headOf : ∀ (listed : Array Bool), HeadInv .any ops n listed → listed.getD i true = false → ∀ j ∈ Region.ready .any ops listed, j < n := by
    intro listed inv hun j hj
    rcases Nat.lt_or_ge j n with h | h
    · exact h
    · have hjs : j < ops.size := (Array.getElem?_eq_some_iff.1 (mem_ready.1 hj).2.choose_spec.1).1
      exact absurd hj (ready_no hT inv his (tailT_spec hm hjs h (by omega)) hun)
  intro f
  induction f with
  | zero =>
    intro listed a w inv _ hr hy hq H
    have hun := (mem_ready.1 hr).1
    refine ⟨fun h => (by rw [h] at hr; cases hr), fun j hj => ?_⟩
    have hjn := headOf listed inv hun j hj
    refine ⟨hjn, ?_⟩
    by_cases hji : j = i
    · subst hji; exact mOp_of_YC hi hy hq H
    · have := hdone _ _ _ H j (ready_mono hj hji)
      omega
  | succ f ih =>
    intro listed a w inv hfree hr hy hq H
    have hun := (mem_ready.1 hr).1
    refine ⟨fun h => (by rw [h] at hr; cases hr), fun j hj => ?_⟩
    have hjn := headOf listed inv hun j hj
    refine ⟨hjn, ?_⟩
    by_cases hji : j = i
    · subst hji; exact mOp_of_YC hi hy hq H
    · have h1 := (H.2 j (ready_mono hj hji)).2
      obtain ⟨hjun, oj, hoj, hall⟩ := mem_ready.1 hj
      have hnot : ∀ e ∈ oj.after, Region.binds .any e = true → e.on ≠ i := fun e he hb heq => by
        have h1 := hall e he hb
        rw [heq, getD_both hun] at h1
        cases h1
      have hap := hfree j oj hoj hji hjun hnot
      have h2 := mOp_put hoj hap (fun cs b => hsel i oi cs b hi) (fun cs b => hsel j oj cs b hoj) hy h1
      have hfree' : ∀ k ok, ops[k]? = some ok → k ≠ i → (listed.setIfInBounds j true).getD k true = false →
          (∀ e ∈ ok.after, Region.binds .any e = true → e.on ≠ i) → oi.apart ops ok = true := fun k ok hk hki hun hno => by
        refine hfree k ok hk hki ?_ hno
        by_cases hjk : j = k
        · subst hjk; exact hjun
        · rw [getD_set_ne true hjk] at hun; exact hun
      have hqk : ∀ a', YC P ops (clsOf C w1 E i) oi v a' → oi.op.quietB = true ∨ Region.wanted oi (yielded ops a.tmps) = false → (Region.wanted oi (yielded ops a'.tmps) = Region.wanted oi (yielded ops a.tmps)) → (oi.op.quietB = true ∨ Region.wanted oi (yielded ops a'.tmps) = false) := fun a' _ h0 he => by rw [he]; exact h0
      -- the guard of 'oi' reads the same in every state that 'j' leaves
      have h2' : mOp P ops C w1 E j (fun a' w' => (YC P ops (clsOf C w1 E i) oi v a' ∧ wpAnyMx P ops C w1 E n L f ((listed.setIfInBounds i true).setIfInBounds j true) (a'.put oi.dst v) w') ∧ Region.wanted oi (yielded ops a'.tmps) = Region.wanted oi (yielded ops a.tmps)) a w := by
        obtain ⟨g1, g2, g3⟩ := Oper.apart_spec hap
        unfold mOp at h2 ⊢
        simp only [hoj] at h2 ⊢
        split
        · rename_i hqq
          simp only [hqq, if_true] at h2
          obtain ⟨u, hu, hn⟩ := h2
          exact ⟨u, hu, hn, wanted_put oi a oj.dst u g3⟩
        · rename_i hqq
          simp only [hqq, Bool.false_eq_true, if_false] at h2
          split
          · rename_i hw
            simp only [hw, if_true] at h2
            exact Oper.effUpon_mono' (fun u w' hk => ⟨hk.1, hk.2, wanted_put oi a oj.dst u g3⟩) h2
          · rename_i hw
            simp only [hw] at h2
            exact ⟨h2, wanted_put oi a oj.dst undef g3⟩
      refine mOp_mono (fun a' w' h3 => ih (listed.setIfInBounds j true) a' w' (inv.set hj hjn) hfree' (ready_mono hr (Ne.symm hji)) h3.1.1 (hqk a' h3.1.1 hq h3.2) ?_) h2'
      rw [Array.setIfInBounds_comm _ _ hji]
      exact h3.1.2


/-- A guarded operation that is wanted: its guard struck. -/
theorem wpList_struck {Q : Exit → Act → World → Prop} {o : Oper} {rest : List Oper} {a : Act} (hw : Region.wanted o (yielded ops a.tmps) = true) (h : wpList P ops Q ({ o with guard := none } :: rest) a w) : wpList P ops Q (o :: rest) a w := by
  unfold wpList at h ⊢
  rw [if_pos hw]
  have h2 : Region.wanted { o with guard := none } (yielded ops a.tmps) = true := rfl
  rw [if_pos h2] at h
  exact h
/-- An effect, as a list of one. -/
theorem effs_of_list {K : Act → World → Prop} {a : Act} {o : Oper}
    (h : wpList P ops (fun e a' w' => e = .normal ∧ a'.defers = a.defers ∧ C w' ∧ K a' w') [o] a w) :
    if Region.wanted o (yielded ops a.tmps) = true then o.effs P a w (fun a' w' => C w' ∧ K a' w') else K (a.put o.dst undef) w := by

  unfold wpList at h
  split
  · rename_i hw
    simp only [hw, if_true] at h
    rcases h with h | ⟨_, a₀, w₀, h, _⟩
    · unfold Oper.effs
      unfold Oper.wp at h
      generalize (execOp a.eval o).run P w = r at *
      cases r with
      | ok n w' =>
        cases n <;> simp only [Oper.upon] at h <;> simp only [Oper.effUpon]
        case value v => exact h.2.2
        case skip => exact h.2.2
        case defer d =>
          have := h.2.1
          generalize o.dst = dd at this
          cases dd <;> simp [Act.put] at this
        case enter f args =>
          refine h.mono fun e w'' he => ?_
          cases e with
          | returned v => exact he.2.2
          | panicked c => exact absurd he.1 (by simp)
          | outgrown => obtain ⟨_, _, h1, _⟩ := he; cases h1
        case row row args => exact Rows.mono h fun v w'' he => he.2.2
      | halt x w' =>
        cases x <;> simp only [Oper.upon] at h
        exact absurd h.1 (by simp)
    · cases h
  · rename_i hw
    simp only [hw] at h
    exact h.2.2.2

def setR (listed : Array Bool) (a : Nat) : Nat → Array Bool
  | 0 => listed
  | m + 1 => setR (listed.setIfInBounds a true) (a + 1) m
/-- What is left of the head, walked whichever order its effects take. -/
def Tr (P : Program) (ops : Array Oper) (C : World → Prop) (w1 : World) (E : Nat → Bool) (n : Nat) (Lq : Act → World → Prop) (f : Nat) (listed : Array Bool) (a : Act) (w : World) : Prop :=
  HeadInv .any ops n listed → wpAnyMx P ops C w1 E n (fun listed' a' w' => Region.seqB .any ops (ops.size - n) n listed' = true ∧ Lq a' w') f listed a w
def Region.pieceB (ops : Array Oper) (n : Nat) : Nat → Nat → Array Bool → Bool
  | _, 0, _ => true
  | a, m + 1, listed => (Region.ready .any ops listed).contains a && Region.free .any ops listed a && decide (a < n) && (match ops[a]? with | some o => o.op.quietB | none => false) && Region.pieceB ops n (a + 1) m (listed.setIfInBounds a true)
/-- What is asked of the region's text. -/
def Region.treeB (ops : Array Oper) (n : Nat) : Bool :=
  Region.noSelect ops && decide (n ≤ ops.size) && Region.ancOk ops (Region.before ops) && Region.tailT ops (Region.before ops) n
variable {n : Nat} {Lq : Act → World → Prop}

/-- A run of quiet operations, numbers k, k + 1, .. -/
theorem tr_quiet (hB : Region.treeB ops n = true) (D : World → Prop) (hD : ∀ i w, clsOf C w1 E i w → D w) : ∀ (l1 : List Oper) (k F : Nat) (listed : Array Bool) (a : Act),
    (∀ j, j < l1.length → l1[j]? = ops[k + j]?) → Region.pieceB ops n k l1.length listed = true →
    wpQuiet P ops D (fun a' => Tr P ops C w1 E n Lq F (setR listed k l1.length) a' w) l1 a → Tr P ops C w1 E n Lq (F + l1.length) listed a w
  | [], k, F, listed, a, _, _, h => h
  | o :: l1, k, F, listed, a, hl, hp, h => by
    intro inv
    have h0 : ops[k]? = some o := by simpa using (hl 0 (by simp)).symm
    simp only [List.length_cons, Region.pieceB, Bool.and_eq_true, h0, decide_eq_true_eq] at hp
    obtain ⟨⟨⟨⟨hr, hf⟩, hk⟩, hq⟩, hp'⟩ := hp
    have hr' : k ∈ Region.ready .any ops listed := by simpa using hr
    simp only [Region.treeB, Bool.and_eq_true, decide_eq_true_eq] at hB
    have hB' := hB
    obtain ⟨⟨⟨hsel, hn⟩, hT⟩, hm⟩ := hB
    have inv' := inv.set hr' hk
    have hl' : ∀ j, j < l1.length → l1[j]? = ops[k + 1 + j]? := fun j hj => by
      have := hl (j + 1) (by simpa using hj)
      simpa [Nat.add_assoc, Nat.add_comm 1] using this
    have next := fun (a' : Act) (hh : wpQuiet P ops D (fun a' => Tr P ops C w1 E n Lq F (setR (listed.setIfInBounds k true) (k + 1) l1.length) a' w) l1 a') =>
      tr_quiet (by simp only [Region.treeB, Bool.and_eq_true, decide_eq_true_eq]; exact hB') D hD l1 (k + 1) F (listed.setIfInBounds k true) a' hl' hp' hh inv'
    have hd : ∀ (listed : Array Bool) (a : Act) (w : World), (Region.seqB .any ops (ops.size - n) n listed = true ∧ Lq a w) → ∀ j ∈ Region.ready .any ops listed, n ≤ j := fun listed' a' w' hL => seqB_ready hL.1
    unfold wpQuiet at h
    rw [List.length_cons, ← Nat.add_assoc]
    by_cases hw : Region.wanted o (yielded ops a.tmps) = true
    · simp only [hw, if_true] at h
      obtain ⟨v, h1, h2⟩ := Oper.q1_of_quiet hq h
      exact wpAnyMx_firstT h0 (Region.noSelect_spec hsel) hT hm hk hd (F + l1.length) listed a w inv (Region.free_spec h0 hf) hr' (.inl ⟨hw, fun w hc => h1 w (hD k w hc)⟩) (.inl hq) (next _ h2)
    · simp only [hw] at h
      exact wpAnyMx_firstT h0 (Region.noSelect_spec hsel) hT hm hk hd (F + l1.length) listed a w inv (Region.free_spec h0 hf) hr' (.inr ⟨by simpa using hw, rfl⟩) (.inl hq) (next _ h)
end
section
variable {P : Program} {l : List Oper} {C : World → Prop} {w w1 : World} {E : Nat → Bool} {n : Nat} {Lq : Act → World → Prop} {G : Nat} {listed : Array Bool} {a : Act}

theorem tr_late (hB : Region.treeB l.toArray n = true) (hC : C w1) (k m F : Nat) (hF : G = F + m) (hm : k + m ≤ l.length) (hp : Region.pieceB l.toArray n k m listed = true)
    (h : wpQuiet P l.toArray C (fun a' => Tr P l.toArray C w1 E n Lq F (setR listed k m) a' w) ((l.drop k).take m) a) : Tr P l.toArray C w1 E n Lq G listed a w := by
  have e : ((l.drop k).take m).length = m := by simp; omega
  subst hF
  have := tr_quiet (P := P) (C := C) (w := w) (w1 := w1) (E := E) (Lq := Lq) hB C (fun i w' hc => by unfold clsOf at hc; split at hc <;> first | exact hc | (rw [hc]; exact hC)) ((l.drop k).take m) k F listed a (fun j hj => by rw [e] at hj; simp [hj]) (by rw [e]; exact hp) (by rw [e]; exact h)
  rwa [e] at this
/-- The early ones among them alone: each is told in the first world. -/
theorem tr_early (hB : Region.treeB l.toArray n = true) (k m F : Nat) (hF : G = F + m) (hm : k + m ≤ l.length) (hp : Region.pieceB l.toArray n k m listed = true) (he : ∀ j, j < m → E (k + j) = true)
    (h : wpQuiet P l.toArray (fun w' => w' = w1) (fun a' => Tr P l.toArray C w1 E n Lq F (setR listed k m) a' w) ((l.drop k).take m) a) : Tr P l.toArray C w1 E n Lq G listed a w := by
  subst hF
  induction m generalizing k listed a with
  | zero => simpa [setR, wpQuiet] using h
  | succ m ih =>
    have hkl : k < l.length := by omega
    have hd : (l.drop k).take (m + 1) = l[k] :: (l.drop (k + 1)).take m := by rw [List.drop_eq_getElem_cons hkl, List.take_succ_cons]
    rw [hd] at h
    have h0 : l.toArray[k]? = some l[k] := by simp [hkl]
    have hp0 := hp
    simp only [Region.pieceB, Bool.and_eq_true, h0, decide_eq_true_eq] at hp
    obtain ⟨⟨⟨⟨hr, hf⟩, hk⟩, hq⟩, hp'⟩ := hp
    intro inv
    have hr' : k ∈ Region.ready .any l.toArray listed := by simpa using hr
    have hB' := hB
    simp only [Region.treeB, Bool.and_eq_true, decide_eq_true_eq] at hB
    obtain ⟨⟨⟨hsel, hn⟩, hT⟩, hmt⟩ := hB
    have next := fun (a' : Act) (hh : wpQuiet P l.toArray (fun w' => w' = w1) (fun a' => Tr P l.toArray C w1 E n Lq F (setR (listed.setIfInBounds k true) (k + 1) m) a' w) ((l.drop (k + 1)).take m) a') =>
      ih (listed := listed.setIfInBounds k true) (a := a') (k + 1) (by omega) hp' (fun j hj => by have := he (j + 1) (by omega); rwa [show k + 1 + j = k + (j + 1) by omega]) hh (inv.set hr' hk)
    have hdn : ∀ (listed : Array Bool) (a : Act) (w : World), (Region.seqB .any l.toArray (l.toArray.size - n) n listed = true ∧ Lq a w) → ∀ j ∈ Region.ready .any l.toArray listed, n ≤ j := fun listed' a' w' hL => seqB_ready hL.1
    unfold wpQuiet at h
    rw [← Nat.add_assoc]
    by_cases hw : Region.wanted l[k] (yielded l.toArray a.tmps) = true
    · simp only [hw, if_true] at h
      obtain ⟨v, h1, h2⟩ := Oper.q1_of_quiet hq h
      exact wpAnyMx_firstT h0 (Region.noSelect_spec hsel) hT hmt hk hdn (F + m) listed a w inv (Region.free_spec h0 hf) hr' (.inl ⟨hw, fun w hc => h1 w (by
        unfold clsOf at hc
        have := he 0 (by omega)
        rw [Nat.add_zero] at this
        rwa [if_pos this] at hc)⟩) (.inl hq) (next _ h2)
    · simp only [hw] at h
      exact wpAnyMx_firstT h0 (Region.noSelect_spec hsel) hT hmt hk hdn (F + m) listed a w inv (Region.free_spec h0 hf) hr' (.inr ⟨by simpa using hw, rfl⟩) (.inl hq) (next _ h)
/-- One effect of those that may come now. -/
def TrE (P : Program) (l : List Oper) (C : World → Prop) (w1 : World) (E : Nat → Bool) (n : Nat) (Lq : Act → World → Prop) (F : Nat) (listed : Array Bool) (a : Act) (w : World) (i : Nat) : Prop :=
  wpList P l.toArray (fun e a' w' => e = .normal ∧ a'.defers = a.defers ∧ C w' ∧ Tr P l.toArray C w1 E n Lq F (listed.setIfInBounds i true) a' w') ((l.drop i).take 1) a w
/-- Whichever effect comes next. -/
theorem tr_eff (is : List Nat) (F : Nat) (hF : G = F + 1) (hr : Region.ready .any l.toArray listed = is) (hi : (!is.isEmpty && is.all fun i => decide (i < n) && (match l[i]? with | some o => !o.op.quietB | none => false)) = true)
    (h : ∀ i ∈ is, TrE P l C w1 E n Lq F listed a w i) : Tr P l.toArray C w1 E n Lq G listed a w := by
  subst hF
  intro inv
  simp only [Bool.and_eq_true, Bool.not_eq_true', List.isEmpty_eq_false_iff] at hi
  refine ⟨by rw [hr]; exact hi.1, fun i hir => ?_⟩
  have hii := hir
  rw [hr] at hii
  have h2 := List.all_eq_true.1 hi.2 i hii
  simp only [Bool.and_eq_true, decide_eq_true_eq] at h2
  obtain ⟨hin, h3⟩ := h2
  refine ⟨hin, ?_⟩
  have h4 := h i hii
  unfold TrE at h4
  cases ho : l[i]? with
  | none => rw [ho] at h3; cases h3
  | some o =>
    rw [ho] at h3
    have hq : o.op.quietB = false := by simpa using h3
    have hil : i < l.length := (List.getElem?_eq_some_iff.1 ho).1
    have hd : (l.drop i).take 1 = [o] := by
      rw [List.drop_eq_getElem_cons hil, List.take_succ_cons, List.take_zero]
      rw [(List.getElem?_eq_some_iff.1 ho).2]
    rw [hd] at h4
    have h5 := effs_of_list h4
    have inv' := inv.set hir hin
    unfold mOp
    simp only [List.getElem?_toArray, ho, hq, Bool.false_eq_true, if_false]
    split
    · rename_i hw
      simp only [hw, if_true] at h5
      exact Oper.effUpon_mono (fun a' w' hk => ⟨hk.1, hk.2 inv'⟩) h5
    · rename_i hw
      simp only [hw] at h5
      exact h5 inv'
theorem tr_end (hs : Region.seqB .any l.toArray (l.toArray.size - n) n listed = true) (h : Lq a w) : Tr P l.toArray C w1 E n Lq 0 listed a w := fun _ => ⟨hs, h⟩

/-- **A REGION THAT DRAWS ITS ORDER, WHOSE EFFECTS MAY COME IN SEVERAL ORDERS.** -/
theorem wp_region_tree {id : Nat} {Q : Exit → Act → World → Prop} (C : World → Prop) (n : Nat) (hm : P.follows .mixedOrders = true) (hB : Region.treeB l.toArray n = true) (hC : C w.drew)
    (h : Region.treeB l.toArray n = true → Tr P l.toArray C w.drew (Region.early l.toArray (Region.before l.toArray) n) n (fun a' w' => wpList P l.toArray Q (l.drop n) a' w') n (Array.replicate l.length false) a w.drew) : (Code.region id l.toArray true).wp P Q a w := by
  have H := h hB
  simp only [Region.treeB, Bool.and_eq_true, decide_eq_true_eq] at hB
  obtain ⟨⟨⟨hsel, hn⟩, hT⟩, hmt⟩ := hB
  have hn' : n ≤ l.length := by simpa using hn
  have hdl : (l.drop n).length = l.toArray.size - n := by simp
  have hE := early_ok l.toArray (Region.before l.toArray) n
  have inv0 : HeadInv .any l.toArray n (Array.replicate l.length false) :=
    ⟨by simp, fun j oj _ hl => (by rw [getD_replicate_false] at hl; cases hl), fun t _ ht => getD_in (by simpa using ht) (getD_replicate_false _ _)⟩
  refine wp_region_any hm ?_
  have := wpAny_of_mx (Q' := Q) (g := l.toArray.size - n) hT hE (fun listed a' w' hL => by
    have := wpAny_of_seq (md := .any) (Q' := Q) (l.drop n) n listed a' w' (fun j => by simp [List.getElem?_drop]) (by rw [hdl]; exact hL.1) hL.2
    rwa [hdl] at this) _ _ _ _ inv0 hC (.inl rfl) (H inv0)
  rw [show n + (l.toArray.size - n) = l.toArray.size by simp; omega] at this
  simpa using this
end
end Go
end
