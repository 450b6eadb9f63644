import Derived.Test.YtgfbkebbnfcgkaaErr
import Derived.Test.YtgfbkebbnfcgkaaRecs
import Derived.Test.YtgfbkebbnfcgkaaNetW
import Derived.Shelf.Small.Bits
import Derived.Test.YtgfbkebbnfcgkaaQRt12
section
namespace Go.Proofs.Ytgfbkebbnfcgkaa
open Go.RowKit
/-- An entry: a net, a tag, a hop, how far. -/
structure En where
  (a n t p m : Int)
deriving Inhabited, DecidableEq
abbrev En.cells (x : En) : List Value := [.int .u32 x.a, .int .i64 x.n, .int .i64 x.t, .int .u32 x.p, .int .i64 x.m]
theorem En.cells_len (x : En) : (En.cells x).length = 5 := rfl
theorem infoEn : (Try.prog.info? 80).map (fun i => (i.zero, i.size, i.bytes)) = some (some (.agg #[.int .u32 0, .int .i64 0, .int .i64 0, .int .u32 0, .int .i64 0]), 5, 40) := by kernel_rfl
theorem en_one (x : En) : ∀ u ∈ En.cells x, u.oneCell' = true := by simp [Value.oneCell']
end Go.Proofs.Ytgfbkebbnfcgkaa
end

section
namespace Go.Proofs.Ytgfbkebbnfcgkaa
open Go.RowKit
/-! ### Messages as bytes: the plain model -/
def entErr (e : En) : Option Int := match netErr e.a e.n with
  | some k => some k
  | none => if e.t < 0 ∨ 65535 < e.t ∨ e.m < 1 ∨ 16 < e.m then some 1 else none
def entsErr : List En → Option Int
  | [] => none
  | e :: l => match entErr e with
    | some k => some k
    | none => entsErr l
/-- What is wrong with a message. -/
def msgErr (l : List En) : Option Int := if 25 < l.length then some 4 else entsErr l
/-- A number in so many bytes. -/
def beB (n : Int) : Nat → List Int
  | 0 => []
  | k + 1 => n / 2 ^ (8 * k) % 256 :: beB n k
def entB (e : En) : List Int := beB 2 2 ++ beB e.t 2 ++ beB e.a 4 ++ beB (maskV e.n.toNat) 4 ++ beB e.p 4 ++ beB e.m 4
/-- The bytes of a message. -/
def encD (ask : Bool) (l : List En) : List Int := (if ask then 1 else 2) :: 2 :: 0 :: 0 :: l.flatMap entB
def numB (l : List Int) : Int := l.foldl (fun n c => n * 256 % 4294967296 + c) 0
def mlenO (m : Int) : Option Nat := (List.range 33).find? fun k => decide (maskV k = m)
/-- The entry of twenty bytes. -/
def entD (b : List Int) : Option En := match mlenO (numB ((b.drop 8).take 4)) with
  | none => none
  | some k => if numB (b.take 2) = 2 ∧ entErr ⟨numB ((b.drop 4).take 4), k, numB ((b.drop 2).take 2), numB ((b.drop 12).take 4), numB ((b.drop 16).take 4)⟩ = none then
      some ⟨numB ((b.drop 4).take 4), k, numB ((b.drop 2).take 2), numB ((b.drop 12).take 4), numB ((b.drop 16).take 4)⟩ else none
def baseF (p : List Int) : List Int := if 8 < p.length ∧ p.length < 12 ∧ nth p (p.length - 1) ≠ 255 then [0, 2, 0, 0, 0, 0, 0, 0, 0, 0, 0, 0, 0, 0, 0, 0, 0, 0, 0, 1] else [0, 2, 0, 0, 0, 0, 0, 0, 255, 255, 255, 255, 0, 0, 0, 0, 0, 0, 0, 1]
def filledD (p : List Int) : List Int := p ++ (baseF p).drop p.length
def headD (b : List Int) : List Int := if b.length < 4 then b ++ [2, 2, 0, 0].drop b.length else b
def headBad (b : List Int) : Prop := (nth b 0 ≠ 1 ∧ nth b 0 ≠ 2) ∨ nth b 1 ≠ 2 ∨ nth b 2 ≠ 0 ∨ nth b 3 ≠ 0
instance (b : List Int) : Decidable (headBad b) := by unfold headBad; infer_instance
/-- The entries of bytes, behind others. -/
def partsD : Nat → List Int → List En → Option (List En)
  | 0, _, acc => some acc
  | k + 1, rest, acc => if rest = [] then some acc else match entD (filledD (rest.take 20)) with
    | none => none
    | some e => if acc.length = 25 then none else partsD k (rest.drop 20) (acc ++ [e])
def shortD (b : List Int) : Prop := b.length < 4 ∨ (b.length - 4) % 20 ≠ 0
instance (b : List Int) : Decidable (shortD b) := by unfold shortD; infer_instance
/-- The message of bytes. -/
def decD (b : List Int) : Except Int (Bool × List En) := if headBad (headD b) then .error 3 else match partsD b.length ((headD b).drop 4) [] with
  | none => .error 3
  | some l => if shortD b then .error 6 else .ok (decide (nth (headD b) 0 = 1), l)

/-- Numbers that may stand in an entry. -/
def En.wf (e : En) : Prop := (0 ≤ e.a ∧ e.a < 4294967296) ∧ (0 ≤ e.p ∧ e.p < 4294967296)
theorem beB_len (n : Int) : ∀ k, (beB n k).length = k
  | 0 => rfl
  | k + 1 => by rw [beB, List.length_cons, beB_len n k]
theorem beB_bd (n : Int) : ∀ k, ∀ x ∈ beB n k, 0 ≤ x ∧ x < 256
  | 0 => fun x hx => nomatch hx
  | k + 1 => fun x hx => by
    rcases List.mem_cons.1 hx with rfl | hx
    · omega
    · exact beB_bd n k x hx
theorem entB_len (e : En) : (entB e).length = 20 := by simp [entB, beB_len]
theorem entB_bd (e : En) : ∀ x ∈ entB e, 0 ≤ x ∧ x < 256 := by
  intro x hx
  unfold entB at hx
  simp only [List.mem_append] at hx
  rcases hx with ((((h | h) | h) | h) | h) | h <;> exact beB_bd _ _ x h
theorem encD_bd (ask : Bool) (l : List En) : ∀ x ∈ encD ask l, 0 ≤ x ∧ x < 256 := by
  intro x hx
  unfold encD at hx
  simp only [List.mem_cons, List.mem_flatMap] at hx
  rcases hx with rfl | rfl | rfl | rfl | ⟨e, _, h⟩
  · cases ask <;> decide
  · decide
  · decide
  · decide
  · exact entB_bd e x h
theorem flat_entB_len : ∀ l : List En, (l.flatMap entB).length = 20 * l.length
  | [] => rfl
  | e :: l => by rw [List.flatMap_cons, List.length_append, entB_len, flat_entB_len l, List.length_cons]; omega
theorem encD_len (ask : Bool) (l : List En) : (encD ask l).length = 4 + 20 * l.length := by
  unfold encD
  simp only [List.length_cons, flat_entB_len]
  omega
theorem numB4 (n : Int) (h : 0 ≤ n ∧ n < 4294967296) : numB (beB n 4) = n := by
  simp only [beB, numB, List.foldl_cons, List.foldl_nil, Nat.reduceMul, Nat.mul_zero, Nat.mul_one, Int.reducePow, Int.pow_zero]
  omega
theorem numB2 (n : Int) (h : 0 ≤ n ∧ n < 65536) : numB (beB n 2) = n := by
  simp only [beB, numB, List.foldl_cons, List.foldl_nil, Nat.reduceMul, Nat.mul_zero, Nat.mul_one, Int.reducePow, Int.pow_zero]
  omega
theorem maskV_bd (k : Nat) : 0 ≤ maskV k ∧ maskV k < 4294967296 := by unfold maskV; omega
theorem mlenO_mask : ∀ k, k < 33 → mlenO (maskV k) = some k := by decide +kernel
theorem mlenO_some {m : Int} {k : Nat} (h : mlenO m = some k) : k ≤ 32 ∧ maskV k = m := by
  have h1 := List.find?_some h
  have h2 := List.mem_of_find?_eq_some h
  exact ⟨by have := List.mem_range.1 h2; omega, of_decide_eq_true h1⟩
theorem mlenO_none {m : Int} (h : mlenO m = none) : ∀ k, k ≤ 32 → maskV k ≠ m := by
  intro k hk e
  have := List.find?_eq_none.1 h k (List.mem_range.2 (by omega))
  exact this (decide_eq_true e)
theorem netErr_rng {a n : Int} (h : netErr a n = none) : 0 ≤ n ∧ n ≤ 32 := by
  unfold netErr at h
  split at h
  · cases h
  · omega
theorem entErr_ok {e : En} (h : entErr e = none) : netErr e.a e.n = none ∧ 0 ≤ e.t ∧ e.t ≤ 65535 ∧ 1 ≤ e.m ∧ e.m ≤ 16 := by
  unfold entErr at h
  split at h
  · cases h
  · rename_i hn
    split at h
    · cases h
    · exact ⟨hn, by omega, by omega, by omega, by omega⟩
theorem take_cut {α : Type} (a b : List α) (k : Nat) (h : a.length = k) : (a ++ b).take k = a := by subst h; simp
theorem drop_cut {α : Type} (a b : List α) (k : Nat) (h : a.length = k) : (a ++ b).drop k = b := by subst h; simp
theorem entD_entB {e : En} (hw : En.wf e) (h : entErr e = none) : entD (entB e) = some e := by
  obtain ⟨h1, h2, h3, h4, h5⟩ := entErr_ok h
  obtain ⟨n1, n2⟩ := netErr_rng h1
  obtain ⟨a, n, t, p, m⟩ := e
  simp only at h1 h2 h3 h4 h5 n1 n2
  obtain ⟨k, rfl⟩ := Int.eq_ofNat_of_zero_le n1
  have q1 : (entB ⟨a, (k : Int), t, p, m⟩).take 2 = beB 2 2 := by
    unfold entB; simp only [List.append_assoc]; exact take_cut _ _ 2 (beB_len _ _)
  have d2 : (entB ⟨a, (k : Int), t, p, m⟩).drop 2 = beB t 2 ++ (beB a 4 ++ (beB (maskV k) 4 ++ (beB p 4 ++ beB m 4))) := by
    unfold entB; simp only [List.append_assoc, Int.toNat_natCast]; exact drop_cut _ _ 2 (beB_len _ _)
  have d4 : (entB ⟨a, (k : Int), t, p, m⟩).drop 4 = beB a 4 ++ (beB (maskV k) 4 ++ (beB p 4 ++ beB m 4)) := by
    rw [show (4 : Nat) = 2 + 2 from rfl, ← List.drop_drop, d2]; exact drop_cut _ _ 2 (beB_len _ _)
  have d8 : (entB ⟨a, (k : Int), t, p, m⟩).drop 8 = beB (maskV k) 4 ++ (beB p 4 ++ beB m 4) := by
    rw [show (8 : Nat) = 4 + 4 from rfl, ← List.drop_drop, d4]; exact drop_cut _ _ 4 (beB_len _ _)
  have d12 : (entB ⟨a, (k : Int), t, p, m⟩).drop 12 = beB p 4 ++ beB m 4 := by
    rw [show (12 : Nat) = 8 + 4 from rfl, ← List.drop_drop, d8]; exact drop_cut _ _ 4 (beB_len _ _)
  have d16 : (entB ⟨a, (k : Int), t, p, m⟩).drop 16 = beB m 4 := by
    rw [show (16 : Nat) = 12 + 4 from rfl, ← List.drop_drop, d12]; exact drop_cut _ _ 4 (beB_len _ _)
  unfold entD
  rw [q1, d2, d4, d8, d12, d16, take_cut _ _ 2 (beB_len _ _), take_cut _ _ 4 (beB_len _ _), take_cut _ _ 4 (beB_len _ _), take_cut _ _ 4 (beB_len _ _),
    List.take_of_length_le (by rw [beB_len]; omega), numB2 2 (by omega), numB2 t (by omega), numB4 a hw.1, numB4 (maskV k) (maskV_bd k), numB4 p hw.2, numB4 m (by omega), mlenO_mask k (by omega)]
  simp only
  rw [if_pos ⟨trivial, h⟩]
theorem baseF_len (p : List Int) : (baseF p).length = 20 := by unfold baseF; split <;> rfl
theorem filledD_len (p : List Int) (h : p.length ≤ 20) : (filledD p).length = 20 := by
  unfold filledD; rw [List.length_append, List.length_drop, baseF_len]; omega
theorem filledD_whole (p : List Int) (h : p.length = 20) : filledD p = p := by
  unfold filledD; rw [List.drop_of_length_le (by rw [baseF_len]; omega), List.append_nil]
theorem entsErr_ok {l : List En} (h : entsErr l = none) : ∀ e ∈ l, entErr e = none := by
  induction l with
  | nil => exact fun _ h => nomatch h
  | cons x l ih =>
    unfold entsErr at h
    split at h
    · cases h
    · intro e he
      rcases List.mem_cons.1 he with rfl | he
      · assumption
      · exact ih h e he
theorem msgErr_ok {l : List En} (h : msgErr l = none) : l.length ≤ 25 ∧ ∀ e ∈ l, entErr e = none := by
  unfold msgErr at h
  split at h
  · cases h
  · exact ⟨by omega, entsErr_ok h⟩
theorem partsD_enc : ∀ (l : List En) (k : Nat) (acc : List En), (∀ e ∈ l, En.wf e ∧ entErr e = none) → l.length ≤ k → acc.length + l.length ≤ 25 → partsD k (l.flatMap entB) acc = some (acc ++ l)
  | [], k, acc, _, _, _ => by
    cases k with
    | zero => simp [partsD]
    | succ k => simp [partsD]
  | e :: l, k, acc, h, hk, ha => by
    obtain ⟨j, rfl⟩ : ∃ j, k = j + 1 := ⟨k - 1, by simp only [List.length_cons] at hk; omega⟩
    obtain ⟨h1, h2⟩ := h e (by simp)
    have hne : ¬ entB e ++ l.flatMap entB = [] := fun hh => by
      have := congrArg List.length hh
      rw [List.length_append, entB_len] at this
      simp only [List.length_nil] at this; omega
    simp only [List.length_cons] at hk ha
    rw [List.flatMap_cons, partsD, if_neg hne, take_cut _ _ 20 (entB_len e), drop_cut _ _ 20 (entB_len e), filledD_whole _ (entB_len e), entD_entB h1 h2]
    simp only
    rw [if_neg (by omega), partsD_enc l j (acc ++ [e]) (fun x hx => h x (by simp [hx])) (by omega) (by simp only [List.length_append, List.length_singleton]; omega)]
    simp
/-- What was encoded is decoded. -/
theorem decD_encD (ask : Bool) (l : List En) (hw : ∀ e ∈ l, En.wf e) (h : msgErr l = none) : decD (encD ask l) = .ok (ask, l) := by
  obtain ⟨h1, h2⟩ := msgErr_ok h
  have hl := encD_len ask l
  have hh : headD (encD ask l) = encD ask l := by unfold headD; rw [if_neg (by omega)]
  have hd : (encD ask l).drop 4 = l.flatMap entB := rfl
  have hb : ¬ headBad (encD ask l) := by
    unfold headBad encD nth
    cases ask <;> simp
  have hs : ¬ shortD (encD ask l) := by unfold shortD; rw [hl]; omega
  have h0 : decide (nth (encD ask l) 0 = 1) = ask := by unfold encD nth; cases ask <;> simp
  unfold decD
  rw [hh, if_neg hb, hd, partsD_enc l _ [] (fun e he => ⟨hw e he, h2 e he⟩) (by omega) (by simpa using h1)]
  simp only
  rw [if_neg hs, h0]
  rfl
end Go.Proofs.Ytgfbkebbnfcgkaa
end

section
namespace Go.Proofs
open Go.Shelf
def Try.bitsLz_ren : Go.Shelf.Ren := ⟨fun | 133 => 80 | 128 => 78 | n => n, fun | 51 => 32 | 3 => 3 | 4 => 4 | 46 => 94 | 5 => 5 | 9 => 9 | n => n, fun | n => n⟩
theorem Try.bitsLz : Go.Proofs.Lays.n133 Try.prog Try.bitsLz_ren := {
  mixed := by kernel_rfl
  f128 := Try.func78.trans (congrArg some (by kernel_rfl))
  f133 := Try.func80.trans (congrArg some (by kernel_rfl))
  t3 := Try.underlying3
  a3 := Try.isAgg3
  z3 := Try.sizeOf3
  v3 := Try.zeroValue3
  t4 := Try.underlying4
  a4 := Try.isAgg4
  z4 := Try.sizeOf4
  v4 := Try.zeroValue4
  t5 := Try.underlying5
  a5 := Try.isAgg5
  z5 := Try.sizeOf5
  v5 := Try.zeroValue5
  t9 := Try.underlying9
  a9 := Try.isAgg9
  z9 := Try.sizeOf9
  v9 := Try.zeroValue9
  t46 := Try.underlying94
  a46 := Try.isAgg94
  z46 := Try.sizeOf94
  v46 := Try.zeroValue94
  t51 := Try.underlying32
  a51 := Try.isAgg32
  z51 := Try.sizeOf32
  v51 := Try.zeroValue32
  }

end Go.Proofs
namespace Go.Proofs.Ytgfbkebbnfcgkaa
open Go.RowKit
theorem lz32_any (x : Int) (w : World) (h0 : 0 ≤ x) (h1 : x ≤ 4294967295) :
    Calls Try.prog 80 #[.int .u32 x] w fun e w' => e = .returned (.int .i64 (32 - (Lib.bitLen x.toNat : Int))) ∧ w' = w := Any.bits_LeadingZeros32 Try.bitsLz x w h0 h1
end Go.Proofs.Ytgfbkebbnfcgkaa
end

section
namespace Go.Proofs.Ytgfbkebbnfcgkaa
open Go.RowKit
theorem infoU8 : (Try.prog.info? 5).map (fun i => (i.zero, i.size, i.bytes)) = some (some (.int .u8 0), 1, 1) := by kernel_rfl
/-! ### masks -/
theorem xor_full {m : Int} (h : 0 ≤ m ∧ m < 4294967296) : bits .xor .u32 IntKind.u32.max m = 4294967295 - m := by
  have e : IntKind.u32.max = 4294967295 := by decide
  rw [e, u32_xor 4294967295 m (by decide) (by decide) h.1 h.2]
  obtain ⟨M, rfl⟩ := Int.eq_ofNat_of_zero_le h.1
  have hM : M < 2 ^ 32 := by omega
  have h1 : (4294967295 : Nat) ^^^ M = 4294967295 - M := by
    have h2 := congrArg BitVec.toNat (BitVec.allOnes_xor (x := BitVec.ofNat 32 M))
    rw [BitVec.toNat_xor, BitVec.toNat_allOnes, BitVec.toNat_not, BitVec.toNat_ofNat, Nat.mod_eq_of_lt hM] at h2
    exact h2
  rw [show (4294967295 : Int).toNat = 4294967295 from rfl, Int.toNat_natCast, h1]
  omega
theorem mlen_lz : ∀ k, k < 33 → 32 - (Lib.bitLen (4294967295 - maskV k).toNat : Int) = k := by decide +kernel
/-- How long a mask is. -/
def RetMlen (w : World) (r : Option Nat) (e : Ending) (w' : World) : Prop := (match r with
  | some k => e = .returned (.tuple #[.int .i64 k, .nilIface])
  | none => e = .returned (.tuple #[.int .i64 0, errv 3])) ∧ w' = w
theorem RetMlen.some' {w : World} {r : Option Nat} {e : Ending} {w' : World} {k : Nat} (hr : r = some k) (h : e = .returned (.tuple #[.int .i64 k, .nilIface])) (hw : w' = w) : RetMlen w r e w' := by subst hr; exact ⟨h, hw⟩
theorem RetMlen.none' {w : World} {r : Option Nat} {e : Ending} {w' : World} (hr : r = none) (h : e = .returned (.tuple #[.int .i64 0, errv 3])) (hw : w' = w) : RetMlen w r e w' := by subst hr; exact ⟨h, hw⟩
set_option maxRecDepth 100000 in
set_option maxHeartbeats 1000000 in
theorem masklen_any (m : Int) (w : World) (hm : 0 ≤ m ∧ m < 4294967296) : Calls Try.prog 66 #[.int .u32 m] w (RetMlen w (mlenO m)) := by
  obtain ⟨R, hR⟩ : ∃ R, R = mlenO m := ⟨_, rfl⟩
  rw [← hR]
  have HR := Lib.hid hR
  have hl := Any.bitLen_le32 (4294967295 - m) (by omega) (by omega)
  obtain ⟨k, hk⟩ : ∃ k : Nat, 32 - (Lib.bitLen (4294967295 - m).toNat : Int) = k := ⟨32 - Lib.bitLen (4294967295 - m).toNat, by omega⟩
  have hk32 : k ≤ 32 := by omega
  have HK := Lib.hid hk
  have hx := xor_full hm
  clear hR hl hk
  go_enter Try.func66, Try.ntmps66
  go_wp2_with (fail)
  refine (lz32_any (4294967295 - m) _ (by omega) (by omega)).mono ?_
  rintro e1 w1 ⟨rfl, rfl⟩
  rw [HK.out]
  clear hx
  go_wp2_with (fail)
  refine (mask_ok k w1 hk32).mono ?_
  rintro e2 w2 ⟨rfl, rfl⟩
  by_cases hmk : maskV k = m
  · have HM := Lib.hid (show R = some k by rw [HR.out, ← hmk]; exact mlenO_mask k (by omega))
    have e1 : (maskV k != m) = false := by simp [hmk]
    clear hmk
    go_wp2
    go_ret2
    exact RetMlen.some' HM.out rfl rfl
  · have HM := Lib.hid (show R = none by
      rw [HR.out]
      cases ho : mlenO m with
      | none => rfl
      | some j =>
        obtain ⟨h1, h2⟩ := mlenO_some ho
        have h3 := mlen_lz j (by omega)
        rw [h2, HK.out] at h3
        have : k = j := by omega
        subst this
        exact absurd h2 hmk)
    have e1 : (maskV k != m) = true := by simp [hmk]
    clear hmk
    go_wp2
    go_ret2
    exact RetMlen.none' HM.out rfl rfl

/-! ### what is wrong with a message -/
theorem errO_eq (r : Option Int) : errO r = match r with | none => .nilIface | some k => errv k := by cases r <;> rfl
set_option maxRecDepth 100000 in
set_option maxHeartbeats 4000000 in
theorem wcheck_any {M : Nat} (ask : Bool) (l : List En) (al : Option Addr) (cl : Nat) (w : World) (hL : Recs w.heap al 5 En.cells l) (hw : ∀ e ∈ l, En.wf e) (hll : l.length ≤ 9223372036854775806) (hM : M = l.length) :
    Calls Try.prog 44 #[.agg #[.bool ask, .slice al M cl]] w (RetV w (errO (msgErr l))) := by
  subst hM
  obtain ⟨R, hR⟩ : ∃ R, R = msgErr l := ⟨_, rfl⟩
  rw [← hR]
  have HR := Lib.hid hR
  have HL := Lib.hid hL
  have HW := Lib.hid hw
  clear hR hL hw
  have hB := Blk.made w 75 [.bool ask, .slice al l.length cl]
  have b1 := hB.cell 1
  have bl := hB.lt
  have hF0 := (Fr.refl (fun _ => False) w).alloc (.cells #[.bool ask, .slice al l.length cl] 75)
  simp only [List.getElem?_cons_succ, List.getElem?_cons_zero] at b1
  clear hB
  go_enter Try.func44, Try.ntmps44
  by_cases h25 : 25 < l.length
  · have HX := Lib.hid (show R = some 4 by rw [HR.out]; unfold msgErr; rw [if_pos h25])
    go_wp2
    go_ret
    exact RetV.mk (show errv 4 = _ by rw [HX.out]; rfl) rfl hF0
  · have HX := Lib.hid (show R = entsErr l by rw [HR.out]; unfold msgErr; rw [if_neg h25])
    go_wp2
    go_loopw [14] (fun s14 wr => ∃ k : Nat, k ≤ l.length ∧ s14 = .int .i64 k ∧ Fr (fun _ => False) w wr ∧ Hid (R = entsErr (l.drop k))) (fun s _ => l.length - (intOf s).toNat)
    case atStart => exact ⟨0, by omega, rfl, hF0, Lib.hid HX.out⟩
    case round =>
      clear hF0 b1 bl
      obtain ⟨k, hk, rfl, hF, hE⟩ := hrel
      by_cases hkl : k < l.length
      · obtain ⟨g, o, rfl, hgl, hc⟩ := Recs.pos HL.out En.cells_len (by omega) (by omega)
        have dd := fun (j : Nat) (hj : j < 5) => (hF.cell (p := ⟨g, o + (k * 5 + j), none⟩) hgl (fun h => h)).trans (hc w rfl k j hkl hj)
        have d0 := dd 0 (by omega)
        have d1 := dd 1 (by omega)
        have d2 := dd 2 (by omega)
        have d3 := dd 3 (by omega)
        have d4 := dd 4 (by omega)
        have hx := HW.out _ (nth_mem l k hkl)
        have hD := drop_nth l k hkl
        generalize nth l k = x at *
        have hE1 : R = match entErr x with
          | some q => some q
          | none => entsErr (l.drop (k + 1)) := by rw [hE.out, hD]; rfl
        obtain ⟨xa, xn, xt, xp, xm⟩ := x
        simp only [En.cells, List.getElem?_cons_zero, List.getElem?_cons_succ, ← Nat.add_assoc, Nat.add_zero] at d0 d1 d2 d3 d4
        have HE1 := Lib.hid hE1
        have hFx := hF.alloc (.cells #[.int .u32 xa, .int .i64 xn, .int .i64 xt, .int .u32 xp, .int .i64 xm] 80)
        have hBx := Blk.made wr 80 [.int .u32 xa, .int .i64 xn, .int .i64 xt, .int .u32 xp, .int .i64 xm]
        have c0 := hBx.cell 0
        have c1 := hBx.cell 1
        have cl0 := hBx.lt
        simp only [List.getElem?_cons_succ, List.getElem?_cons_zero] at c0 c1
        have hgl' := Nat.lt_of_lt_of_le hgl hF.size
        clear dd hc hD hE1 hF
        go_wp2_with (fail)
        refine (pcheck_any xa xn _ hx.1).mono ?_
        rintro e1 w1 ⟨rfl, hF1⟩
        have hF01 := hFx.trans hF1
        have hB1 := hBx.fr hF1 (fun h => h)
        have c2 := hB1.cell 2
        have c4 := hB1.cell 4
        have cl1 := hB1.lt
        simp only [List.getElem?_cons_succ, List.getElem?_cons_zero] at c2 c4
        clear hFx hBx hF1 hB1 c0 c1 cl0 d0 d1 d2 d3 d4
        cases hne : netErr xa xn with
        | some q =>
          have HX2 := Lib.hid (show R = some q by rw [HE1.out]; unfold entErr; simp only [hne])
          rw [show errO (some q) = errv q from rfl]
          clear hne
          go_wp2
          go_ret
          exact RetV.mk (show errv q = _ by rw [HX2.out]; rfl) rfl hF01
        | none =>
          have HNE := Lib.hid hne
          rw [show errO none = .nilIface from rfl]
          clear hne
          by_cases hb : xt < 0 ∨ 65535 < xt ∨ xm < 1 ∨ 16 < xm
          · have HX2 := Lib.hid (show R = some 1 by rw [HE1.out]; unfold entErr; simp only [HNE.out]; rw [if_pos hb])
            have hb2 : xt < 0 ∨ (0 ≤ xt ∧ 65535 < xt) ∨ (0 ≤ xt ∧ xt ≤ 65535 ∧ xm < 1) ∨ (0 ≤ xt ∧ xt ≤ 65535 ∧ 1 ≤ xm ∧ 16 < xm) := by omega
            clear hb
            rcases hb2 with t1 | ⟨t1, t2⟩ | ⟨t1, t2, t3⟩ | ⟨t1, t2, t3, t4⟩
            all_goals
              go_wp2
              go_ret
              exact RetV.mk (show errv 1 = _ by rw [HX2.out]; rfl) rfl hF01
          · have HX2 := Lib.hid (show R = entsErr (l.drop (k + 1)) by rw [HE1.out]; unfold entErr; simp only [HNE.out]; rw [if_neg hb])
            obtain ⟨t1, t2, t3, t4⟩ : 0 ≤ xt ∧ xt ≤ 65535 ∧ 1 ≤ xm ∧ xm ≤ 16 := by omega
            clear hb
            go_wp2
            go_roundw
            case rel => exact ⟨k + 1, by omega, by go_num, hF01, HX2⟩
            case measure => simp [intOf]; omega
      · obtain rfl : k = l.length := by omega
        have HX2 := Lib.hid (show R = none by rw [hE.out, List.drop_length]; rfl)
        clear hE
        go_wp2
        go_ret
        exact RetV.mk (show Value.nilIface = _ by rw [HX2.out]; rfl) rfl hF

/-! ### numbers -/
theorem or_small {x c : Int} (h0 : 0 ≤ x) (h1 : x < 4294967296) (hx : x % 256 = 0) (c0 : 0 ≤ c) (c1 : c < 256) : bits .or .u32 x c = x + c := by
  rw [u32_or x c h0 h1 c0 (by omega)]
  obtain ⟨X, rfl⟩ := Int.eq_ofNat_of_zero_le h0
  obtain ⟨K, rfl⟩ := Int.eq_ofNat_of_zero_le c0
  have hd : X = (X / 256) <<< 8 := by rw [Nat.shiftLeft_eq]; omega
  have := Nat.shiftLeft_add_eq_or_of_lt (show K < 2 ^ 8 by omega) (X / 256)
  rw [← hd] at this
  simp only [Int.toNat_natCast]
  rw [← this]
  simp
theorem numB_snoc (l : List Int) (x : Int) : numB (l ++ [x]) = numB l * 256 % 4294967296 + x := by unfold numB; rw [List.foldl_append]; rfl
theorem numB_bd {l : List Int} (h : ∀ x ∈ l, 0 ≤ x ∧ x < 256) : 0 ≤ numB l ∧ numB l < 4294967296 := by
  have key : ∀ (l : List Int) (n : Int), (∀ x ∈ l, 0 ≤ x ∧ x < 256) → 0 ≤ n ∧ n < 4294967296 → 0 ≤ l.foldl (fun n c => n * 256 % 4294967296 + c) n ∧ l.foldl (fun n c => n * 256 % 4294967296 + c) n < 4294967296 := by
    intro l
    induction l with
    | nil => intro n _ hn; exact hn
    | cons x l ih =>
      intro n hl hn
      rw [List.foldl_cons]
      have := hl x (by simp)
      exact ih _ (fun y hy => hl y (by simp [hy])) (by omega)
  exact key l 0 h (by decide)
set_option maxRecDepth 100000 in
set_option maxHeartbeats 1000000 in
theorem number_any {M : Nat} (l : List Int) (a : Option Addr) (c : Nat) (w : World) (hL : Rd w.heap a M 1 (ivals .u8 l)) (hb : ∀ x ∈ l, 0 ≤ x ∧ x < 256) (hl : l.length ≤ 9223372036854775806) (hM : M = l.length) :
    Calls Try.prog 67 #[.slice a M c] w (RetQ w (.int .u32 (numB l))) := by
  subst hM
  have HB := Lib.hid hb
  clear hb
  go_enter Try.func67, Try.ntmps67
  go_wp2
  go_loopw [8, 3] (fun s8 s3 wr => ∃ (k : Nat) (n : Int), k ≤ l.length ∧ s8 = .int .i64 k ∧ s3 = .int .u32 n ∧ wr = w ∧ Hid (n = numB (l.take k)) ∧ 0 ≤ n ∧ n < 4294967296) (fun s _ _ => l.length - (intOf s).toNat)
  case atStart => exact ⟨0, 0, by omega, rfl, rfl, rfl, Lib.hid rfl, by omega, by omega⟩
  case round =>
    obtain ⟨k, n, hk, rfl, rfl, rfl, hE, n0, n1⟩ := hrel
    by_cases hkl : k < l.length
    · obtain ⟨g, o, rfl, hgl, hc⟩ := Ints.pos hL (by omega)
      have d0 := hc wr rfl k hkl
      have hx := HB.out _ (nth_mem l k hkl)
      have hT : numB (l.take (k + 1)) = n * 256 % 4294967296 + nth l k := by rw [take_succ_nth l k hkl, numB_snoc, hE.out]
      have hbd := numB_bd (l := l.take (k + 1)) (fun x hx => HB.out x (List.mem_of_mem_take hx))
      rw [hT] at hbd
      generalize nth l k = x at *
      have HT := Lib.hid hT
      have ho := or_small (x := n * 256 % 4294967296) (c := x) (by omega) (by omega) (by omega) hx.1 hx.2
      clear hc hT
      go_wp2
      go_roundw
      case rel => exact ⟨k + 1, n * 256 % 4294967296 + x, by omega, by go_num, (by first | rfl | trivial), (by first | rfl | trivial), Lib.hid HT.out.symm, hbd.1, hbd.2⟩
      case measure => simp [intOf]; omega
    · obtain rfl : k = l.length := by omega
      rw [List.take_length] at hE
      go_wp2
      go_ret
      exact RetQ.mk (x := .int .u32 n) (by rw [hE.out]) rfl 0 rfl
end Go.Proofs.Ytgfbkebbnfcgkaa
end

section
namespace Go.Proofs.Ytgfbkebbnfcgkaa
open Go.RowKit
/-- Bytes put behind others. -/
def RetPut (w : World) (xs : List Int) (ys : List Int) (N : Nat) (ob : Option Nat) (e : Ending) (w' : World) : Prop :=
  ∃ a c ob', e = .returned (.slice a N c) ∧ Ownd w'.heap 5 1 a N c (ivals .u8 (xs ++ ys)) ob' ∧ Fr (fun k => ob = some k) w w' ∧ (ob' = ob ∨ ∃ g, ob' = some g ∧ w.heap.size ≤ g)
theorem ivals_app (k : IntKind) (a b : List Int) : ivals k a ++ ivals k b = ivals k (a ++ b) := by simp [ivals]
theorem ivals_u8_one (k : IntKind) (l : List Int) : ∀ u ∈ ivals k l, u.oneCell' = true := ivals_one k l

set_option maxRecDepth 100000 in
set_option maxHeartbeats 4000000 in
theorem put2_any {M : Nat} {a : Option Addr} {c : Nat} {ob : Option Nat} (xs : List Int) (n : Int) (w : World) (hO : Ownd w.heap 5 1 a M c (ivals .u8 xs) ob) (hn : 0 ≤ n ∧ n < 4294967296) (hM : M ≤ 1000000) :
    Calls Try.prog 45 #[.slice a M c, .int .u32 n, .int .i64 2] w (RetPut w xs (beB n 2) (M + 2) ob) := by
  go_enter Try.func45, Try.ntmps45
  go_wp2
  go_loopw [7, 0] (fun s7 s0 wr => ∃ (s : Int) (i : Nat) (a' : Option Addr) (c' : Nat) (ob' : Option Nat), s7 = .int .i64 s ∧ ((s = 8 ∧ i = 0) ∨ (s = 0 ∧ i = 1) ∨ (s = -8 ∧ i = 2)) ∧ s0 = .slice a' (M + i) c' ∧ Ownd wr.heap 5 1 a' (M + i) c' (ivals .u8 (xs ++ (beB n 2).take i)) ob' ∧ Fr (fun k => ob = some k) w wr ∧ (ob' = ob ∨ ∃ g, ob' = some g ∧ w.heap.size ≤ g)) (fun s _ _ => (intOf s + 8).toNat)
  case atStart => exact ⟨8, 0, a, c, ob, rfl, by omega, rfl, by simpa using hO, Fr.refl _ _, .inl rfl⟩
  case round =>
    obtain ⟨s, i, a', c', ob', rfl, hs, rfl, hO1, hF, hob⟩ := hrel
    have hwsz := hF.size
    rcases hs with ⟨rfl, rfl⟩ | ⟨rfl, rfl⟩ | ⟨rfl, rfl⟩
    · have hv : n / 2 ^ (8 * 1) % 256 = n / 256 % 256 := by
        rw [show (2 : Int) ^ (8 * 1) = 256 by decide]
        try omega
      obtain ⟨zs, hzs⟩ : ∃ zs, zs = xs ++ (beB n 2).take 0 := ⟨_, rfl⟩
      obtain ⟨N, hN⟩ : ∃ N, N = M + 0 := ⟨_, rfl⟩
      rw [← hzs, ← hN] at hO1
      rw [← hN]
      have hN1 : N ≤ 1000004 := by omega
      have HE := Lib.hid (show ivals .u8 (xs ++ (beB n 2).take (0 + 1)) = ivals .u8 zs ++ [.int .u8 (n / 256 % 256)] by
        rw [show (beB n 2).take (0 + 1) = (beB n 2).take 0 ++ [n / 2 ^ (8 * 1) % 256] from rfl, hv, hzs]
        simp [ivals])
      have HN := Lib.hid hN
      have hrd := rd_lit wr 5 [.int .u8 (n / 256 % 256)]
      have hOa := hO1.alloc (.cells #[.int .u8 (n / 256 % 256)] 5)
      have hFa := hF.alloc (.cells #[.int .u8 (n / 256 % 256)] 5)
      clear hv hzs hN
      go_wp2_with (at_builtin; refine wpList_app rfl _ _ 44 rfl Try.underlying44 infoU8 rfl (by decide) rfl rfl hOa hrd (by simp [Value.oneCell']) (by omega) (by omega) ?_)
      intro a8 c8 w8 ob8 v1 v2 v3
      have hF8 : Fr (fun k => ob = some k) w w8 := hFa.trans' v2 (fun i hi e => by
        rcases hob with h | ⟨g, h, h2⟩
        · rw [← h]; exact e
        · rw [h] at e; cases e; omega)
      have hsa : (wr.alloc (.cells #[.int .u8 (n / 256 % 256)] 5)).heap.size = wr.heap.size + 1 := by simp
      have hob8 : ob8 = ob ∨ ∃ g, ob8 = some g ∧ w.heap.size ≤ g := by
        rcases v3 with h | ⟨g, h, h2⟩
        · rw [h]; exact hob
        · exact .inr ⟨g, h, by omega⟩
      have v1' : Ownd w8.heap 5 1 a8 (M + (0 + 1)) c8 (ivals .u8 (xs ++ (beB n 2).take (0 + 1))) ob8 := by
        rw [HE.out, show M + (0 + 1) = N + 1 by have := HN.out; omega]; exact v1
      clear v1 v2 v3 hOa hrd hFa hO1 hF hob
      go_wp2
      go_roundw
      case rel => exact ⟨0, 0 + 1, a8, c8, ob8, by go_num, by omega, by rw [show M + (0 + 1) = N + 1 by have := HN.out; omega], v1', hF8, hob8⟩
      case measure => simp [intOf]
    · have hv : n / 2 ^ (8 * 0) % 256 = n % 256 := by
        rw [show (2 : Int) ^ (8 * 0) = 1 by decide]
        try omega
      obtain ⟨zs, hzs⟩ : ∃ zs, zs = xs ++ (beB n 2).take 1 := ⟨_, rfl⟩
      obtain ⟨N, hN⟩ : ∃ N, N = M + 1 := ⟨_, rfl⟩
      rw [← hzs, ← hN] at hO1
      rw [← hN]
      have hN1 : N ≤ 1000004 := by omega
      have HE := Lib.hid (show ivals .u8 (xs ++ (beB n 2).take (1 + 1)) = ivals .u8 zs ++ [.int .u8 (n % 256)] by
        rw [show (beB n 2).take (1 + 1) = (beB n 2).take 1 ++ [n / 2 ^ (8 * 0) % 256] from rfl, hv, hzs]
        simp [ivals])
      have HN := Lib.hid hN
      have hrd := rd_lit wr 5 [.int .u8 (n % 256)]
      have hOa := hO1.alloc (.cells #[.int .u8 (n % 256)] 5)
      have hFa := hF.alloc (.cells #[.int .u8 (n % 256)] 5)
      clear hv hzs hN
      go_wp2_with (at_builtin; refine wpList_app rfl _ _ 44 rfl Try.underlying44 infoU8 rfl (by decide) rfl rfl hOa hrd (by simp [Value.oneCell']) (by omega) (by omega) ?_)
      intro a8 c8 w8 ob8 v1 v2 v3
      have hF8 : Fr (fun k => ob = some k) w w8 := hFa.trans' v2 (fun i hi e => by
        rcases hob with h | ⟨g, h, h2⟩
        · rw [← h]; exact e
        · rw [h] at e; cases e; omega)
      have hsa : (wr.alloc (.cells #[.int .u8 (n % 256)] 5)).heap.size = wr.heap.size + 1 := by simp
      have hob8 : ob8 = ob ∨ ∃ g, ob8 = some g ∧ w.heap.size ≤ g := by
        rcases v3 with h | ⟨g, h, h2⟩
        · rw [h]; exact hob
        · exact .inr ⟨g, h, by omega⟩
      have v1' : Ownd w8.heap 5 1 a8 (M + (1 + 1)) c8 (ivals .u8 (xs ++ (beB n 2).take (1 + 1))) ob8 := by
        rw [HE.out, show M + (1 + 1) = N + 1 by have := HN.out; omega]; exact v1
      clear v1 v2 v3 hOa hrd hFa hO1 hF hob
      go_wp2
      go_roundw
      case rel => exact ⟨-8, 1 + 1, a8, c8, ob8, by go_num, by omega, by rw [show M + (1 + 1) = N + 1 by have := HN.out; omega], v1', hF8, hob8⟩
      case measure => simp [intOf]
    · go_wp2
      go_ret
      exact ⟨a', c', ob', rfl, hO1, hF, hob⟩

set_option maxRecDepth 100000 in
set_option maxHeartbeats 4000000 in
theorem put4_any {M : Nat} {a : Option Addr} {c : Nat} {ob : Option Nat} (xs : List Int) (n : Int) (w : World) (hO : Ownd w.heap 5 1 a M c (ivals .u8 xs) ob) (hn : 0 ≤ n ∧ n < 4294967296) (hM : M ≤ 1000000) :
    Calls Try.prog 45 #[.slice a M c, .int .u32 n, .int .i64 4] w (RetPut w xs (beB n 4) (M + 4) ob) := by
  go_enter Try.func45, Try.ntmps45
  go_wp2
  go_loopw [7, 0] (fun s7 s0 wr => ∃ (s : Int) (i : Nat) (a' : Option Addr) (c' : Nat) (ob' : Option Nat), s7 = .int .i64 s ∧ ((s = 24 ∧ i = 0) ∨ (s = 16 ∧ i = 1) ∨ (s = 8 ∧ i = 2) ∨ (s = 0 ∧ i = 3) ∨ (s = -8 ∧ i = 4)) ∧ s0 = .slice a' (M + i) c' ∧ Ownd wr.heap 5 1 a' (M + i) c' (ivals .u8 (xs ++ (beB n 4).take i)) ob' ∧ Fr (fun k => ob = some k) w wr ∧ (ob' = ob ∨ ∃ g, ob' = some g ∧ w.heap.size ≤ g)) (fun s _ _ => (intOf s + 8).toNat)
  case atStart => exact ⟨24, 0, a, c, ob, rfl, by omega, rfl, by simpa using hO, Fr.refl _ _, .inl rfl⟩
  case round =>
    obtain ⟨s, i, a', c', ob', rfl, hs, rfl, hO1, hF, hob⟩ := hrel
    have hwsz := hF.size
    rcases hs with ⟨rfl, rfl⟩ | ⟨rfl, rfl⟩ | ⟨rfl, rfl⟩ | ⟨rfl, rfl⟩ | ⟨rfl, rfl⟩
    · have hv : n / 2 ^ (8 * 3) % 256 = n / 16777216 := by
        rw [show (2 : Int) ^ (8 * 3) = 16777216 by decide]
        try omega
      obtain ⟨zs, hzs⟩ : ∃ zs, zs = xs ++ (beB n 4).take 0 := ⟨_, rfl⟩
      obtain ⟨N, hN⟩ : ∃ N, N = M + 0 := ⟨_, rfl⟩
      rw [← hzs, ← hN] at hO1
      rw [← hN]
      have hN1 : N ≤ 1000004 := by omega
      have HE := Lib.hid (show ivals .u8 (xs ++ (beB n 4).take (0 + 1)) = ivals .u8 zs ++ [.int .u8 (n / 16777216)] by
        rw [show (beB n 4).take (0 + 1) = (beB n 4).take 0 ++ [n / 2 ^ (8 * 3) % 256] from rfl, hv, hzs]
        simp [ivals])
      have HN := Lib.hid hN
      have hrd := rd_lit wr 5 [.int .u8 (n / 16777216)]
      have hOa := hO1.alloc (.cells #[.int .u8 (n / 16777216)] 5)
      have hFa := hF.alloc (.cells #[.int .u8 (n / 16777216)] 5)
      clear hv hzs hN
      go_wp2_with (at_builtin; refine wpList_app rfl _ _ 44 rfl Try.underlying44 infoU8 rfl (by decide) rfl rfl hOa hrd (by simp [Value.oneCell']) (by omega) (by omega) ?_)
      intro a8 c8 w8 ob8 v1 v2 v3
      have hF8 : Fr (fun k => ob = some k) w w8 := hFa.trans' v2 (fun i hi e => by
        rcases hob with h | ⟨g, h, h2⟩
        · rw [← h]; exact e
        · rw [h] at e; cases e; omega)
      have hsa : (wr.alloc (.cells #[.int .u8 (n / 16777216)] 5)).heap.size = wr.heap.size + 1 := by simp
      have hob8 : ob8 = ob ∨ ∃ g, ob8 = some g ∧ w.heap.size ≤ g := by
        rcases v3 with h | ⟨g, h, h2⟩
        · rw [h]; exact hob
        · exact .inr ⟨g, h, by omega⟩
      have v1' : Ownd w8.heap 5 1 a8 (M + (0 + 1)) c8 (ivals .u8 (xs ++ (beB n 4).take (0 + 1))) ob8 := by
        rw [HE.out, show M + (0 + 1) = N + 1 by have := HN.out; omega]; exact v1
      clear v1 v2 v3 hOa hrd hFa hO1 hF hob
      go_wp2
      go_roundw
      case rel => exact ⟨16, 0 + 1, a8, c8, ob8, by go_num, by omega, by rw [show M + (0 + 1) = N + 1 by have := HN.out; omega], v1', hF8, hob8⟩
      case measure => simp [intOf]
    · have hv : n / 2 ^ (8 * 2) % 256 = n / 65536 % 256 := by
        rw [show (2 : Int) ^ (8 * 2) = 65536 by decide]
        try omega
      obtain ⟨zs, hzs⟩ : ∃ zs, zs = xs ++ (beB n 4).take 1 := ⟨_, rfl⟩
      obtain ⟨N, hN⟩ : ∃ N, N = M + 1 := ⟨_, rfl⟩
      rw [← hzs, ← hN] at hO1
      rw [← hN]
      have hN1 : N ≤ 1000004 := by omega
      have HE := Lib.hid (show ivals .u8 (xs ++ (beB n 4).take (1 + 1)) = ivals .u8 zs ++ [.int .u8 (n / 65536 % 256)] by
        rw [show (beB n 4).take (1 + 1) = (beB n 4).take 1 ++ [n / 2 ^ (8 * 2) % 256] from rfl, hv, hzs]
        simp [ivals])
      have HN := Lib.hid hN
      have hrd := rd_lit wr 5 [.int .u8 (n / 65536 % 256)]
      have hOa := hO1.alloc (.cells #[.int .u8 (n / 65536 % 256)] 5)
      have hFa := hF.alloc (.cells #[.int .u8 (n / 65536 % 256)] 5)
      clear hv hzs hN
      go_wp2_with (at_builtin; refine wpList_app rfl _ _ 44 rfl Try.underlying44 infoU8 rfl (by decide) rfl rfl hOa hrd (by simp [Value.oneCell']) (by omega) (by omega) ?_)
      intro a8 c8 w8 ob8 v1 v2 v3
      have hF8 : Fr (fun k => ob = some k) w w8 := hFa.trans' v2 (fun i hi e => by
        rcases hob with h | ⟨g, h, h2⟩
        · rw [← h]; exact e
        · rw [h] at e; cases e; omega)
      have hsa : (wr.alloc (.cells #[.int .u8 (n / 65536 % 256)] 5)).heap.size = wr.heap.size + 1 := by simp
      have hob8 : ob8 = ob ∨ ∃ g, ob8 = some g ∧ w.heap.size ≤ g := by
        rcases v3 with h | ⟨g, h, h2⟩
        · rw [h]; exact hob
        · exact .inr ⟨g, h, by omega⟩
      have v1' : Ownd w8.heap 5 1 a8 (M + (1 + 1)) c8 (ivals .u8 (xs ++ (beB n 4).take (1 + 1))) ob8 := by
        rw [HE.out, show M + (1 + 1) = N + 1 by have := HN.out; omega]; exact v1
      clear v1 v2 v3 hOa hrd hFa hO1 hF hob
      go_wp2
      go_roundw
      case rel => exact ⟨8, 1 + 1, a8, c8, ob8, by go_num, by omega, by rw [show M + (1 + 1) = N + 1 by have := HN.out; omega], v1', hF8, hob8⟩
      case measure => simp [intOf]
    · have hv : n / 2 ^ (8 * 1) % 256 = n / 256 % 256 := by
        rw [show (2 : Int) ^ (8 * 1) = 256 by decide]
        try omega
      obtain ⟨zs, hzs⟩ : ∃ zs, zs = xs ++ (beB n 4).take 2 := ⟨_, rfl⟩
      obtain ⟨N, hN⟩ : ∃ N, N = M + 2 := ⟨_, rfl⟩
      rw [← hzs, ← hN] at hO1
      rw [← hN]
      have hN1 : N ≤ 1000004 := by omega
      have HE := Lib.hid (show ivals .u8 (xs ++ (beB n 4).take (2 + 1)) = ivals .u8 zs ++ [.int .u8 (n / 256 % 256)] by
        rw [show (beB n 4).take (2 + 1) = (beB n 4).take 2 ++ [n / 2 ^ (8 * 1) % 256] from rfl, hv, hzs]
        simp [ivals])
      have HN := Lib.hid hN
      have hrd := rd_lit wr 5 [.int .u8 (n / 256 % 256)]
      have hOa := hO1.alloc (.cells #[.int .u8 (n / 256 % 256)] 5)
      have hFa := hF.alloc (.cells #[.int .u8 (n / 256 % 256)] 5)
      clear hv hzs hN
      go_wp2_with (at_builtin; refine wpList_app rfl _ _ 44 rfl Try.underlying44 infoU8 rfl (by decide) rfl rfl hOa hrd (by simp [Value.oneCell']) (by omega) (by omega) ?_)
      intro a8 c8 w8 ob8 v1 v2 v3
      have hF8 : Fr (fun k => ob = some k) w w8 := hFa.trans' v2 (fun i hi e => by
        rcases hob with h | ⟨g, h, h2⟩
        · rw [← h]; exact e
        · rw [h] at e; cases e; omega)
      have hsa : (wr.alloc (.cells #[.int .u8 (n / 256 % 256)] 5)).heap.size = wr.heap.size + 1 := by simp
      have hob8 : ob8 = ob ∨ ∃ g, ob8 = some g ∧ w.heap.size ≤ g := by
        rcases v3 with h | ⟨g, h, h2⟩
        · rw [h]; exact hob
        · exact .inr ⟨g, h, by omega⟩
      have v1' : Ownd w8.heap 5 1 a8 (M + (2 + 1)) c8 (ivals .u8 (xs ++ (beB n 4).take (2 + 1))) ob8 := by
        rw [HE.out, show M + (2 + 1) = N + 1 by have := HN.out; omega]; exact v1
      clear v1 v2 v3 hOa hrd hFa hO1 hF hob
      go_wp2
      go_roundw
      case rel => exact ⟨0, 2 + 1, a8, c8, ob8, by go_num, by omega, by rw [show M + (2 + 1) = N + 1 by have := HN.out; omega], v1', hF8, hob8⟩
      case measure => simp [intOf]
    · have hv : n / 2 ^ (8 * 0) % 256 = n % 256 := by
        rw [show (2 : Int) ^ (8 * 0) = 1 by decide]
        try omega
      obtain ⟨zs, hzs⟩ : ∃ zs, zs = xs ++ (beB n 4).take 3 := ⟨_, rfl⟩
      obtain ⟨N, hN⟩ : ∃ N, N = M + 3 := ⟨_, rfl⟩
      rw [← hzs, ← hN] at hO1
      rw [← hN]
      have hN1 : N ≤ 1000004 := by omega
      have HE := Lib.hid (show ivals .u8 (xs ++ (beB n 4).take (3 + 1)) = ivals .u8 zs ++ [.int .u8 (n % 256)] by
        rw [show (beB n 4).take (3 + 1) = (beB n 4).take 3 ++ [n / 2 ^ (8 * 0) % 256] from rfl, hv, hzs]
        simp [ivals])
      have HN := Lib.hid hN
      have hrd := rd_lit wr 5 [.int .u8 (n % 256)]
      have hOa := hO1.alloc (.cells #[.int .u8 (n % 256)] 5)
      have hFa := hF.alloc (.cells #[.int .u8 (n % 256)] 5)
      clear hv hzs hN
      go_wp2_with (at_builtin; refine wpList_app rfl _ _ 44 rfl Try.underlying44 infoU8 rfl (by decide) rfl rfl hOa hrd (by simp [Value.oneCell']) (by omega) (by omega) ?_)
      intro a8 c8 w8 ob8 v1 v2 v3
      have hF8 : Fr (fun k => ob = some k) w w8 := hFa.trans' v2 (fun i hi e => by
        rcases hob with h | ⟨g, h, h2⟩
        · rw [← h]; exact e
        · rw [h] at e; cases e; omega)
      have hsa : (wr.alloc (.cells #[.int .u8 (n % 256)] 5)).heap.size = wr.heap.size + 1 := by simp
      have hob8 : ob8 = ob ∨ ∃ g, ob8 = some g ∧ w.heap.size ≤ g := by
        rcases v3 with h | ⟨g, h, h2⟩
        · rw [h]; exact hob
        · exact .inr ⟨g, h, by omega⟩
      have v1' : Ownd w8.heap 5 1 a8 (M + (3 + 1)) c8 (ivals .u8 (xs ++ (beB n 4).take (3 + 1))) ob8 := by
        rw [HE.out, show M + (3 + 1) = N + 1 by have := HN.out; omega]; exact v1
      clear v1 v2 v3 hOa hrd hFa hO1 hF hob
      go_wp2
      go_roundw
      case rel => exact ⟨-8, 3 + 1, a8, c8, ob8, by go_num, by omega, by rw [show M + (3 + 1) = N + 1 by have := HN.out; omega], v1', hF8, hob8⟩
      case measure => simp [intOf]
    · go_wp2
      go_ret
      exact ⟨a', c', ob', rfl, hO1, hF, hob⟩
end Go.Proofs.Ytgfbkebbnfcgkaa
end
