import Derived.Test.YtgfbkebbnfcgkaaErr
import Derived.Test.YtgfbkebbnfcgkaaRibMath
import Derived.Laws.BitsAll
import Derived.Laws.ShiftsVar
namespace Go.Proofs.Ytgfbkebbnfcgkaa
open Go.RowKit

def maskV (n : Nat) : Int := 4294967295 * 2 ^ (32 - n) % 4294967296
theorem maskV_eq : ∀ n, n < 33 → maskV n = 4294967296 - 2 ^ (32 - n) := by decide +kernel
theorem pow_le32 : ∀ n, n < 33 → (1 : Int) ≤ 2 ^ (32 - n) ∧ (2 : Int) ^ (32 - n) ≤ 4294967296 := by decide +kernel
theorem maskV_not (a : Int) (n : Nat) (ha : 0 ≤ a ∧ a < 4294967296) (hn : n ≤ 32) : bits .andNot .u32 a (maskV n) = a % 2 ^ (32 - n) := by
  have h1 := maskV_eq n (by omega)
  have h2 := pow_le32 n (by omega)
  rw [u32_andNot a _ ha.1 ha.2 (by omega) (by omega), h1]
  obtain ⟨A, rfl⟩ := Int.eq_ofNat_of_zero_le ha.1
  have e : 4294967295 - (4294967296 - (2 : Int) ^ (32 - n)).toNat = 2 ^ (32 - n) - 1 := by
    have : ((2 ^ (32 - n) : Nat) : Int) = (2 : Int) ^ (32 - n) := by simp
    omega
  rw [e, Int.toNat_natCast, Nat.and_two_pow_sub_one_eq_mod]
  simp

set_option maxRecDepth 100000 in
set_option maxHeartbeats 1000000 in
theorem mask_ok (n : Nat) (w : World) (hn : n ≤ 32) : Calls Try.prog 35 #[.int .i64 n] w (fun e w' => e = .returned (.tuple #[.int .u32 (maskV n), .nilIface]) ∧ w = w') := by
  go_enter Try.func35, Try.ntmps35
  go_wp2
  go_ret2
  exact ⟨rfl, rfl⟩
set_option maxRecDepth 100000 in
set_option maxHeartbeats 1000000 in
theorem mask_bad (n : Int) (w : World) (hn : n < 0 ∨ 32 < n) : Calls Try.prog 35 #[.int .i64 n] w (fun e w' => e = .returned (.tuple #[.int .u32 0, errv 1]) ∧ w = w') := by
  go_enter Try.func35, Try.ntmps35
  go_wp2
  all_goals go_ret2
  all_goals exact ⟨rfl, rfl⟩

set_option maxRecDepth 100000 in
set_option maxHeartbeats 1000000 in
theorem pcheck_any (a n : Int) (w : World) (ha : 0 ≤ a ∧ a < 4294967296) : Calls Try.prog 15 #[.agg #[.int .u32 a, .int .i64 n]] w (RetV w (errO (netErr a n))) := by
  go_enter Try.func15, Try.ntmps15
  by_cases hn : n < 0 ∨ 32 < n
  · have hX := Lib.hid (show netErr a n = some 1 from if_pos hn)
    go_wp2_with (go_at_call 35; refine (mask_bad n _ hn).mono ?_; rintro e w' ⟨rfl, rfl⟩)
    go_ret
    exact RetV.mk (x := errv 1) (by rw [hX.out]; rfl) rfl ((Fr.refl _ _).alloc _)
  · obtain ⟨k, rfl⟩ := Int.eq_ofNat_of_zero_le (show 0 ≤ n by omega)
    have hk : k ≤ 32 := by omega
    have hE : netErr a k = if a % 2 ^ (32 - k) ≠ 0 then some 3 else none := by
      unfold netErr
      rw [if_neg hn, show (32 - (k : Int)).toNat = 32 - k by omega]
    have HM := Lib.hid (maskV_not a k ha hk)
    by_cases hz : a % 2 ^ (32 - k) = 0
    · have hX := Lib.hid (show netErr a k = none by rw [hE, if_neg (by simpa using hz)])
      have hb : (bits .andNot .u32 a (maskV k) != 0) = false := by rw [HM.out, hz]; rfl
      clear hE hz
      go_wp2_with (go_at_call 35; refine (mask_ok k _ hk).mono ?_; rintro e w' ⟨rfl, rfl⟩)
      go_ret
      exact RetV.mk (x := .nilIface) (by rw [hX.out]; rfl) rfl ((Fr.refl _ _).alloc _)
    · have hX := Lib.hid (show netErr a k = some 3 by rw [hE, if_pos hz])
      have hb : (bits .andNot .u32 a (maskV k) != 0) = true := by rw [HM.out]; simpa using hz
      clear hE hz
      go_wp2_with (go_at_call 35; refine (mask_ok k _ hk).mono ?_; rintro e w' ⟨rfl, rfl⟩)
      go_ret
      exact RetV.mk (x := errv 3) (by rw [hX.out]; rfl) rfl ((Fr.refl _ _).alloc _)

/-- Two nets: which one is first? -/
def lessB (a n a' n' : Int) : Bool := decide (netLess a n a' n')
set_option maxRecDepth 100000 in
set_option maxHeartbeats 1000000 in
theorem less_any (a n a' n' : Int) (w : World) : Calls Try.prog 64 #[.agg #[.int .u32 a, .int .i64 n], .agg #[.int .u32 a', .int .i64 n']] w (RetV w (.bool (lessB a n a' n'))) := by
  go_enter Try.func64, Try.ntmps64
  by_cases h1 : a < a'
  · have hX := Lib.hid (show lessB a n a' n' = true from decide_eq_true (.inl h1))
    have hd : decide (a < a') = true := decide_eq_true h1
    clear h1
    go_wp2
    go_ret
    exact RetV.mk (x := .bool true) (by rw [hX.out]) rfl (((Fr.refl _ _).alloc _).alloc _)
  · have hd : decide (a < a') = false := decide_eq_false h1
    by_cases h2 : a = a'
    · have hX := Lib.hid (show lessB a n a' n' = decide (n < n') by unfold lessB netLess; simp [h2])
      have he : (a == a') = true := by simp [h2]
      clear h1 h2
      go_wp2
      go_ret
      exact RetV.mk (x := .bool (decide (n < n'))) (by rw [hX.out]) rfl (((Fr.refl _ _).alloc _).alloc _)
    · have hX := Lib.hid (show lessB a n a' n' = false by unfold lessB netLess; simp [h1, h2])
      have he : (a == a') = false := by simp [h2]
      clear h1 h2
      go_wp2
      go_ret
      exact RetV.mk (x := .bool false) (by rw [hX.out]) rfl (((Fr.refl _ _).alloc _).alloc _)
end Go.Proofs.Ytgfbkebbnfcgkaa
