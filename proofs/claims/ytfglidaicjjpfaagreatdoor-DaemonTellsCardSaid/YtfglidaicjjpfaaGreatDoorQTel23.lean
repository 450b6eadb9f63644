import Derived.Test.YtfglidaicjjpfaaGreatDoorQTel22
import Derived.Test.YtfglidaicjjpfaaGreatDoorQTel1
section
namespace Go.Proofs.YtfglidaicjjpfaaGreatDoor
open Go.RowKit

theorem maskV_or : ∀ k, k < 32 → bits .or .u32 (maskV k) (2 ^ (31 - k) % 4294967296) = maskV (k + 1) := by decide +kernel
set_option maxRecDepth 100000 in
set_option maxHeartbeats 1000000 in
theorem maskOf_any (n : Nat) (w : World) (hn : n ≤ 32) : Calls Tryz.prog 50 #[.int .i64 n] w (fun e w' => e = .returned (.int .u32 (maskV n)) ∧ w' = w) := by
  go_enter Tryz.func50, Tryz.ntmps50
  go_wp2
  go_loopw [4, 3] (fun s4 s3 wr => ∃ k : Nat, k ≤ n ∧ s4 = .int .i64 k ∧ s3 = .int .u32 (maskV k) ∧ wr = w) (fun s _ _ => n - (intOf s).toNat)
  case atStart => exact ⟨0, by omega, rfl, rfl, rfl⟩
  case round =>
    obtain ⟨k, hk, rfl, rfl, rfl⟩ := hrel
    by_cases hkn : k < n
    · have HO := Lib.hid (maskV_or k (by omega))
      go_wp2_with (fail)
      exact ⟨⟨k + 1, by omega, by go_num, by rw [HO.out], trivial⟩, by simp [intOf]; omega⟩
    · obtain rfl : k = n := by omega
      go_wp2
      go_ret
      exact ⟨rfl, rfl⟩
/-- An error's number; 0: there is none. -/
def numO : Option Int → Int
  | none => 0
  | some k => k
theorem netErr_pos {a n k : Int} (h : netErr a n = some k) : k ≠ 0 := by
  unfold netErr at h
  split at h
  · cases h; decide
  · split at h
    · cases h; decide
    · cases h
set_option maxRecDepth 100000 in
set_option maxHeartbeats 1000000 in
theorem netFault_any (a n : Int) (w : World) (ha : 0 ≤ a ∧ a < 4294967296) : Calls Tryz.prog 16 #[.agg #[.int .u32 a, .int .i64 n]] w (RetV w (.int .i64 (numO (netErr a n)))) := by
  go_enter Tryz.func16, Tryz.ntmps16
  by_cases hn : n < 0 ∨ 32 < n
  · have hX := Lib.hid (show netErr a n = some 1 from if_pos hn)
    go_wp2
    all_goals go_ret
    all_goals exact RetV.mk (x := .int .i64 1) (by rw [hX.out]; rfl) rfl ((Fr.refl _ _).alloc _)
  · obtain ⟨k, rfl⟩ := Int.eq_ofNat_of_zero_le (show 0 ≤ n by omega)
    have hk : k ≤ 32 := by omega
    have hE : netErr a k = if a % 2 ^ (32 - k) ≠ 0 then some 3 else none := by
      unfold netErr
      rw [if_neg hn, show (32 - (k : Int)).toNat = 32 - k by omega]
    have HM := Lib.hid (maskV_and a k ha hk)
    have hb0 := Blk.made w 52 [.int .u32 a, .int .i64 k]
    have e0 := hb0.cell 0
    have e1 := hb0.cell 1
    simp only [List.getElem?_cons_zero, List.getElem?_cons_succ] at e0 e1
    have hC : ∀ n, Calls Tryz.prog 50 #[.int .i64 k] ((w.alloc (.cells #[.int .u32 a, .int .i64 k] 52)).drewN n) fun e w'' => e = .returned (.int .u32 (maskV k)) ∧ ∃ m, w'' = (w.alloc (.cells #[.int .u32 a, .int .i64 k] 52)).drewN m := fun n =>
      (maskOf_any k _ hk).mono (fun e w' h => ⟨h.1, n, h.2⟩)
    have hcut : (cutA a k != a) = decide (a % 2 ^ (32 - k) ≠ 0) := by
      unfold cutA
      by_cases hz : a % 2 ^ (32 - k) = 0
      · simp [hz]
      · simp only [ne_eq, hz, not_false_eq_true, decide_true, bne_iff_ne]
        omega
    by_cases hz : a % 2 ^ (32 - k) = 0
    · have hX := Lib.hid (show netErr a k = none by rw [hE, if_neg (by simpa using hz)])
      have hb : (bits .and .u32 a (maskV k) != a) = false := by rw [HM.out, hcut]; simpa using hz
      clear hE hz hcut
      go_wp2
      go_quiet (first | (go_at_call 50; exact hC _))
      go_wp2
      go_ret
      exact RetV.mk (x := .int .i64 0) (by rw [hX.out]; rfl) rfl (((Fr.refl _ _).alloc _).drewN _)
    · have hX := Lib.hid (show netErr a k = some 3 by rw [hE, if_pos hz])
      have hb : (bits .and .u32 a (maskV k) != a) = true := by rw [HM.out, hcut]; simpa using hz
      clear hE hz hcut
      go_wp2
      go_quiet (first | (go_at_call 50; exact hC _))
      go_wp2
      go_ret
      exact RetV.mk (x := .int .i64 3) (by rw [hX.out]; rfl) rfl (((Fr.refl _ _).alloc _).drewN _)

/-- Where a net is in a list: from below 0 (nowhere) on; in a list of whatever length. -/
def PlacesB (w : World) (l : List Nt) (x : Nt) (e : Ending) (w' : World) : Prop := ∃ p : Int, e = .returned (.int .i64 p) ∧ Fr (fun _ => False) w w' ∧ decide (p ≥ 0) = decide (x ∈ l) ∧ decide (p < 0) = !(decide (x ∈ l)) ∧ -1 ≤ p ∧ p ≤ l.length
set_option maxRecDepth 100000 in
set_option maxHeartbeats 2000000 in
theorem placesB_any {n : Nat} (l : List Nt) (x : Nt) (a : Option Addr) (c : Nat) (w : World) (ha : Recs w.heap a 2 Nt.cells l) (hl : l.length ≤ 9223372036854775806) (hn : n = l.length) :
    Calls Tryz.prog 17 #[.slice a n c, .agg #[.int .u32 x.a, .int .i64 x.n]] w (PlacesB w l x) := by
  subst hn
  go_enter Tryz.func17, Tryz.ntmps17
  go_wp2
  go_loopw [5] (fun i wr => ∃ k n : Nat, k ≤ l.length ∧ i = .int .i64 k ∧ wr = (w.alloc (.cells #[.int .u32 x.a, .int .i64 x.n] 52)).drewN n ∧ Hid (∀ j, j < k → nth l j ≠ x)) (fun i _ => l.length - (intOf i).toNat)
  case atStart => exact ⟨0, 0, by omega, rfl, rfl, Lib.hid (fun j hj => absurd hj (Nat.not_lt_zero _))⟩
  case round =>
    obtain ⟨k, n, hk, rfl, rfl, hE⟩ := hrel
    by_cases hlt : k < l.length
    · obtain ⟨g1, o1, rfl, q1, c1⟩ := Recs.pos ha Nt.cells_len (by omega) (by omega)
      have d0 := c1 w rfl k 0 hlt (by omega)
      have d1 := c1 w rfl k 1 hlt (by omega)
      obtain ⟨y, hy⟩ : ∃ y, y = nth l k := ⟨_, rfl⟩
      rw [← hy] at d0 d1
      obtain ⟨ya, yn⟩ := y
      obtain ⟨xa, xn⟩ := x
      simp only [Nt.cells, List.getElem?_cons_zero, List.getElem?_cons_succ, ← Nat.add_assoc, Nat.add_zero] at d0 d1
      have HY := Lib.hid hy
      clear c1 hy
      by_cases he : ya = xa ∧ yn = xn
      · have e1 : (ya == xa) = true := by simp [he.1]
        have e2 : (yn == xn) = true := by simp [he.2]
        have hX := Lib.hid (show (⟨xa, xn⟩ : Nt) ∈ l by rw [← he.1, ← he.2, HY.out]; exact nth_mem l k hlt)
        clear he
        go_wp2
        go_quiet (fail)
        go_wp2
        go_ret
        exact ⟨k, rfl, (((Fr.refl _ w).alloc _).drewN n).drewN nq, by simp [hX.out], by simp [hX.out], by omega, by omega⟩
      · have q : (ya == xa) = false ∨ ((ya == xa) = true ∧ (yn == xn) = false) := by
          simp only [beq_eq_false_iff_ne, beq_iff_eq, ne_eq]
          omega
        have hE' := Lib.hid (show ∀ j, j < k + 1 → nth l j ≠ (⟨xa, xn⟩ : Nt) from fun j hj => by
          rcases Nat.lt_succ_iff_lt_or_eq.1 hj with h | h
          · exact hE.out j h
          · subst h; rw [← HY.out]; intro hh; simp only [Nt.mk.injEq] at hh; exact he hh)
        clear he
        rcases q with e1 | ⟨e1, e2⟩
        all_goals
          go_wp2
          go_quiet (fail)
          go_wp2
          go_roundw
          case rel => exact ⟨k + 1, n + nq, by omega, by go_num, by simp, hE'⟩
          case measure => simp [intOf]; omega
    · obtain rfl : k = l.length := by omega
      have hX := Lib.hid (show x ∉ l from fun h => by
        obtain ⟨j, hj, hh⟩ := List.mem_iff_getElem.1 h
        exact hE.out j hj (by rw [nth_eq l j hj]; exact hh))
      go_wp2
      go_ret
      exact ⟨-1, rfl, ((Fr.refl _ w).alloc _).drewN n, by simp [hX.out], by simp [hX.out], by omega, by omega⟩
end Go.Proofs.YtfglidaicjjpfaaGreatDoor
end
