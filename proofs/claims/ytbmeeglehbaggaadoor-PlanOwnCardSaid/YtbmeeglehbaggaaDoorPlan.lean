import Derived.Test.YtbmeeglehbaggaaDoorStab6
import Derived.Test.YtbmeeglehbaggaaDoorNetW
import Derived.Test.YtbmeeglehbaggaaDoorNets
import Derived.Deep.CutBlock
import Derived.Deep.CutRange
import Derived.Deep.DeepCutAuto
namespace Go.Proofs.YtbmeeglehbaggaaDoor
open Go.RowKit

/-! plan.Room and plan.Fit. -/
def sizeN (k : Int) : Int := 2 ^ (32 - k).toNat
def roomE (a n : Int) (l : List Int) : Option Int := match netErr a n with
  | some e => some e
  | none => if 64 < l.length then some 4 else if ∀ k ∈ l, 0 ≤ k ∧ k ≤ 32 then none else some 1
def roomV (n : Int) (l : List Int) : Int := l.foldl (fun r k => r - sizeN k) (sizeN n)
def roomR (a n : Int) (l : List Int) : Value := .tuple #[.int .i64 (if roomE a n l = none then roomV n l else 0), errO (roomE a n l)]
theorem roomR_bad {a n : Int} {l : List Int} {e : Int} (h : roomE a n l = some e) : roomR a n l = .tuple #[.int .i64 0, errv e] := by
  unfold roomR; rw [h]; rfl
theorem roomR_ok {a n : Int} {l : List Int} (h : roomE a n l = none) : roomR a n l = .tuple #[.int .i64 (roomV n l), .nilIface] := by
  unfold roomR; rw [h]; rfl
theorem netErr_none {a n : Int} (h : netErr a n = none) : 0 ≤ n ∧ n ≤ 32 := by
  unfold netErr at h
  split at h
  · cases h
  · omega
theorem sizeN_nat {k : Nat} (h : k ≤ 32) : sizeN k = 2 ^ (32 - k) := by
  unfold sizeN; rw [show (32 - (k : Int)).toNat = 32 - k by omega]
theorem sizeN_bd {k : Int} (h : 0 ≤ k ∧ k ≤ 32) : 1 ≤ sizeN k ∧ sizeN k ≤ 4294967296 := by
  obtain ⟨k, rfl⟩ := Int.eq_ofNat_of_zero_le h.1
  rw [sizeN_nat (by omega)]
  exact pow_le32 k (by omega)

theorem wrap64_of {x : Int} (h : 1 ≤ x ∧ x ≤ 4294967296) : wrap64 x = x := by
  unfold wrap64; omega
theorem wrap64_in {x : Int} (h : -1000000000000 ≤ x ∧ x ≤ 1000000000000) : wrap64 x = x := by
  unfold wrap64; omega

set_option maxRecDepth 100000 in
set_option maxHeartbeats 4000000 in
theorem room_any (a n : Int) (l : List Int) (al : Option Addr) (cl : Nat) (w : World) (ha : 0 ≤ a ∧ a < 4294967296) (hL : Ints w.heap al l) (hll : l.length ≤ 9223372036854775807) :
    Calls Tryd.prog 36 #[.agg #[.int .u32 a, .int .i64 n], .slice al l.length cl] w (RetV w (roomR a n l)) := by
  have HL := Lib.hid hL
  clear hL
  go_enter Tryd.func36, Tryd.ntmps36
  go_wp2_with (fail)
  refine (pcheck_any a n _ ha).mono ?_
  rintro e1 w1 ⟨rfl, hF1⟩
  have hF0 := (Fr.refl (fun _ => False) w).alloc (.cells #[.int .u32 a, .int .i64 n] 38)
  have hB := (Blk.made w 38 [.int .u32 a, .int .i64 n]).fr hF1 (fun h => h)
  have hF := hF0.trans hF1
  clear hF0 hF1
  cases hE : netErr a n with
  | some e =>
    have hR := Lib.hid (show roomR a n l = .tuple #[.int .i64 0, errv e] from roomR_bad (by unfold roomE; rw [hE]))
    clear hE hB
    rw [show errO (some e) = errv e from rfl]
    go_wp2
    go_ret2
    exact RetV.mk (x := .tuple #[.int .i64 0, errv e]) hR.out.symm rfl hF
  | none =>
    obtain ⟨hn0, hn1⟩ := netErr_none hE
    obtain ⟨k, rfl⟩ := Int.eq_ofNat_of_zero_le hn0
    rw [show errO none = .nilIface from rfl]
    have hk : k ≤ 32 := by omega
    have b0 := hB.cell 0
    have b1 := hB.cell 1
    have bl := hB.lt
    simp only [List.getElem?_cons_zero, List.getElem?_cons_succ] at b0 b1
    have HB := Lib.hid hB
    clear hB hn0 hn1
    by_cases h64 : 64 < l.length
    · have hR := Lib.hid (show roomR a k l = .tuple #[.int .i64 0, errv 4] from roomR_bad (by unfold roomE; rw [hE]; exact if_pos h64))
      clear hE
      go_wp2
      go_ret2
      exact RetV.mk (x := .tuple #[.int .i64 0, errv 4]) hR.out.symm rfl hF
    · have HE : ∀ q, Hid (q = (if ∀ k ∈ l, 0 ≤ k ∧ k ≤ 32 then none else some 1) → roomE a k l = q) := fun q => Lib.hid (fun h => by unfold roomE; rw [hE, h]; exact if_neg h64)
      clear hE
      obtain ⟨S0, hS0⟩ : ∃ s, s = sizeN k := ⟨_, rfl⟩
      have hb0 : 1 ≤ S0 ∧ S0 ≤ 4294967296 := hS0 ▸ sizeN_bd ⟨by omega, by omega⟩
      have HW0 := Lib.hid (show wrap64 (2 ^ (32 - k)) = S0 by rw [hS0, sizeN_nat hk] at *; exact wrap64_of hb0)
      have H0 := Lib.hid (show S0 = roomV k (l.take 0) by rw [hS0]; rfl)
      clear hS0
      go_wp2
      go_loopw [25, 7] (fun s25 s7 wr => ∃ (i : Nat) (r : Int), s25 = .int .i64 i ∧ s7 = .int .i64 r ∧ i ≤ l.length ∧ r ≤ 4294967296 ∧ -(4294967296 * (i : Int)) ≤ r ∧ Hid (r = roomV k (l.take i)) ∧ Hid (∀ x ∈ l.take i, 0 ≤ x ∧ x ≤ 32) ∧ wr = w1) (fun s25 _ _ => l.length - (intOf s25).toNat)
      case atStart => exact ⟨0, S0, rfl, by rw [HW0.out], by omega, hb0.2, by omega, H0, Lib.hid (fun x hx => by simp at hx), rfl⟩
      case round =>
        clear H0 HW0 hb0
        obtain ⟨i, r, rfl, rfl, hi, hr1, hr0, hR, hA, rfl⟩ := hrel
        by_cases hil : i < l.length
        · obtain ⟨g, o, rfl, hg, hc⟩ := Ints.pos HL.out (by omega)
          have d0 := (hF.cell (p := ⟨g, o + i, none⟩) hg (fun h => h)).trans (hc w rfl i hil)
          have hgw := Nat.lt_of_lt_of_le hg hF.size
          have hm := nth_mem l i hil
          have ht := take_succ_nth l i hil
          obtain ⟨v, hv⟩ : ∃ v, v = nth l i := ⟨_, rfl⟩
          rw [← hv] at d0 hm ht
          clear hc hv
          by_cases hbad : v < 0 ∨ 32 < v
          · have hR := Lib.hid (show roomR a k l = .tuple #[.int .i64 0, errv 1] from roomR_bad ((HE _).out (by rw [if_neg]; intro h; have := h v hm; omega)))
            clear ht hm
            go_wp2
            all_goals
              go_ret2
              exact RetV.mk (x := .tuple #[.int .i64 0, errv 1]) hR.out.symm rfl hF
          · obtain ⟨q, rfl⟩ := Int.eq_ofNat_of_zero_le (show 0 ≤ v by omega)
            have hq : q ≤ 32 := by omega
            obtain ⟨S1, hS1⟩ : ∃ s, s = sizeN q := ⟨_, rfl⟩
            have hb1 : 1 ≤ S1 ∧ S1 ≤ 4294967296 := hS1 ▸ sizeN_bd ⟨by omega, by omega⟩
            have HW1 := Lib.hid (show wrap64 (2 ^ (32 - q)) = S1 by rw [hS1, sizeN_nat hq] at *; exact wrap64_of hb1)
            have k1 : r - S1 ≤ 4294967296 := by omega
            have k2 : -(4294967296 * ((i + 1 : Nat) : Int)) ≤ r - S1 := by omega
            have HK := Lib.hid (And.intro k1 k2)
            have HWR := Lib.hid (show wrap64 (r - S1) = r - S1 from wrap64_in (by omega))
            clear k1 k2
            have HR := Lib.hid (show r - S1 = roomV k (l.take (i + 1)) by rw [ht, roomV, List.foldl_append, hR.out, hS1]; rfl)
            have HA := Lib.hid (show ∀ x ∈ l.take (i + 1), 0 ≤ x ∧ x ≤ 32 by
              rw [ht]
              intro x hx
              rcases List.mem_append.1 hx with hx | hx
              · exact hA.out x hx
              · rw [List.mem_singleton] at hx; subst hx; omega)
            clear ht hm hS1 hR hA hb1
            go_wp2
            go_roundw
            case rel => exact ⟨i + 1, r - S1, by go_num, by rw [HW1.out, HWR.out], hil, HK.out.1, HK.out.2, HR, HA, trivial⟩
            case measure => simp [intOf]; omega
        · obtain rfl : i = l.length := by omega
          have e := (HE none).out (by rw [if_pos]; have := hA.out; rwa [List.take_length] at this)
          have hV := Lib.hid (show roomR a k l = .tuple #[.int .i64 r, .nilIface] by rw [roomR_ok e, hR.out, List.take_length])
          clear e hR hA
          go_wp2
          go_ret2
          exact RetV.mk (x := .tuple #[.int .i64 r, .nilIface]) hV.out.symm rfl hF
end Go.Proofs.YtbmeeglehbaggaaDoor
