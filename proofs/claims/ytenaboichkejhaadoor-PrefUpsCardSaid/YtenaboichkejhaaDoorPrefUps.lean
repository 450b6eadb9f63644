import Derived.Test.YtenaboichkejhaaDoorPrefW
import Derived.Test.YtenaboichkejhaaDoorErrSame
namespace Go.Proofs.YtenaboichkejhaaDoor
open Go.RowKit

theorem upE_one : upE 2147483648 1 = .ok (0, 0) := by rfl
theorem has_cut {a : Int} {j : Nat} (hj : j ≤ 32) (x : Int) : hasB (cutA a j) j x = decide (cutA x j = cutA a j) := by
  unfold hasB; rw [netErr_cut a j hj]; simp
theorem in_cut {a : Int} {i j : Nat} (hij : i ≤ j) (hj : j ≤ 32) : inB (cutA a j) j (cutA a i) i = true := by
  unfold inB
  rw [netErr_cut a j hj, has_cut (by omega), cutA_cut a hij hj]
  simp; omega
theorem has_up {a x : Int} {i j : Nat} (hij : i ≤ j) (hj : j ≤ 32) (h : hasB (cutA a j) j x = true) : hasB (cutA a i) i x = true := by
  rw [has_cut hj] at h
  rw [has_cut (by omega)]
  have h1 := of_decide_eq_true h
  apply decide_eq_true
  rw [← cutA_cut x hij hj, h1, cutA_cut a hij hj]
theorem upE_cut (a : Int) {M : Nat} (hM : M + 1 ≤ 32) : upE (cutA a (M + 1)) ((M + 1 : Nat) : Int) = .ok (cutA a M, (M : Int)) := by
  unfold upE
  rw [netErr_cut a (M + 1) hM]
  simp only
  rw [if_neg (by omega), show (((M + 1 : Nat) : Int) - 1).toNat = M by omega, show ((M + 1 : Nat) : Int) - 1 = (M : Int) by omega, cutA_cut a (by omega) hM]
set_option maxRecDepth 100000 in
set_option maxHeartbeats 2000000 in
theorem prefUps_any (a n x : Int) (w : World) (hg : Hd w) (ha : 0 ≤ a ∧ a < 4294967296) (hx : 0 ≤ x ∧ x < 4294967296) :
    Calls Tryd.prog 4 #[.agg #[.int .u32 a, .int .i64 n], .int .u32 x] w (RetV w (.bool true)) := by
  go_enter Tryd.func4, Tryd.ntmps4
  go_wp2_with (fail)
  refine (up_any 2147483648 1 _ (by decide)).mono ?_
  intro e1 w1 R1
  rw [upE_one] at R1
  obtain ⟨rfl, hF1⟩ := R1
  have hF01 := ((Fr.refl (fun _ => False) w).alloc (.cells #[.int .u32 a, .int .i64 n] 34)).trans hF1
  have x0 := (hF1.cell (p := ⟨w.heap.size, 0, none⟩) (by simp) (fun h => h)).trans (show _ = some (Value.int .u32 a) by simp)
  have x1 := (hF1.cell (p := ⟨w.heap.size, 1, none⟩) (by simp) (fun h => h)).trans (show _ = some (Value.int .i64 n) by simp)
  have hs1 := hF1.size
  simp only [World.size_alloc] at hs1
  have hlt : w.heap.size < w1.heap.size := by omega
  go_wp2_with (fail)
  refine (pcheck_any a n _ ha).mono ?_
  rintro e2 w2 ⟨rfl, hF2⟩
  cases hE : netErr a n with
  | some j =>
    rw [show errO (some j) = errv j from rfl]
    clear hE
    go_wp2
    go_ret
    exact RetV.mk rfl rfl ((hF01.alloc _).trans hF2)
  | none =>
    rw [show errO none = .nilIface from rfl]
    obtain ⟨L, rfl, hL, hmod⟩ := netErr_ok hE
    have hF12 := ((Fr.refl (fun _ => False) w1).alloc (.cells #[.int .u32 0, .int .i64 0] 34)).trans hF2
    have hF02 := hF01.trans hF12
    have hbA : Blk w2.heap w.heap.size 34 [.int .u32 a, .int .i64 L] := ((Blk.made w 34 [.int .u32 a, .int .i64 L]).fr hF1 (fun h => h)).fr hF12 (fun h => h)
    have q0 := hbA.cell 0
    have q1 := hbA.cell 1
    have hltA := hbA.lt
    simp only [List.getElem?_cons_zero, List.getElem?_cons_succ] at q0 q1
    have hbN := Blk.made w2 34 [.int .u32 a, .int .i64 L]
    have HA : Hid (cutA a L = a) := cutA_self hmod
    have HE := Lib.hid hE
    clear hE hmod x0 x1 hF1 hF2
    go_wp2
    have hbN0 : Blk (w2.alloc (.cells #[.int .u32 a, .int .i64 L] 34)).heap w2.heap.size 34 [.int .u32 (cutA a (L - 0)), .int .i64 (L - 0 : Nat)] := by rw [Nat.sub_zero, HA.out]; exact hbN
    go_loopw [8] (fun s8 wr => ∃ k : Nat, s8 = .int .i64 k ∧ k ≤ L ∧ Blk wr.heap w.heap.size 34 [.int .u32 a, .int .i64 L] ∧ Blk wr.heap w2.heap.size 34 [.int .u32 (cutA a (L - k)), .int .i64 (L - k : Nat)] ∧ Fr (fun _ => False) w wr) (fun s _ => L - (intOf s).toNat)
    case atStart => exact ⟨0, rfl, by omega, hbA.alloc _, hbN0, hF02.alloc _⟩
    case round =>
      clear hbA hbN hbN0 q0 q1
      obtain ⟨k, rfl, hk, hA, hN, hF⟩ := hrel
      have q0 := hA.cell 0
      have q1 := hA.cell 1
      have n0 := hN.cell 0
      have n1 := hN.cell 1
      have hlA := hA.lt
      have hlN := hN.lt
      simp only [List.getElem?_cons_zero, List.getElem?_cons_succ] at q0 q1 n0 n1
      by_cases hkL : k < L
      · obtain ⟨M, hM⟩ : ∃ M, L - k = M + 1 := ⟨L - k - 1, by omega⟩
        rw [hM] at hN n0 n1
        have HM := Lib.hid hM
        clear hM
        have hm1 : M + 1 ≤ 32 := by have := HM.out; omega
        have hcb := cutA_bd ha (M + 1)
        have hcb2 := cutA_bd ha M
        go_wp2_with (fail)
        refine (up_any (cutA a (M + 1)) (M + 1 : Nat) _ hcb).mono ?_
        intro e3 w3 R3
        rw [upE_cut a hm1] at R3
        obtain ⟨rfl, hF3⟩ := R3
        have hA3 := hA.fr hF3 (fun h => h)
        have hN3 := hN.fr hF3 (fun h => h)
        have hlA3 := hA3.lt
        have hlN3 := hN3.lt
        have q0 := hA3.cell 0
        have q1 := hA3.cell 1
        have n0 := hN3.cell 0
        have n1 := hN3.cell 1
        simp only [List.getElem?_cons_zero, List.getElem?_cons_succ] at q0 q1 n0 n1
        have hU3 := Blk.made w3 34 [.int .u32 (cutA a M), .int .i64 M]
        have hF03 := hF.trans hF3
        clear hA hN
        have b0 : ((M : Int) != (M : Int)) = false := by simp
        go_wp2_with (fail)
        refine (in_any a L (cutA a M) M _ ha hcb2).mono ?_
        rintro e4 w4 ⟨rfl, hF4⟩
        rw [show inB a L (cutA a M) M = true by have := in_cut (a := a) (i := M) (j := L) (by have := HM.out; omega) hL; rwa [HA.out] at this]
        have hF34 := ((Fr.refl (fun _ => False) w3).alloc (.cells #[.int .u32 (cutA a M), .int .i64 M] 34)).trans hF4
        have hN4 := hN3.fr hF34 (fun h => h)
        have hA4 := hA3.fr hF34 (fun h => h)
        have hU4 := hU3.fr hF4 (fun h => h)
        have n0 := hN4.cell 0
        have n1 := hN4.cell 1
        have u0 := hU4.cell 0
        have u1 := hU4.cell 1
        simp only [List.getElem?_cons_zero, List.getElem?_cons_succ] at n0 n1 u0 u1
        have hF04 := hF03.trans hF34
        clear hN3 hA3 hU3
        go_wp2_with (fail)
        refine (in_any (cutA a (M + 1)) (M + 1 : Nat) (cutA a M) M _ hcb hcb2).mono ?_
        rintro e5 w5 ⟨rfl, hF5⟩
        rw [in_cut (a := a) (i := M) (j := M + 1) (by omega) hm1]
        have hN5 := hN4.fr hF5 (fun h => h)
        have hA5 := hA4.fr hF5 (fun h => h)
        have hU5 := hU4.fr hF5 (fun h => h)
        have n0 := hN5.cell 0
        have n1 := hN5.cell 1
        have u0 := hU5.cell 0
        have u1 := hU5.cell 1
        simp only [List.getElem?_cons_zero, List.getElem?_cons_succ] at n0 n1 u0 u1
        have hF05 := hF04.trans hF5
        clear hN4 hA4 hU4
        go_wp2_with (fail)
        refine (has_any (cutA a (M + 1)) (M + 1 : Nat) x _ hcb hx).mono ?_
        rintro e6 w6 ⟨rfl, hF6⟩
        have hN6 := hN5.fr hF6 (fun h => h)
        have hA6 := hA5.fr hF6 (fun h => h)
        have hU6 := hU5.fr hF6 (fun h => h)
        have n0 := hN6.cell 0
        have n1 := hN6.cell 1
        have f0 := hN6.frozen 0
        have f1 := hN6.frozen 1
        have u0 := hU6.cell 0
        have u1 := hU6.cell 1
        simp only [List.getElem?_cons_zero, List.getElem?_cons_succ] at n0 n1 u0 u1
        have hF06 := hF05.trans hF6
        clear hN5 hA5 hU5
        obtain ⟨hb, hhb⟩ : ∃ hb, hb = hasB (cutA a (M + 1)) (M + 1 : Nat) x := ⟨_, rfl⟩
        rw [← hhb]
        have HHB := Lib.hid hhb
        clear hhb
        have hfin : ∀ w7 : World, Blk w7.heap w.heap.size 34 [.int .u32 a, .int .i64 L] → Blk w7.heap w2.heap.size 34 [.int .u32 (cutA a (M + 1)), .int .i64 (M + 1 : Nat)] → Blk ((w7.setCell ⟨w2.heap.size, 0, none⟩ (.int .u32 (cutA a M))).setCell ⟨w2.heap.size, 1, none⟩ (.int .i64 M)).heap w.heap.size 34 [.int .u32 a, .int .i64 L] ∧ Blk ((w7.setCell ⟨w2.heap.size, 0, none⟩ (.int .u32 (cutA a M))).setCell ⟨w2.heap.size, 1, none⟩ (.int .i64 M)).heap w2.heap.size 34 [.int .u32 (cutA a (L - (k + 1))), .int .i64 (L - (k + 1) : Nat)] := fun w7 z1 z2 => by
          refine ⟨(z1.other (p := ⟨w2.heap.size, 0, none⟩) (by show w.heap.size ≠ w2.heap.size; omega) _).other (p := ⟨w2.heap.size, 1, none⟩) (by show w.heap.size ≠ w2.heap.size; omega) _, ?_⟩
          have := (z2.set 0 (.int .u32 (cutA a M))).set 1 (.int .i64 M)
          rw [show L - (k + 1) = M by have := HM.out; omega]
          exact this
        have HFIN := Lib.hid hfin
        clear hfin
        cases hb with
        | false =>
          have z := HFIN.out w6 hA6 hN6
          have HZ := Lib.hid z
          clear z hA6 hN6 hU6
          go_wp2
          go_roundw
          case rel => exact ⟨k + 1, by go_num, by omega, HZ.out.1, HZ.out.2, (hF06.setCell (fun h => by simp only at h; have := hF02.size; have := hF01.size; omega) _).setCell (fun h => by simp only at h; have := hF01.size; omega) _⟩
          case measure => simp [intOf]; omega
        | true =>
          go_wp2_with (fail)
          refine (has_any (cutA a M) M x _ hcb2 hx).mono ?_
          rintro e7 w7 ⟨rfl, hF7⟩
          rw [has_up (a := a) (i := M) (j := M + 1) (by omega) hm1 HHB.out.symm]
          have hN7 := hN6.fr hF7 (fun h => h)
          have hA7 := hA6.fr hF7 (fun h => h)
          have hU7 := hU6.fr hF7 (fun h => h)
          have n0 := hN7.cell 0
          have n1 := hN7.cell 1
          have f0 := hN7.frozen 0
          have f1 := hN7.frozen 1
          have u0 := hU7.cell 0
          have u1 := hU7.cell 1
          simp only [List.getElem?_cons_zero, List.getElem?_cons_succ] at n0 n1 u0 u1
          have hF07 := hF06.trans hF7
          have z := HFIN.out w7 hA7 hN7
          have HZ := Lib.hid z
          clear z hA6 hN6 hU6 hA7 hN7 hU7
          go_wp2
          go_roundw
          case rel => exact ⟨k + 1, by go_num, by omega, HZ.out.1, HZ.out.2, (hF07.setCell (fun h => by simp only at h; have := hF01.size; omega) _).setCell (fun h => by simp only at h; have := hF01.size; omega) _⟩
          case measure => simp [intOf]; omega
      · obtain rfl : k = L := by omega
        rw [Nat.sub_self] at hN n0 n1
        rw [cutA_zero ha] at hN n0
        go_wp2_with (fail)
        refine (up_any 0 (0 : Nat) _ (by decide)).mono ?_
        intro e3 w3 R3
        rw [show upE 0 ((0 : Nat) : Int) = .error 2 from rfl] at R3
        obtain ⟨rfl, hF3⟩ := R3
        have hN3 := hN.fr hF3 (fun h => h)
        have hF03 := hF.trans hF3
        have hlN3 := hN3.lt
        go_wp2_with (fail)
        refine (error_any (some 2) 2 _ (hg.none (hF03.alloc _))).mono ?_
        rintro e4 w4 ⟨rfl, hF4⟩
        have hN4 := (hN3.alloc (.cells #[.int .u32 0, .int .i64 0] 34)).fr hF4 (fun h => h)
        have n0 := hN4.cell 0
        have n1 := hN4.cell 1
        simp only [List.getElem?_cons_zero, List.getElem?_cons_succ] at n0 n1
        rw [show (errN (some 2) == 2) = true from rfl]
        clear hN hN3 hN4
        go_wp2
        go_ret
        exact RetV.mk rfl rfl ((hF03.alloc _).trans hF4)
end Go.Proofs.YtenaboichkejhaaDoor
