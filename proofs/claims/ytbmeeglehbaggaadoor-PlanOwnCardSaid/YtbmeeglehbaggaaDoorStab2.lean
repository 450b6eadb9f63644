import Derived.Test.YtbmeeglehbaggaaDoorStab1
namespace Go.Proofs.YtbmeeglehbaggaaDoor
open Go.RowKit

set_option maxRecDepth 100000 in
set_option maxHeartbeats 4000000 in
theorem swapR_any (g N c M a b n : Nat) (fv : Value) (d : List Int) (w : World) (hO : Ownd w.heap 3 1 (some ⟨g, 0, none⟩) N c (ivals .i64 d) (some g)) (hd : OkD N M d) (ha : a + n ≤ N) (hb : b + n ≤ N) (hab : a ≠ b) (hN : N ≤ 1000) :
    Calls Tryd.prog 113 #[.slice (some ⟨g, 0, none⟩) N c, .int .i64 a, .int .i64 b, .int .i64 n, fv] w (SPost w g N c M (swR d a b 0 n)) := by
  have hcap := hO.cap
  obtain ⟨RES, hRES⟩ : ∃ r, r = swR d a b 0 n := ⟨_, rfl⟩
  rw [← hRES]
  have H0 := Lib.hid hRES.symm
  clear hRES
  go_enter Tryd.func113, Tryd.ntmps113
  go_wp2
  go_loopw [10] (fun s10 wr => ∃ (i : Nat) (d1 : List Int), s10 = .int .i64 i ∧ i ≤ n ∧ Ownd wr.heap 3 1 (some ⟨g, 0, none⟩) N c (ivals .i64 d1) (some g) ∧ OkD N M d1 ∧ Fr (fun k => k = g) w wr ∧ Hid (swR d1 a b i n = RES)) (fun s _ => n - (intOf s).toNat)
  case atStart => exact ⟨0, d, rfl, by omega, hO, hd, Fr.refl _ _, H0⟩
  case round =>
    clear hO hd H0
    obtain ⟨i, d1, rfl, hi, hO, hd, hF, hR⟩ := hrel
    by_cases hin : i < n
    · obtain ⟨g', e', -, hg, hc, hfz⟩ := hO.pos (by omega)
      cases e'
      have d0 := (hc (a + i) (by omega)).trans (ivals_get .i64 d1 (a + i) (by rw [hd.len]; omega))
      have d1' := (hc (b + i) (by omega)).trans (ivals_get .i64 d1 (b + i) (by rw [hd.len]; omega))
      have f0 := hfz (a + i)
      have f1 := hfz (b + i)
      have hR2 := Lib.hid (show swR (swp d1 (a + i) (b + i)) a b (i + 1) n = RES by rw [← swR_go d1 hin]; exact hR.out)
      have hO6 := Lib.hid (swp_own hO (a + i) (b + i))
      have hds := Lib.hid (hd.swp (i := a + i) (j := b + i) (by omega) (by omega))
      generalize nth d1 (a + i) = x at *
      generalize nth d1 (b + i) = y at *
      have hF7 := Lib.hid ((hF.setCell (p := ⟨g, a + i, none⟩) (fun _ => rfl) (.int .i64 y)).setCell (p := ⟨g, b + i, none⟩) (fun _ => rfl) (.int .i64 x))
      have hne : a + i ≠ b + i := by omega
      clear hc hfz hR hO hd hF
      go_wp2
      (refine wp_region_mix (fun w' => ∃ c : Cls (fun k => k = g) wr, w' = c.wo) 22 (by kernel_rfl) (by kernel_rfl) (⟨⟨_, (Fr.refl _ _).drew⟩, rfl⟩) ?_; simp only [List.take_succ_cons, List.take_zero, List.drop_succ_cons, List.drop_zero])
      (refine wpMix_earlyN 4 (by kernel_rfl) (by kernel_rfl) ?_; simp only [List.take_succ_cons, List.take_zero, List.drop_succ_cons, List.drop_zero]; (repeat (go_big_quiet_step (fail))); refine wpQuiet_nil ?_)
      (refine wpMix_lateN 4 (⟨⟨_, (Fr.refl _ _).drew⟩, rfl⟩) (by kernel_rfl) ?_; simp only [List.take_succ_cons, List.take_zero, List.drop_succ_cons, List.drop_zero]; (repeat (go_big_quiet_step (fail))); refine wpQuiet_nil ?_)
      (refine wpMix_earlyN 13 (by kernel_rfl) (by kernel_rfl) ?_; simp only [List.take_succ_cons, List.take_zero, List.drop_succ_cons, List.drop_zero]; (repeat (go_big_quiet_step (fail))); refine wpQuiet_nil ?_)
      refine wpMix_eff (by kernel_rfl) ?_
      go_wp2
      refine ⟨⟨⟨_, (Fr.refl _ _).drew.at1 _ _⟩, rfl⟩, ?_⟩
      refine wpMix_nil ?_
      go_wp2
      go_roundw
      case rel => exact ⟨i + 1, _, by go_num, by omega, hO6.out, hds.out, hF7.out.drew, hR2⟩
      case measure => simp [intOf]; omega
    · have HE := Lib.hid (show d1 = RES from (swR_end d1 (by omega)).symm.trans hR.out)
      go_wp2
      go_end0
      exact ⟨rfl, by rw [← HE.out]; exact hO, by rw [← HE.out]; exact hd, hF⟩
theorem sub_nat {a b : Nat} (h : b ≤ a) : ((a - b : Nat) : Int) = (a : Int) - b := by omega
set_option maxRecDepth 100000 in
set_option maxHeartbeats 4000000 in
theorem rot_any (g N c M a m b : Nat) (fv : Value) (d : List Int) (w : World) (hO : Ownd w.heap 3 1 (some ⟨g, 0, none⟩) N c (ivals .i64 d) (some g)) (hd : OkD N M d) (ha : a < m) (hb : m < b) (hbN : b ≤ N) (hN : N ≤ 1000) :
    Calls Tryd.prog 97 #[.slice (some ⟨g, 0, none⟩) N c, .int .i64 a, .int .i64 m, .int .i64 b, fv] w (SPost w g N c M (rotD d a m b)) := by
  obtain ⟨RES, hRES⟩ : ∃ r, r = rotD d a m b := ⟨_, rfl⟩
  have H0 := Lib.hid (RotTo.start d (Nat.le_of_lt ha) (Nat.le_of_lt hb))
  rw [← hRES] at H0 ⊢
  clear hRES
  have e1 := sub_nat (Nat.le_of_lt ha)
  have e2 := sub_nat (Nat.le_of_lt hb)
  go_enter Tryd.func97, Tryd.ntmps97
  go_wp2
  go_loopw [10, 11] (fun s10 s11 wr => ∃ (i j : Nat) (d1 : List Int), s10 = .int .i64 i ∧ s11 = .int .i64 j ∧ 0 < i ∧ 0 < j ∧ i ≤ m - a ∧ j ≤ b - m ∧ Ownd wr.heap 3 1 (some ⟨g, 0, none⟩) N c (ivals .i64 d1) (some g) ∧ OkD N M d1 ∧ Fr (fun k => k = g) w wr ∧ Hid (RotTo m d1 i j RES)) (fun s10 s11 _ => (intOf s10).toNat + (intOf s11).toNat)
  case atStart => exact ⟨m - a, b - m, d, by rw [e1], by rw [e2], by omega, by omega, by omega, by omega, hO, hd, Fr.refl _ _, H0⟩
  case round =>
    clear hO hd H0 e1 e2
    obtain ⟨i, j, d1, rfl, rfl, hi0, hj0, hi, hj, hO, hd, hF, hR⟩ := hrel
    by_cases hij : i = j
    · have HE := Lib.hid (hR.out.end hi0 hij)
      subst hij
      have hc := swapR_any g N c M (m - i) m i fv d1 wr hO hd (by omega) (by omega) (by omega) hN
      rw [sub_nat (show i ≤ m by omega), HE.out] at hc
      have eb : ((i : Int) != i) = false := by simp
      clear hO hd hR
      go_wp2_with (fail)
      refine hc.mono ?_
      rintro e5 w5 ⟨rfl, hO5, hd5, hF5⟩
      clear hc
      go_wp2
      go_end0
      exact ⟨rfl, hO5, hd5, hF.trans hF5⟩
    · have eb : ((i : Int) != j) = true := by simp; omega
      by_cases hgt : j < i
      · have hR2 := Lib.hid (hR.out.more hj0 hgt)
        have hc := swapR_any g N c M (m - i) m j fv d1 wr hO hd (by omega) (by omega) (by omega) hN
        rw [sub_nat (show i ≤ m by omega)] at hc
        have e3 := sub_nat (Nat.le_of_lt hgt)
        clear hO hd hR
        go_wp2_with (fail)
        refine hc.mono ?_
        rintro e5 w5 ⟨rfl, hO5, hd5, hF5⟩
        clear hc
        go_wp2
        go_roundw
        case rel => exact ⟨i - j, j, _, by rw [e3], rfl, by omega, by omega, by omega, by omega, hO5, hd5, hF.trans hF5, hR2⟩
        case measure => simp [intOf]; omega
      · have hlt : i < j := by omega
        have hR2 := Lib.hid (hR.out.less hi0 hlt)
        have hc := swapR_any g N c M (m - i) (m + j - i) i fv d1 wr hO hd (by omega) (by omega) (by omega) hN
        rw [sub_nat (show i ≤ m by omega), show ((m + j - i : Nat) : Int) = (m : Int) + j - i by omega] at hc
        have e3 := sub_nat (Nat.le_of_lt hlt)
        clear hO hd hR
        go_wp2_with (fail)
        refine hc.mono ?_
        rintro e5 w5 ⟨rfl, hO5, hd5, hF5⟩
        clear hc
        go_wp2
        go_roundw
        case rel => exact ⟨i, j - i, _, rfl, by rw [e3], by omega, by omega, by omega, by omega, hO5, hd5, hF.trans hF5, hR2⟩
        case measure => simp [intOf]; omega
end Go.Proofs.YtbmeeglehbaggaaDoor
