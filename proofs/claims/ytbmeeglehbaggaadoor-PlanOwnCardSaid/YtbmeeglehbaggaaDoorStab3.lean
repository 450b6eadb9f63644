import Derived.Test.YtbmeeglehbaggaaDoorStab2
namespace Go.Proofs.YtbmeeglehbaggaaDoor
open Go.RowKit

set_option maxRecDepth 100000 in
set_option maxHeartbeats 16000000 in
theorem symA_any (cf : Int → Int → Int) (g bl N c M a m b f : Nat) (d : List Int) (w : World) (hcmp : CmpOk w g bl M cf) (hO : Ownd w.heap 3 1 (some ⟨g, 0, none⟩) N c (ivals .i64 d) (some g)) (hd : OkD N M d) (ham : m = a + 1) (hmb : m < b) (hbN : b ≤ N) (hN : N ≤ 1000) :
    Calls Tryd.prog 80 #[.slice (some ⟨g, 0, none⟩) N c, .int .i64 a, .int .i64 m, .int .i64 b, .func (.func 38) #[] #[.pointer (some ⟨bl, 0, none⟩)]] w (SPost w g N c M (symM (ltI cf) (f + 1) d a m b)) := by
  obtain ⟨RES, hRES⟩ : ∃ r, r = symM (ltI cf) (f + 1) d a m b := ⟨_, rfl⟩
  rw [← hRES]
  have HR := Lib.hid (show RES = upS d a (bsr (upP (ltI cf) d a) (b - m) m b - 1) by rw [hRES]; show (if _ then _ else _) = _; rw [if_pos ham])
  obtain ⟨r, hr⟩ : ∃ r, r = bsr (upP (ltI cf) d a) (b - m) m b := ⟨_, rfl⟩
  have H0 := Lib.hid (BsTo.start (upP (ltI cf) d a) m b)
  rw [← hr] at HR H0
  have e1 : ((m : Int) - a == 1) = true := by simp; omega
  have HC := Lib.hid hcmp
  have hm1 : a < m := by omega
  have hm2 : m ≤ a + 1 := by omega
  clear hRES hcmp hr ham
  go_enter Tryd.func80, Tryd.ntmps80
  go_wp2
  go_loopw [10, 11] (fun s10 s11 wr => ∃ (i j : Nat), s10 = .int .i64 i ∧ s11 = .int .i64 j ∧ m ≤ i ∧ i ≤ j ∧ j ≤ b ∧ Ownd wr.heap 3 1 (some ⟨g, 0, none⟩) N c (ivals .i64 d) (some g) ∧ Fr (fun k => k = g) w wr ∧ Hid (BsTo (upP (ltI cf) d a) i j r)) (fun s10 s11 _ => (intOf s11).toNat - (intOf s10).toNat)
  case atStart => exact ⟨m, b, rfl, rfl, by omega, by omega, by omega, hO, Fr.refl _ _, H0⟩
  case round =>
    clear hO H0
    obtain ⟨i, j, rfl, rfl, hmi, hij, hjb, hO, hF, hB⟩ := hrel
    by_cases hlt : i < j
    · obtain ⟨g', e', -, hg, hc, hfz⟩ := hO.pos (by omega)
      cases e'
      obtain ⟨h, hh⟩ : ∃ h, h = (i + j) / 2 := ⟨_, rfl⟩
      have eh : ((i : Int) + j) / 2 = (h : Int) := by omega
      have hih : i ≤ h := by omega
      have hhj : h < j := by omega
      have hup := Lib.hid (fun q => BsTo.up hB.out hlt hh q)
      have hdn := Lib.hid (fun q => BsTo.down hB.out hlt hh q)
      have d0 := (hc h (by omega)).trans (ivals_get .i64 d h (by rw [hd.len]; omega))
      have d1 := (hc a (by omega)).trans (ivals_get .i64 d a (by rw [hd.len]; omega))
      have hcall := fun n : Nat => HC.out (nth d h) (nth d a) wr n (hd.nth (by omega)) (hd.nth (by omega)) hF
      have hlt2 : upP (ltI cf) d a h = decide (cf (nth d h) (nth d a) < 0) := rfl
      generalize cf (nth d h) (nth d a) = v at *
      generalize nth d h = x at *
      have hy : Hid (nth d a = nth d a) := Lib.hid rfl
      clear hc hfz hB hh hy
      by_cases hv : v < 0
      · have hdv : decide (v < 0) = true := decide_eq_true hv
        have HE := Lib.hid (hup.out (by rw [hlt2]; exact hdv))
        clear hlt2 hup hdn
        go_wp2
        clear eh
        go_quiet (first | (go_at_call 38; exact hcall _))
        go_wp2
        go_roundw
        case rel => exact ⟨h + 1, j, by go_num, rfl, by omega, by omega, hjb, hO, hF.drewN nq, HE⟩
        case measure => simp [intOf]; omega
      · have hdv : decide (v < 0) = false := decide_eq_false hv
        have HE := Lib.hid (hdn.out (by rw [hlt2]; exact hdv))
        clear hlt2 hup hdn
        go_wp2
        clear eh
        go_quiet (first | (go_at_call 38; exact hcall _))
        go_wp2
        go_roundw
        case rel => exact ⟨i, h, rfl, rfl, hmi, hih, by omega, hO, hF.drewN nq, HE⟩
        case measure => simp [intOf]; omega
    · obtain rfl : i = r := hB.out.end (by omega)
      have H1 := Lib.hid (show upS d a (i - 1) = RES from HR.out.symm)
      clear hB
      go_wp2
      go_loopw [13] (fun s13 wx => ∃ (k : Nat) (d1 : List Int), s13 = .int .i64 k ∧ a ≤ k ∧ k ≤ 1000 ∧ Ownd wx.heap 3 1 (some ⟨g, 0, none⟩) N c (ivals .i64 d1) (some g) ∧ OkD N M d1 ∧ Fr (fun k => k = g) w wx ∧ Hid (upS d1 k (i - 1) = RES)) (fun s _ => N - (intOf s).toNat)
      case atStart => exact ⟨a, d, rfl, by omega, by omega, hO, hd, hF, H1⟩
      case round =>
        clear hO hd hF H1
        obtain ⟨k, d1, rfl, hak, hk1, hO, hd, hF, hS⟩ := hrel
        have hi1 : 1 ≤ i := by omega
        by_cases hki : k < i - 1
        · obtain ⟨g', e', -, hg, hc, hfz⟩ := hO.pos (by omega)
          cases e'
          have d0 := (hc k (by omega)).trans (ivals_get .i64 d1 k (by rw [hd.len]; omega))
          have d1' := (hc (k + 1) (by omega)).trans (ivals_get .i64 d1 (k + 1) (by rw [hd.len]; omega))
          have f0 := hfz k
          have f1 := hfz (k + 1)
          have hR2 := Lib.hid (show upS (swp d1 k (k + 1)) (k + 1) (i - 1) = RES by rw [← upS_go d1 hki]; exact hS.out)
          have hO6 := Lib.hid (swp_own hO k (k + 1))
          have hds := Lib.hid (hd.swp (i := k) (j := k + 1) (by omega) (by omega))
          generalize nth d1 k = x at *
          generalize nth d1 (k + 1) = y at *
          have hF7 := Lib.hid ((hF.setCell (p := ⟨g, k, none⟩) (fun _ => rfl) (.int .i64 y)).setCell (p := ⟨g, k + 1, none⟩) (fun _ => rfl) (.int .i64 x))
          have hlt3 : decide ((k : Int) < (i : Int) - 1) = true := decide_eq_true (by omega)
          clear hc hfz hS hO hd hF
          go_wp2
          (refine wp_region_mix (fun w' => ∃ c : Cls (fun k => k = g) wr, w' = c.wo) 16 (by kernel_rfl) (by kernel_rfl) (⟨⟨_, (Fr.refl _ _).drew⟩, rfl⟩) ?_; simp only [List.take_succ_cons, List.take_zero, List.drop_succ_cons, List.drop_zero])
          (refine wpMix_earlyN 2 (by kernel_rfl) (by kernel_rfl) ?_; simp only [List.take_succ_cons, List.take_zero, List.drop_succ_cons, List.drop_zero]; (repeat (go_big_quiet_step (fail))); refine wpQuiet_nil ?_)
          (refine wpMix_lateN 3 (⟨⟨_, (Fr.refl _ _).drew⟩, rfl⟩) (by kernel_rfl) ?_; simp only [List.take_succ_cons, List.take_zero, List.drop_succ_cons, List.drop_zero]; (repeat (go_big_quiet_step (fail))); refine wpQuiet_nil ?_)
          (refine wpMix_earlyN 10 (by kernel_rfl) (by kernel_rfl) ?_; simp only [List.take_succ_cons, List.take_zero, List.drop_succ_cons, List.drop_zero]; (repeat (go_big_quiet_step (fail))); refine wpQuiet_nil ?_)
          refine wpMix_eff (by kernel_rfl) ?_
          go_wp2
          refine ⟨⟨⟨_, (Fr.refl _ _).drew.at1 _ _⟩, rfl⟩, ?_⟩
          refine wpMix_nil ?_
          go_wp2
          go_roundw
          case rel => exact ⟨k + 1, _, by go_num, by omega, by omega, hO6.out, hds.out, hF7.out.drew, hR2⟩
          case measure => simp [intOf]; omega
        · have HE := Lib.hid (show d1 = RES from (upS_end d1 (by omega)).symm.trans hS.out)
          have hlt3 : decide ((k : Int) < (i : Int) - 1) = false := decide_eq_false (by omega)
          go_wp2
          go_end0
          exact ⟨rfl, by rw [← HE.out]; exact hO, by rw [← HE.out]; exact hd, hF⟩
end Go.Proofs.YtbmeeglehbaggaaDoor
