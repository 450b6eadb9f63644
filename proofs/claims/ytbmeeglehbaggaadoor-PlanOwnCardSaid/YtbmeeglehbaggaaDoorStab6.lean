import Derived.Test.YtbmeeglehbaggaaDoorStab5
namespace Go.Proofs.YtbmeeglehbaggaaDoor
open Go.RowKit

set_option maxRecDepth 100000 in
set_option maxHeartbeats 16000000 in
theorem stab_any (cf : Int → Int → Int) (g bl N c M : Nat) (d : List Int) (w : World) (hcmp : CmpOk w g bl M cf) (hO : Ownd w.heap 3 1 (some ⟨g, 0, none⟩) N c (ivals .i64 d) (some g)) (hd : OkD N M d) (hN : N ≤ 64) :
    Calls Tryd.prog 64 #[.slice (some ⟨g, 0, none⟩) N c, .int .i64 N, .func (.func 38) #[] #[.pointer (some ⟨bl, 0, none⟩)]] w (SPost w g N c M (stabD (ltI cf) d N)) := by
  obtain ⟨RES, hRES⟩ : ∃ r, r = stabD (ltI cf) d N := ⟨_, rfl⟩
  rw [← hRES]
  obtain ⟨R1, hR1⟩ : ∃ r, r = blkF (insS (ltI cf)) 20 N N d 0 := ⟨_, rfl⟩
  have H0 := Lib.hid (show BlkTo (insS (ltI cf)) 20 N d 0 R1 by rw [hR1]; exact BlkTo.start _ _ _ _)
  have HM := Lib.hid (show MrgTo (ltI cf) N (insS (ltI cf) R1.1 R1.2 N) 20 RES by rw [hRES, hR1]; exact ⟨N, by omega, rfl⟩)
  have HC := Lib.hid hcmp
  clear hRES hcmp hR1
  go_enter Tryd.func64, Tryd.ntmps64
  go_wp2
  go_loopw [7, 8] (fun s7 s8 wr => ∃ (a : Nat) (d1 : List Int), s7 = .int .i64 a ∧ s8 = .int .i64 ((a + 20 : Nat) : Int) ∧ a ≤ N ∧ Ownd wr.heap 3 1 (some ⟨g, 0, none⟩) N c (ivals .i64 d1) (some g) ∧ OkD N M d1 ∧ Fr (fun k => k = g) w wr ∧ Hid (BlkTo (insS (ltI cf)) 20 N d1 a R1)) (fun s7 s8 _ => N - (intOf s7).toNat)
  case atStart => exact ⟨0, d, rfl, rfl, by omega, hO, hd, Fr.refl _ _, H0⟩
  case round =>
    clear hO hd H0
    obtain ⟨a, d1, rfl, rfl, haN, hO, hd, hF, hB⟩ := hrel
    generalize wr = w1 at *
    by_cases hlt : a + 20 ≤ N
    · have hi := ins_any cf g bl N c M a (a + 20) d1 w1 (HC.out.fr hF) hO hd (by omega) (by omega) (by omega)
      have HB := Lib.hid (hB.out.go (by omega) hlt)
      clear hB hO hd
      go_wp2_with (fail)
      refine hi.mono ?_
      rintro e2 w2 ⟨rfl, hO2, hd2, hF2⟩
      clear hi
      go_wp2
      go_roundw
      case rel => exact ⟨a + 20, _, rfl, by go_num, by omega, hO2, hd2, hF.trans hF2, HB⟩
      case measure => simp [intOf]; omega
    · obtain rfl := hB.out.end hlt
      have hi := ins_any cf g bl N c M a N d1 w1 (HC.out.fr hF) hO hd (by omega) (by omega) (by omega)
      clear hB hO hd
      go_wp2_with (fail)
      refine hi.mono ?_
      rintro e2 w2 ⟨rfl, hO2, hd2, hF2⟩
      have hF2 := hF.trans hF2
      clear hi hF hlt
      go_wp2
      go_loopw [6] (fun s6 wr => ∃ (s : Nat) (d1 : List Int), s6 = .int .i64 s ∧ 0 < s ∧ s ≤ 128 ∧ Ownd wr.heap 3 1 (some ⟨g, 0, none⟩) N c (ivals .i64 d1) (some g) ∧ OkD N M d1 ∧ Fr (fun k => k = g) w wr ∧ Hid (MrgTo (ltI cf) N d1 s RES)) (fun s6 _ => N - (intOf s6).toNat)
      case atStart => exact ⟨20, _, rfl, by omega, by omega, hO2, hd2, hF2, HM⟩
      case round =>
        clear hO2 hd2 hF2 HM haN
        obtain ⟨s, d3, rfl, hs0, hs1, hO, hd, hF, hM⟩ := hrel
        generalize wr = w3 at *
        by_cases hsN : s < N
        · have HG := Lib.hid (hM.out.go _ hs0 hsN)
          obtain ⟨R2, hR2⟩ : ∃ r, r = mrgS (ltI cf) d3 s N := ⟨_, rfl⟩
          have HR := Lib.hid (show ∀ x y, (x, y) = R2 → mrgR (ltI cf) d3 s N = if y + s < N then symM (ltI cf) 64 x y (y + s) N else x by
            intro x y h
            rw [mrgR, ← hR2, ← h])
          have H1 := Lib.hid (show BlkTo (fun d a b => symM (ltI cf) 64 d a (a + s) b) (2 * s) N d3 0 R2 by rw [hR2]; exact BlkTo.start _ _ _ _)
          clear hM hR2
          go_wp2
          go_loopw [7, 8] (fun s7 s8 wr => ∃ (a : Nat) (d1 : List Int), s7 = .int .i64 a ∧ s8 = .int .i64 ((a + 2 * s : Nat) : Int) ∧ a ≤ N ∧ Ownd wr.heap 3 1 (some ⟨g, 0, none⟩) N c (ivals .i64 d1) (some g) ∧ OkD N M d1 ∧ Fr (fun k => k = g) w wr ∧ Hid (BlkTo (fun d a b => symM (ltI cf) 64 d a (a + s) b) (2 * s) N d1 a R2)) (fun s7 s8 _ => N - (intOf s7).toNat)
          case atStart => exact ⟨0, d3, rfl, by go_num, by omega, hO, hd, hF, H1⟩
          case round =>
            clear hO hd hF H1
            obtain ⟨a, d4, rfl, rfl, haN, hO, hd, hF, hB⟩ := hrel
            generalize wr = w4 at *
            by_cases hlt : a + 2 * s ≤ N
            · have hi := sym_any cf g bl N c M (by omega) 64 a (a + s) (a + 2 * s) d4 w4 (by omega) (HC.out.fr hF) hO hd (by omega) (by omega) hlt
              have HB := Lib.hid (hB.out.go (by omega) hlt)
              clear hB hO hd
              go_wp2_with (fail)
              refine hi.mono ?_
              rintro e5 w5 ⟨rfl, hO5, hd5, hF5⟩
              clear hi
              go_wp2
              go_roundw
              case rel => exact ⟨a + 2 * s, _, rfl, by go_num, by omega, hO5, hd5, hF.trans hF5, HB⟩
              case measure => simp [intOf]; omega
            · obtain rfl := hB.out.end hlt
              clear hB
              by_cases h2 : a + s < N
              · have hi := sym_any cf g bl N c M (by omega) 64 a (a + s) N d4 w4 (by omega) (HC.out.fr hF) hO hd (by omega) h2 (Nat.le_refl _)
                have HE := Lib.hid (show mrgR (ltI cf) d3 s N = symM (ltI cf) 64 d4 a (a + s) N from (HR.out _ _ rfl).trans (if_pos h2))
                clear hO hd HR
                go_wp2_with (fail)
                refine hi.mono ?_
                rintro e5 w5 ⟨rfl, hO5, hd5, hF5⟩
                clear hi
                go_wp2
                go_roundw
                case rel => exact ⟨s * 2, _, by go_num, by omega, by omega, by rw [HE.out]; exact hO5, by rw [HE.out]; exact hd5, hF.trans hF5, HG⟩
                case measure => simp [intOf]; omega
              · have HE := Lib.hid (show mrgR (ltI cf) d3 s N = d4 from (HR.out _ _ rfl).trans (if_neg h2))
                clear HR
                go_wp2
                go_roundw
                case rel => exact ⟨s * 2, _, by go_num, by omega, by omega, by rw [HE.out]; exact hO, by rw [HE.out]; exact hd, hF, HG⟩
                case measure => simp [intOf]; omega
        · obtain rfl := hM.out.end _ hsN
          clear hM
          go_wp2
          go_end0
          exact ⟨rfl, hO, hd, hF⟩

set_option maxRecDepth 100000 in
theorem sortStable_any (cf : Int → Int → Int) (g bl N c M : Nat) (d : List Int) (w : World) (hcmp : CmpOk w g bl M cf) (hO : Ownd w.heap 3 1 (some ⟨g, 0, none⟩) N c (ivals .i64 d) (some g)) (hd : OkD N M d) (hN : N ≤ 64) :
    Calls Tryd.prog 37 #[.slice (some ⟨g, 0, none⟩) N c, .func (.func 38) #[] #[.pointer (some ⟨bl, 0, none⟩)]] w (SPost w g N c M (stabD (ltI cf) d N)) := by
  have hc := stab_any cf g bl N c M d w hcmp hO hd hN
  clear hO hd hcmp
  go_enter Tryd.func37, Tryd.ntmps37
  go_wp2_with (fail)
  refine hc.mono ?_
  rintro e1 w1 h1
  obtain rfl := h1.1
  clear hc
  go_wp2
  go_end0
  exact h1
end Go.Proofs.YtbmeeglehbaggaaDoor
