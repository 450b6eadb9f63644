import Derived.Test.YtoenopfmlgapbaaRibCom
namespace Go.Proofs.Ytoenopfmlgapbaa
open Go.RowKit

/-- How many acts: as many as the shortest of three lists has. -/
def least3 (a b c : Nat) : Nat := min a (min b c)
theorem least3_lt {a b c k : Nat} : k < least3 a b c ↔ k < a ∧ k < b ∧ k < c := by unfold least3; omega

set_option maxRecDepth 100000 in
set_option maxHeartbeats 4000000 in
theorem ribSteps_any (fs : List Int) (ns : List Nt) (ms : List Int) (af an am : Option Addr) (cf cn cm : Nat) (a b : Int) (w : World) (hf : Ints w.heap af fs) (hn : Recs w.heap an 2 Nt.cells ns) (hm : Ints w.heap am ms)
    (hnw : ∀ x ∈ ns, Nt.wf x) (lf : fs.length ≤ 9223372036854775807) (ln : ns.length ≤ 9223372036854775807) (lm : ms.length ≤ 9223372036854775807) :
    Calls Try.prog 6 #[.slice af fs.length cf, .slice an ns.length cn, .slice am ms.length cm, .int .i64 a, .int .i64 b] w (RetV w (.bool true)) := by
  go_enter Try.func6, Try.ntmps6
  go_wp2_with (go_at_call 17; refine (learnt_any _).mono ?_)
  intro e0 w0 R0
  obtain ⟨rfl, hF0⟩ := R0
  have kp := (IsRib.new' w0 (w0.heap.size + 2) (by omega)).fr0 ((Fr.refl (fun _ => False) _).alloc (.cells #[.int .i64 0, .slice none 0 0] 74))
  have kq := IsRib.new' (w0.alloc (.cells #[.int .i64 0, .slice none 0 0] 74)) (w0.heap.size + 2) (by simp)
  rw [show (w0.alloc (.cells #[.int .i64 0, .slice none 0 0] 74)).heap.size = w0.heap.size + 1 by simp] at kq
  go_wp2_with (go_at_call 13; refine (ribNew_any _).mono ?_; rintro e w' ⟨rfl, rfl⟩)
  go_loopw [14] (fun s14 wr => ∃ (k : Nat) (l : List Td), k ≤ least3 fs.length ns.length ms.length ∧ s14 = .int .i64 k ∧ IsRib wr.heap (w0.heap.size + 2) w0.heap.size 0 l ∧ IsRib wr.heap (w0.heap.size + 2) (w0.heap.size + 1) 0 l ∧ RibOk 0 l ∧ Fr (fun _ => False) w0 wr ∧ w0.heap.size + 2 ≤ wr.heap.size) (fun s _ => least3 fs.length ns.length ms.length - (intOf s).toNat)
  case atStart => exact ⟨0, [], by omega, rfl, kp, kq, ribOk_nil, ((Fr.refl _ _).alloc _).alloc _, by simp⟩
  case round =>
    obtain ⟨k, l, hk, rfl, hP, hQ, hok, hF, hs⟩ := hrel
    clear kp kq
    by_cases hkl : k < least3 fs.length ns.length ms.length
    · obtain ⟨k1, k2, k3⟩ := least3_lt.1 hkl
      obtain ⟨bf, of, rfl, hbf, hcf⟩ := Ints.pos hf (by omega)
      obtain ⟨bn, on, rfl, hbn, hcn⟩ := Recs.pos hn Nt.cells_len (by omega) (by omega)
      obtain ⟨bm, om, rfl, hbm, hcm⟩ := Ints.pos hm (by omega)
      have hFw := hF0.trans hF
      have c0 := (hFw.cell (p := ⟨bf, of + k, none⟩) hbf (fun h => h)).trans (hcf w rfl k k1)
      have c1 := (hFw.cell (p := ⟨bn, on + (k * 2 + 0), none⟩) hbn (fun h => h)).trans (hcn w rfl k 0 k2 (by omega))
      have c2 := (hFw.cell (p := ⟨bn, on + (k * 2 + 1), none⟩) hbn (fun h => h)).trans (hcn w rfl k 1 k2 (by omega))
      have c3 := (hFw.cell (p := ⟨bm, om + k, none⟩) hbm (fun h => h)).trans (hcm w rfl k k3)
      have hx := hnw _ (nth_mem ns k k2)
      clear hcf hcn hcm
      generalize nth fs k = f at *
      generalize nth ms k = m at *
      generalize nth ns k = x at *
      obtain ⟨xa, xn⟩ := x
      simp only [Nt.cells, List.getElem?_cons_zero, List.getElem?_cons_succ, ← Nat.add_assoc, Nat.add_zero] at c1 c2
      have sb : bf < wr.heap.size ∧ bn < wr.heap.size ∧ bm < wr.heap.size := by have := hFw.size; omega
      have s0 := hF0.size
      have HK := Lib.hid (show k < least3 fs.length ns.length ms.length from hkl)
      clear hkl
      go_wp2
      (refine wp_region_mix (fun _ => True) 13 (by kernel_rfl) (by kernel_rfl) (trivial) ?_; simp only [List.take_succ_cons, List.take_zero, List.drop_succ_cons, List.drop_zero])
      (refine wpMix_earlyN 13 (by kernel_rfl) (by kernel_rfl) ?_; simp only [List.take_succ_cons, List.take_zero, List.drop_succ_cons, List.drop_zero]; (repeat (go_big_quiet_step (fail))); refine wpQuiet_nil ?_)
      refine wpMix_nil ?_
      have hPD : IsRib wr.drew.heap (w0.heap.size + 2) w0.heap.size 0 l := hP
      have hQD : IsRib wr.drew.heap (w0.heap.size + 2) (w0.heap.size + 1) 0 l := hQ
      go_wp2_with (go_at_call 14; refine (learn_any wr.drew hPD hok hs f xa xn m 0 ⟨hx.1, hx.2.1⟩).mono ?_)
      intro e1 w1 R1
      cases hr : learnE 0 l f xa xn m 0 with
      | error q =>
        obtain ⟨rfl, hF1⟩ := R1.errE hr
        have g0 := (hF1.cell (p := ⟨bf, of + k, none⟩) sb.1 (fun h => h)).trans c0
        have g1 := (hF1.cell (p := ⟨bn, on + k * 2, none⟩) sb.2.1 (fun h => h)).trans c1
        have g2 := (hF1.cell (p := ⟨bn, on + k * 2 + 1, none⟩) sb.2.1 (fun h => h)).trans c2
        have g3 := (hF1.cell (p := ⟨bm, om + k, none⟩) sb.2.2 (fun h => h)).trans c3
        have hP1 := hPD.fr0 hF1
        have hQ1 := hQD.fr0 hF1
        have hs1 : w0.heap.size + 2 ≤ w1.heap.size := Nat.le_trans hs hF1.size
        have hFa := hF.drew.trans hF1
        have HR := Lib.hid hr
        clear R1 hr
        go_wp2
        (refine wp_region_mix (fun _ => True) 13 (by kernel_rfl) (by kernel_rfl) (trivial) ?_; simp only [List.take_succ_cons, List.take_zero, List.drop_succ_cons, List.drop_zero])
        (refine wpMix_earlyN 13 (by kernel_rfl) (by kernel_rfl) ?_; simp only [List.take_succ_cons, List.take_zero, List.drop_succ_cons, List.drop_zero]; (repeat (go_big_quiet_step (fail))); refine wpQuiet_nil ?_)
        refine wpMix_nil ?_
        have hQD1 : IsRib w1.drew.heap (w0.heap.size + 2) (w0.heap.size + 1) 0 l := hQ1
        have hPD1 : IsRib w1.drew.heap (w0.heap.size + 2) w0.heap.size 0 l := hP1
        go_wp2_with (go_at_call 14; refine (learn_any w1.drew hQD1 hok hs1 f xa xn m 0 ⟨hx.1, hx.2.1⟩).mono ?_)
        intro e2 w2 R2
        obtain ⟨rfl, hF2⟩ := R2.errE HR.out
        have hP2 := hPD1.fr0 hF2
        have hQ2 := hQD1.fr0 hF2
        have hFb := hFa.drew.trans hF2
        have hs2 : w0.heap.size + 2 ≤ w2.heap.size := Nat.le_trans hs1 hF2.size
        clear R2
        go_wp2
        go_roundw
        case rel => exact ⟨k + 1, l, HK.out, by go_num, hP2, hQ2, hok, hFb, hs2⟩
        case measure => have := HK.out; simp [intOf]; omega
      | ok l' =>
        obtain ⟨rfl, hP1, hF1⟩ := R1.okE hr
        have g0 := (hF1.cell (p := ⟨bf, of + k, none⟩) sb.1 (by show ¬ bf = w0.heap.size; omega)).trans c0
        have g1 := (hF1.cell (p := ⟨bn, on + k * 2, none⟩) sb.2.1 (by show ¬ bn = w0.heap.size; omega)).trans c1
        have g2 := (hF1.cell (p := ⟨bn, on + k * 2 + 1, none⟩) sb.2.1 (by show ¬ bn = w0.heap.size; omega)).trans c2
        have g3 := (hF1.cell (p := ⟨bm, om + k, none⟩) sb.2.2 (by show ¬ bm = w0.heap.size; omega)).trans c3
        have hQ1 := hQD.fr hF1 (fun q h => by subst h; omega)
        have hok1 := (learn_ok hok ⟨hx.1, hx.2.1⟩ hr).1
        have hs1 : w0.heap.size + 2 ≤ w1.heap.size := Nat.le_trans hs hF1.size
        have hFa := hF.drew.trans' hF1 (fun q hq h => by omega)
        have HR := Lib.hid hr
        clear R1 hr
        go_wp2
        (refine wp_region_mix (fun _ => True) 13 (by kernel_rfl) (by kernel_rfl) (trivial) ?_; simp only [List.take_succ_cons, List.take_zero, List.drop_succ_cons, List.drop_zero])
        (refine wpMix_earlyN 13 (by kernel_rfl) (by kernel_rfl) ?_; simp only [List.take_succ_cons, List.take_zero, List.drop_succ_cons, List.drop_zero]; (repeat (go_big_quiet_step (fail))); refine wpQuiet_nil ?_)
        refine wpMix_nil ?_
        have hQD1 : IsRib w1.drew.heap (w0.heap.size + 2) (w0.heap.size + 1) 0 l := hQ1
        have hPD1 : IsRib w1.drew.heap (w0.heap.size + 2) w0.heap.size 0 l' := hP1
        go_wp2_with (go_at_call 14; refine (learn_any w1.drew hQD1 hok hs1 f xa xn m 0 ⟨hx.1, hx.2.1⟩).mono ?_)
        intro e2 w2 R2
        obtain ⟨rfl, hQ2, hF2⟩ := R2.okE HR.out
        have hP2 := hPD1.fr hF2 (fun q h => by subst h; omega)
        have hFb := hFa.drew.trans' hF2 (fun q hq h => by omega)
        have hs2 : w0.heap.size + 2 ≤ w2.heap.size := Nat.le_trans hs1 hF2.size
        clear R2
        go_wp2
        go_roundw
        case rel => exact ⟨k + 1, l', HK.out, by go_num, hP2, hQ2, hok1, hFb, hs2⟩
        case measure => have := HK.out; simp [intOf]; omega
    · have hend : ¬ (k < fs.length ∧ k < ns.length ∧ k < ms.length) := fun h => hkl (least3_lt.2 h)
      have hFw := hF0.trans hF
      clear hkl hk hf hn hm
      have hend2 : fs.length ≤ k ∨ (k < fs.length ∧ ns.length ≤ k) ∨ (k < fs.length ∧ k < ns.length ∧ ms.length ≤ k) := by omega
      clear hend
      rcases hend2 with h1 | ⟨h1, h2⟩ | ⟨h1, h2, h3⟩
      all_goals
        go_wp2_with (go_at_call 18; refine (age_E wr hP hok hs a).mono ?_)
        intro e1 w1 R1
        by_cases hca : ckErr 0 0 a
        · rw [ageE, if_pos hca] at R1
          obtain ⟨rfl, hF1⟩ := R1.errE rfl
          have ha2 : decide (a < 0) = true ∨ (decide (a < 0) = false ∧ decide (b < a) = true) ∨ (decide (a < 0) = false ∧ decide (b < a) = false ∧ decide (1099511627776 < b) = true) := by
            unfold ckErr at hca; simp only [decide_eq_true_eq, decide_eq_false_iff_not]; omega
          have hP1 := hP.fr0 hF1
          have hQ1 := hQ.fr0 hF1
          have hs1 : w0.heap.size + 2 ≤ w1.heap.size := Nat.le_trans hs hF1.size
          clear hca R1
          go_wp2_with (go_at_call 18; refine (age_E w1 hP1 hok hs1 b).mono ?_)
          intro e2 w2 R2
          by_cases hcb : ckErr 0 0 b
          · rw [ageE, if_pos hcb] at R2
            obtain ⟨rfl, hF2⟩ := R2.errE rfl
            have hQ2 := hQ1.fr0 hF2
            have hs2 : w0.heap.size + 2 ≤ w2.heap.size := Nat.le_trans hs1 hF2.size
            have HCB := Lib.hid hcb
            clear hcb R2
            go_wp2_with (go_at_call 18; refine (age_E w2 hQ2 hok hs2 b).mono ?_)
            intro e3 w3 R3
            rw [ageE, if_pos HCB.out] at R3
            obtain ⟨rfl, hF3⟩ := R3.errE rfl
            rcases ha2 with p | ⟨p, q⟩ | ⟨p, q, r⟩
            all_goals
              go_wp2
              go_ret
              exact RetV.mk rfl rfl (((hFw.trans hF1).trans hF2).trans hF3)
          · rw [ageE, if_neg hcb] at R2
            obtain ⟨rfl, _, hF2⟩ := R2.okE rfl
            have hQ2 := hQ1.fr hF2 (fun q h => by subst h; omega)
            have hs2 : w0.heap.size + 2 ≤ w2.heap.size := Nat.le_trans hs1 hF2.size
            have HCB := Lib.hid hcb
            clear hcb R2
            go_wp2_with (go_at_call 18; refine (age_E w2 hQ2 hok hs2 b).mono ?_)
            intro e3 w3 R3
            rw [ageE, if_neg HCB.out] at R3
            obtain ⟨rfl, _, hF3⟩ := R3.okE rfl
            have hFF := ((hFw.trans hF1).trans' hF2 (fun q hq h => by have := hF0.size; omega)).trans' hF3 (fun q hq h => by have := hF0.size; omega)
            rcases ha2 with p | ⟨p, q⟩ | ⟨p, q, r⟩
            all_goals
              go_wp2
              go_ret
              exact RetV.mk rfl rfl hFF
        · rw [ageE, if_neg hca] at R1
          obtain ⟨rfl, hP1, hF1⟩ := R1.okE rfl
          have ha2 : 0 ≤ a ∧ a ≤ 1099511627776 := by unfold ckErr at hca; omega
          have hokA := rAged_ok hok ha2.1 ha2.2
          have hQ1 := hQ.fr hF1 (fun q h => by subst h; omega)
          have hs1 : w0.heap.size + 2 ≤ w1.heap.size := Nat.le_trans hs hF1.size
          clear hca R1
          go_wp2_with (go_at_call 18; refine (age_E w1 hP1 hokA hs1 b).mono ?_)
          intro e2 w2 R2
          by_cases hcb : ckErr a 0 b
          · rw [ageE, if_pos hcb] at R2
            obtain ⟨rfl, hF2⟩ := R2.errE rfl
            have hb2 : (decide (a < 0) = false ∧ decide (b < a) = true) ∨ (decide (a < 0) = false ∧ decide (b < a) = false ∧ decide (1099511627776 < b) = true) := by
              unfold ckErr at hcb; simp only [decide_eq_true_eq, decide_eq_false_iff_not]; omega
            have HA2 := Lib.hid ha2
            clear ha2
            have hQ2 := hQ1.fr0 hF2
            have hs2 : w0.heap.size + 2 ≤ w2.heap.size := Nat.le_trans hs1 hF2.size
            clear hcb R2
            go_wp2_with (go_at_call 18; refine (age_E w2 hQ2 hok hs2 b).mono ?_)
            intro e3 w3 R3
            by_cases hcc : ckErr 0 0 b
            · rw [ageE, if_pos hcc] at R3
              obtain ⟨rfl, hF3⟩ := R3.errE rfl
              have hFF := (((hFw.trans' hF1 (fun q hq h => by have := hF0.size; omega)).trans hF2).trans hF3)
              clear hcc
              rcases hb2 with ⟨p, q⟩ | ⟨p, q, r⟩
              all_goals
                go_wp2
                go_ret
                exact RetV.mk rfl rfl hFF
            · rw [ageE, if_neg hcc] at R3
              obtain ⟨rfl, _, hF3⟩ := R3.okE rfl
              have hFF := ((hFw.trans' hF1 (fun q hq h => by have := hF0.size; omega)).trans hF2).trans' hF3 (fun q hq h => by have := hF0.size; omega)
              clear hcc
              rcases hb2 with ⟨p, q⟩ | ⟨p, q, r⟩
              all_goals
                go_wp2
                go_ret
                exact RetV.mk rfl rfl hFF
          · rw [ageE, if_neg hcb] at R2
            obtain ⟨rfl, hP2, hF2⟩ := R2.okE rfl
            have hb2 : a ≤ b ∧ b ≤ 1099511627776 := by unfold ckErr at hcb; omega
            have hQ2 := hQ1.fr hF2 (fun q h => by subst h; omega)
            have hs2 : w0.heap.size + 2 ≤ w2.heap.size := Nat.le_trans hs1 hF2.size
            have HCC := Lib.hid (show ¬ ckErr 0 0 b by unfold ckErr at hcb ⊢; omega)
            have hokB := rAged_ok hok (show (0 : Int) ≤ b by omega) hb2.2
            rw [rAged_two hb2.1] at hP2
            clear hcb R2
            go_wp2_with (go_at_call 18; refine (age_E w2 hQ2 hok hs2 b).mono ?_)
            intro e3 w3 R3
            rw [ageE, if_neg HCC.out] at R3
            obtain ⟨rfl, hQ3, hF3⟩ := R3.okE rfl
            have hP3 := hP2.fr hF3 (fun q h => by subst h; omega)
            have hFF := ((hFw.trans' hF1 (fun q hq h => by have := hF0.size; omega)).trans' hF2 (fun q hq h => by have := hF0.size; omega)).trans' hF3 (fun q hq h => by have := hF0.size; omega)
            generalize rAged b l = B at *
            clear hP hP1 hQ hQ1 hP2 hQ2
            go_wp2_with (go_at_call 15; refine (ribList_any _ hP3 hokB.len).mono ?_)
            intro e4 w4 R4
            obtain ⟨a4, c4, ob4, rfl, hO4, hF4, hN4⟩ := R4
            have hQ4 := hQ3.fr0 hF4
            go_wp2_with (go_at_call 15; refine (ribList_any _ hQ4 hokB.len).mono ?_)
            intro e5 w5 R5
            obtain ⟨a5, c5, ob5, rfl, hO5, hF5, hN5⟩ := R5
            have hr4 := rdHd (hO4.fr hF5 (fun _ _ h => h)) rfl
            have hr5 := rdHd hO5 rfl
            have hBl := hokB.len
            go_wp2_with (go_at_call 16; refine (sheard_any (B.map Td.hd) (B.map Td.hd) a4 a5 c4 c5 w5 hr4 hr5 (by rw [List.length_map]; omega) (by rw [List.length_map]; omega) (by rw [List.length_map]) (by rw [List.length_map])).mono ?_)
            intro e6 w6 R6
            obtain ⟨rfl, n6, rfl⟩ := R6
            go_wp2
            go_ret
            exact RetV.mk rfl rfl (((hFF.trans hF4).trans hF5).drewN n6)
end Go.Proofs.Ytoenopfmlgapbaa
