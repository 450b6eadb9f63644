import Derived.Test.YtlmoaompmiobjaaOwn7
import Derived.Test.YtlmoaompmiobjaaStar
namespace Go.Proofs.Ytlmoaompmiobjaa
open Go.RowKit

theorem mul_tab {n : Nat} {a b : List (List Int)} (hA : Tab n a) (hB : Tab n b) : Tab n (mulM n a b) := by
  refine ⟨mulM_len _ _ _, hA.n1, hA.n8, fun i hi => tab_row n _ i hi, fun i k hi hk => ?_⟩
  show 0 ≤ at2 _ i k ∧ at2 _ i k ≤ 16
  rw [mul_at n a b i k hi hk]
  have key : ∀ j, j ≤ n → 0 ≤ mm (fun j => at2 a i j) (fun j => at2 b j k) j ∧ mm (fun j => at2 a i j) (fun j => at2 b j k) j ≤ 16 := by
    intro j
    induction j with
    | zero => intro _; exact ⟨show (0 : Int) ≤ 16 by decide, show (16 : Int) ≤ 16 by decide⟩
    | succ j ih =>
      intro hj
      obtain ⟨h1, h2⟩ := ih (by omega)
      have h3 := hA.dist i j hi (by omega)
      have h4 := hB.dist j k (by omega) hk
      exact ⟨imin_ge h1 (by show 0 ≤ nth (nth a i) j + nth (nth b j) k; omega), Int.le_trans (imin_le_left _ _) h2⟩
  exact key n (Nat.le_refl _)

set_option maxRecDepth 100000 in
set_option maxHeartbeats 4000000 in
theorem matown_any (a b : List (List Int)) (aa ab : Option Addr) (ca cb : Nat) (A B : Nat → Option Addr) (CA CB : Nat → Nat) (x : Int) (w : World) (hA : Mat w.heap aa a A CA) (hB : Mat w.heap ab b B CB)
    (na : a.length * 24 ≤ 140737488351232) (nb : b.length * 24 ≤ 140737488351232) (ra : ∀ i, i < a.length → (nth a i).length * 8 ≤ 140737488351232) (rb : ∀ i, i < b.length → (nth b i).length * 8 ≤ 140737488351232) :
    Calls Try.prog 8 #[.slice aa a.length ca, .slice ab b.length cb, .int .i64 x] w (RetV w (.bool true)) := by
  have la : a.length ≤ 9223372036854775807 := by omega
  have lb : b.length ≤ 9223372036854775807 := by omega
  go_enter Try.func8, Try.ntmps8
  go_wp2_with (go_at_call 22; refine (rows_any a aa ca A CA _ hA na ra).mono ?_)
  intro e1 w1 R1
  obtain ⟨ap, cp, obp, Gp, Cp, rfl, hP, hFw1⟩ := R1
  go_wp2_with (go_at_call 22; refine (rows_any b ab cb B CB _ (hB.fr hFw1 (fun _ _ h => h)) nb rb).mono ?_)
  intro e2 w2 R2
  obtain ⟨aq, cq, obq, Gq, Cq, rfl, hQ, hF2⟩ := R2
  have hP2 := hP.fr hF2 (fun _ _ _ h => h)
  go_wp2_with (go_at_call 20; refine (star_any a ap cp _ _ _ hP2.mat la).mono ?_)
  intro e3 w3 R3
  by_cases hT : matErr a = none
  · have hTa := matErr_none.1 hT
    have n1 := hTa.n1
    have n8 := hTa.n8
    have tabS := star_tab hTa
    clear hT
    obtain ⟨asl, cs, obs, Gs, Cs, rfl, hS, hF3⟩ := R3.get (starE_ok hTa) tabS.len
    have hF13 := hF2.trans hF3
    go_wp2_with (go_at_call 17; refine (mul_mat a b ap aq cp cq _ _ _ _ _ (hP.fr hF13 (fun _ _ _ h => h)).mat (hQ.fr hF3 (fun _ _ _ h => h)).mat la lb).mono ?_)
    intro e4 w4 R4
    rcases mulE_cases a b with ⟨k, hk⟩ | ⟨-, hTb, hk⟩
    · rw [hk] at R4
      obtain ⟨rfl, hF4⟩ := R4
      clear hk
      have hF14 := hF13.trans hF4
      go_wp2_with (go_at_call 16; refine (one_any 1 _).mono ?_)
      intro e5 w5 R5
      obtain ⟨a1, c1, ob1, G1, C1, rfl, -, hF5⟩ := R5.get (n := 1) oneM_one rfl
      have hF15 := hF14.trans hF5
      go_wp2_with (go_at_call 21; refine (srows_eq a ap aa cp ca _ A _ CA _ (hP.fr hF15 (fun _ _ _ h => h)).mat (hA.fr (hFw1.trans hF15) (fun _ _ h => h)) la).mono ?_)
      intro e6 w6 R6
      obtain ⟨rfl, q6, hw6⟩ := R6
      have hF6 : Fr (fun _ => False) w5 w6 := by rw [hw6]; exact (Fr.refl _ _).drewN q6
      have HW6 := Lib.hid hw6
      clear hw6
      have hF16 := hF15.trans hF6
      go_wp2_with (go_at_call 21; refine (srows_eq b aq ab cq cb _ B _ CB _ (hQ.fr (hF3.trans (hF4.trans (hF5.trans hF6))) (fun _ _ _ h => h)).mat (hB.fr (hFw1.trans hF16) (fun _ _ h => h)) lb).mono ?_)
      intro e7 w7 R7
      obtain ⟨rfl, q7, hw7⟩ := R7
      have hF7 : Fr (fun _ => False) w6 w7 := by rw [hw7]; exact (Fr.refl _ _).drewN q7
      have HW7 := Lib.hid hw7
      clear hw7
      have hF17 := hF16.trans hF7
      have hS7 := hS.fr (hF4.trans (hF5.trans (hF6.trans hF7))) (fun _ _ _ h => h)
      have hBs := hF2
      obtain ⟨bs, os, rfl, s0, -⟩ := OMat.cells (hS7) tabS.len tabS.rows 0 0 (by omega) (by omega)
      rw [Nat.add_zero] at s0
      have hrs := (hS7).row 0 (by rw [tabS.len]; omega)
      rw [tabS.rows 0 (by omega)] at hrs
      have hgs := (hS7).gn 0 (by rw [tabS.len]; omega)
      go_wp2_with (go_at_call 23; refine (spoil_any _ _ _ _ _ (tabS.rows 0 (by omega)) hrs).mono ?_)
      intro es ws Rs
      obtain ⟨rfl, hFs⟩ := Rs
      have hSs := (hF17).trans' hFs (fun i hi h => by have hq := (hBs).size; omega)
      go_wp2_with (go_at_call 20; refine (star_any a aa ca A CA _ (hA.fr (hFw1.trans hSs) (fun _ _ h => h)) la).mono ?_)
      intro ets wts RRs0
      have RRs := RRs0.get (starE_ok hTa) tabS.len
      obtain ⟨ats, cts, obts, Gts, Cts, rfl, hTs, hFts⟩ := RRs
      have hUs := hSs.trans hFts
      by_cases hn1 : 1 < a.length
      · have hn1i : (1 : Int) < (a.length : Int) := by omega
        obtain ⟨_, _, hh, s1, -⟩ := OMat.cells (hS7) tabS.len tabS.rows 1 0 (by omega) (by omega)
        cases hh
        obtain ⟨bt, ot, rfl, t1, -⟩ := OMat.cells hTs tabS.len tabS.rows 1 0 (by omega) (by omega)
        have rs1 := (hS7).row 1 (by rw [tabS.len]; omega)
        have hne := (hS7).inj 1 0 (by rw [tabS.len]; omega) (by rw [tabS.len]; omega)
        have hnt : ¬ bs = Gs 0 := fun h => ((hS7).obn bs (by have hx := (hS7).top.pos (by rw [tabS.len]; omega); obtain ⟨g', k1, k2, _⟩ := hx; cases k1; exact k2)).2 0 (by rw [tabS.len]; omega) h.symm
        have rsF := (rs1.fr hFs (fun g hg h => by cases hg; have := hne h; omega)).rd.fr0 hFts (fun _ _ h => h)
        have rtF := (hTs.row 1 (by rw [tabS.len]; omega)).rd
        have s2 := (hFts.cell (p := ⟨bs, os + 1, none⟩) (by have := (hFs).size; have := (hS7).top.pos (by rw [tabS.len]; omega); obtain ⟨g', k1, k2, k3, _⟩ := this; cases k1; show bs < _; omega) (fun h => h)).trans ((hFs.cell (p := ⟨bs, os + 1, none⟩) (by have := (hS7).top.pos (by rw [tabS.len]; omega); obtain ⟨g', k1, k2, k3, _⟩ := this; cases k1; exact k3) hnt).trans s1)
        rw [tabS.rows 1 hn1] at rsF rtF
        have hC : ∀ n, Calls Try.prog 12 #[.slice (some ⟨Gs 1, 0, none⟩) a.length (Cs 1), .slice (some ⟨Gts 1, 0, none⟩) a.length (Cts 1)] (wts.drewN n) fun e w'' => e = .returned (.bool true) ∧ ∃ n, w'' = wts.drewN n := fun n =>
          (ints_any' (nth (starM a.length a) 1) (nth (starM a.length a) 1) _ _ _ _ (wts.drewN n) (by rw [Ints, tabS.rows 1 hn1]; exact rsF) (by rw [Ints, tabS.rows 1 hn1]; exact rtF) (by rw [tabS.rows 1 hn1]; exact la) (by rw [tabS.rows 1 hn1]; exact la) (tabS.rows 1 hn1).symm (tabS.rows 1 hn1).symm).mono (fun e w' h => by rw [decide_eq_true rfl] at h; exact RetQ.quiet h)
        clear s1 rs1 rsF rtF
        go_wp2
        go_quiet (first | (go_at_call 12; exact hC _))
        go_wp2_with (go_at_call 21; refine (srows_eq a ap aa cp ca _ A _ CA _ (hP.fr (hUs.drewN nq) (fun _ _ _ h => h)).mat (hA.fr (hFw1.trans (hUs.drewN nq)) (fun _ _ h => h)) la).mono ?_)
        intro ez wz Rz
        obtain ⟨rfl, nz, hwz⟩ := Rz
        have hFz : Fr (fun _ => False) w wz := by rw [hwz]; exact (hFw1.trans (hUs.drewN nq)).drewN nz
        clear hwz
        go_wp2
        go_ret
        exact RetV.mk rfl rfl hFz
      · have cbb : decide ((1 : Int) < (a.length : Int)) = false := decide_eq_false (by omega)
        go_wp2
        go_quiet (fail)
        go_wp2_with (go_at_call 21; refine (srows_eq a ap aa cp ca _ A _ CA _ (hP.fr (hUs.drewN nq) (fun _ _ _ h => h)).mat (hA.fr (hFw1.trans (hUs.drewN nq)) (fun _ _ h => h)) la).mono ?_)
        intro ez wz Rz
        obtain ⟨rfl, nz, hwz⟩ := Rz
        have hFz : Fr (fun _ => False) w wz := by rw [hwz]; exact (hFw1.trans (hUs.drewN nq)).drewN nz
        clear hwz
        go_wp2
        go_ret
        exact RetV.mk rfl rfl hFz

    · have tabM := mul_tab hTa hTb
      obtain ⟨am, cm, obm, Gm, Cm, rfl, hM, hF4⟩ := R4.get hk tabM.len
      clear hk
      have lB := Lib.hid hTb.len
      have hF14 := hF13.trans hF4
      go_wp2_with (go_at_call 16; refine (one_any 1 _).mono ?_)
      intro e5 w5 R5
      obtain ⟨a1, c1, ob1, G1, C1, rfl, -, hF5⟩ := R5.get (n := 1) oneM_one rfl
      have hF15 := hF14.trans hF5
      go_wp2_with (go_at_call 21; refine (srows_eq a ap aa cp ca _ A _ CA _ (hP.fr hF15 (fun _ _ _ h => h)).mat (hA.fr (hFw1.trans hF15) (fun _ _ h => h)) la).mono ?_)
      intro e6 w6 R6
      obtain ⟨rfl, q6, hw6⟩ := R6
      have hF6 : Fr (fun _ => False) w5 w6 := by rw [hw6]; exact (Fr.refl _ _).drewN q6
      have HW6 := Lib.hid hw6
      clear hw6
      have hF16 := hF15.trans hF6
      go_wp2_with (go_at_call 21; refine (srows_eq b aq ab cq cb _ B _ CB _ (hQ.fr (hF3.trans (hF4.trans (hF5.trans hF6))) (fun _ _ _ h => h)).mat (hB.fr (hFw1.trans hF16) (fun _ _ h => h)) lb).mono ?_)
      intro e7 w7 R7
      obtain ⟨rfl, q7, hw7⟩ := R7
      have hF7 : Fr (fun _ => False) w6 w7 := by rw [hw7]; exact (Fr.refl _ _).drewN q7
      have HW7 := Lib.hid hw7
      clear hw7
      have hF17 := hF16.trans hF7
      have hS7 := hS.fr (hF4.trans (hF5.trans (hF6.trans hF7))) (fun _ _ _ h => h)
      have hBs := hF2
      obtain ⟨bs, os, rfl, s0, -⟩ := OMat.cells (hS7) tabS.len tabS.rows 0 0 (by omega) (by omega)
      rw [Nat.add_zero] at s0
      have hrs := (hS7).row 0 (by rw [tabS.len]; omega)
      rw [tabS.rows 0 (by omega)] at hrs
      have hgs := (hS7).gn 0 (by rw [tabS.len]; omega)
      go_wp2_with (go_at_call 23; refine (spoil_any _ _ _ _ _ (tabS.rows 0 (by omega)) hrs).mono ?_)
      intro es ws Rs
      obtain ⟨rfl, hFs⟩ := Rs
      have hSs := (hF17).trans' hFs (fun i hi h => by have hq := (hBs).size; omega)
      go_wp2_with (go_at_call 20; refine (star_any a aa ca A CA _ (hA.fr (hFw1.trans hSs) (fun _ _ h => h)) la).mono ?_)
      intro ets wts RRs0
      have RRs := RRs0.get (starE_ok hTa) tabS.len
      obtain ⟨ats, cts, obts, Gts, Cts, rfl, hTs, hFts⟩ := RRs
      have hUs := hSs.trans hFts
      by_cases hn1 : 1 < a.length
      · have hn1i : (1 : Int) < (a.length : Int) := by omega
        obtain ⟨_, _, hh, s1, -⟩ := OMat.cells (hS7) tabS.len tabS.rows 1 0 (by omega) (by omega)
        cases hh
        obtain ⟨bt, ot, rfl, t1, -⟩ := OMat.cells hTs tabS.len tabS.rows 1 0 (by omega) (by omega)
        have rs1 := (hS7).row 1 (by rw [tabS.len]; omega)
        have hne := (hS7).inj 1 0 (by rw [tabS.len]; omega) (by rw [tabS.len]; omega)
        have hnt : ¬ bs = Gs 0 := fun h => ((hS7).obn bs (by have hx := (hS7).top.pos (by rw [tabS.len]; omega); obtain ⟨g', k1, k2, _⟩ := hx; cases k1; exact k2)).2 0 (by rw [tabS.len]; omega) h.symm
        have rsF := (rs1.fr hFs (fun g hg h => by cases hg; have := hne h; omega)).rd.fr0 hFts (fun _ _ h => h)
        have rtF := (hTs.row 1 (by rw [tabS.len]; omega)).rd
        have s2 := (hFts.cell (p := ⟨bs, os + 1, none⟩) (by have := (hFs).size; have := (hS7).top.pos (by rw [tabS.len]; omega); obtain ⟨g', k1, k2, k3, _⟩ := this; cases k1; show bs < _; omega) (fun h => h)).trans ((hFs.cell (p := ⟨bs, os + 1, none⟩) (by have := (hS7).top.pos (by rw [tabS.len]; omega); obtain ⟨g', k1, k2, k3, _⟩ := this; cases k1; exact k3) hnt).trans s1)
        rw [tabS.rows 1 hn1] at rsF rtF
        have hC : ∀ n, Calls Try.prog 12 #[.slice (some ⟨Gs 1, 0, none⟩) a.length (Cs 1), .slice (some ⟨Gts 1, 0, none⟩) a.length (Cts 1)] (wts.drewN n) fun e w'' => e = .returned (.bool true) ∧ ∃ n, w'' = wts.drewN n := fun n =>
          (ints_any' (nth (starM a.length a) 1) (nth (starM a.length a) 1) _ _ _ _ (wts.drewN n) (by rw [Ints, tabS.rows 1 hn1]; exact rsF) (by rw [Ints, tabS.rows 1 hn1]; exact rtF) (by rw [tabS.rows 1 hn1]; exact la) (by rw [tabS.rows 1 hn1]; exact la) (tabS.rows 1 hn1).symm (tabS.rows 1 hn1).symm).mono (fun e w' h => by rw [decide_eq_true rfl] at h; exact RetQ.quiet h)
        clear s1 rs1 rsF rtF
        go_wp2
        go_quiet (first | (go_at_call 12; exact hC _))
        have hQs : Fr (fun k => k = Gs 0) w7 (wts.drewN nq) := (hFs.trans' hFts (fun _ _ h => h.elim)).drewN nq
        have hM7 := (hM.fr (hF5.trans (hF6.trans hF7)) (fun _ _ _ h => h)).fr hQs (fun k hk _ h => by have := (hS.row 0 (by rw [tabS.len]; omega)).lt _ rfl; omega)
        have hBm := hF13
        obtain ⟨bm, om, rfl, m0, -⟩ := OMat.cells (hM7) tabM.len tabM.rows 0 0 (by omega) (by omega)
        rw [Nat.add_zero] at m0
        have hrm := (hM7).row 0 (by rw [tabM.len]; omega)
        rw [tabM.rows 0 (by omega)] at hrm
        have hgm := (hM7).gn 0 (by rw [tabM.len]; omega)
        go_wp2_with (go_at_call 23; refine (spoil_any _ _ _ _ _ (tabM.rows 0 (by omega)) hrm).mono ?_)
        intro em wm Rm
        obtain ⟨rfl, hFm⟩ := Rm
        have hSm := ((hUs.drewN nq)).trans' hFm (fun i hi h => by have hq := (hBm).size; omega)
        go_wp2_with (go_at_call 17; refine (mul_ok rfl lB.out a b aa ab ca cb A B CA CB _ (hA.fr (hFw1.trans hSm) (fun _ _ h => h)) (hB.fr (hFw1.trans hSm) (fun _ _ h => h)) hTa hTb).mono ?_)
        intro etm wtm RRm
        obtain ⟨atm, ctm, obtm, Gtm, Ctm, rfl, hTm, hFtm⟩ := RRm
        have hUm := hSm.trans hFtm
        have hn1i : (1 : Int) < (a.length : Int) := by omega
        obtain ⟨_, _, hh, s1, -⟩ := OMat.cells (hM7) tabM.len tabM.rows 1 0 (by omega) (by omega)
        cases hh
        obtain ⟨bt, ot, rfl, t1, -⟩ := OMat.cells hTm tabM.len tabM.rows 1 0 (by omega) (by omega)
        have rs1 := (hM7).row 1 (by rw [tabM.len]; omega)
        have hne := (hM7).inj 1 0 (by rw [tabM.len]; omega) (by rw [tabM.len]; omega)
        have hnt : ¬ bm = Gm 0 := fun h => ((hM7).obn bm (by have hx := (hM7).top.pos (by rw [tabM.len]; omega); obtain ⟨g', k1, k2, _⟩ := hx; cases k1; exact k2)).2 0 (by rw [tabM.len]; omega) h.symm
        have rsF := (rs1.fr hFm (fun g hg h => by cases hg; have := hne h; omega)).rd.fr0 hFtm (fun _ _ h => h)
        have rtF := (hTm.row 1 (by rw [tabM.len]; omega)).rd
        have s2 := (hFtm.cell (p := ⟨bm, om + 1, none⟩) (by have := (hFm).size; have := (hM7).top.pos (by rw [tabM.len]; omega); obtain ⟨g', k1, k2, k3, _⟩ := this; cases k1; show bm < _; omega) (fun h => h)).trans ((hFm.cell (p := ⟨bm, om + 1, none⟩) (by have := (hM7).top.pos (by rw [tabM.len]; omega); obtain ⟨g', k1, k2, k3, _⟩ := this; cases k1; exact k3) hnt).trans s1)
        rw [tabM.rows 1 hn1] at rsF rtF
        have hC : ∀ n, Calls Try.prog 12 #[.slice (some ⟨Gm 1, 0, none⟩) a.length (Cm 1), .slice (some ⟨Gtm 1, 0, none⟩) a.length (Ctm 1)] (wtm.drewN n) fun e w'' => e = .returned (.bool true) ∧ ∃ n, w'' = wtm.drewN n := fun n =>
          (ints_any' (nth ((mulM a.length a b)) 1) (nth ((mulM a.length a b)) 1) _ _ _ _ (wtm.drewN n) (by rw [Ints, tabM.rows 1 hn1]; exact rsF) (by rw [Ints, tabM.rows 1 hn1]; exact rtF) (by rw [tabM.rows 1 hn1]; exact la) (by rw [tabM.rows 1 hn1]; exact la) (tabM.rows 1 hn1).symm (tabM.rows 1 hn1).symm).mono (fun e w' h => by rw [decide_eq_true rfl] at h; exact RetQ.quiet h)
        clear s1 rs1 rsF rtF
        go_wp2
        go_quiet (first | (go_at_call 12; exact hC _))
        go_wp2_with (go_at_call 21; refine (srows_eq a ap aa cp ca _ A _ CA _ (hP.fr (hUm.drewN nq) (fun _ _ _ h => h)).mat (hA.fr (hFw1.trans (hUm.drewN nq)) (fun _ _ h => h)) la).mono ?_)
        intro ez wz Rz
        obtain ⟨rfl, nz, hwz⟩ := Rz
        have hFz : Fr (fun _ => False) w wz := by rw [hwz]; exact (hFw1.trans (hUm.drewN nq)).drewN nz
        clear hwz
        go_wp2
        go_ret
        exact RetV.mk rfl rfl hFz
      · have cbb : decide ((1 : Int) < (a.length : Int)) = false := decide_eq_false (by omega)
        go_wp2
        go_quiet (fail)
        have hQs : Fr (fun k => k = Gs 0) w7 (wts.drewN nq) := (hFs.trans' hFts (fun _ _ h => h.elim)).drewN nq
        have hM7 := (hM.fr (hF5.trans (hF6.trans hF7)) (fun _ _ _ h => h)).fr hQs (fun k hk _ h => by have := (hS.row 0 (by rw [tabS.len]; omega)).lt _ rfl; omega)
        have hBm := hF13
        obtain ⟨bm, om, rfl, m0, -⟩ := OMat.cells (hM7) tabM.len tabM.rows 0 0 (by omega) (by omega)
        rw [Nat.add_zero] at m0
        have hrm := (hM7).row 0 (by rw [tabM.len]; omega)
        rw [tabM.rows 0 (by omega)] at hrm
        have hgm := (hM7).gn 0 (by rw [tabM.len]; omega)
        go_wp2_with (go_at_call 23; refine (spoil_any _ _ _ _ _ (tabM.rows 0 (by omega)) hrm).mono ?_)
        intro em wm Rm
        obtain ⟨rfl, hFm⟩ := Rm
        have hSm := ((hUs.drewN nq)).trans' hFm (fun i hi h => by have hq := (hBm).size; omega)
        go_wp2_with (go_at_call 17; refine (mul_ok rfl lB.out a b aa ab ca cb A B CA CB _ (hA.fr (hFw1.trans hSm) (fun _ _ h => h)) (hB.fr (hFw1.trans hSm) (fun _ _ h => h)) hTa hTb).mono ?_)
        intro etm wtm RRm
        obtain ⟨atm, ctm, obtm, Gtm, Ctm, rfl, hTm, hFtm⟩ := RRm
        have hUm := hSm.trans hFtm
        have cbb : decide ((1 : Int) < (a.length : Int)) = false := decide_eq_false (by omega)
        go_wp2
        go_quiet (fail)
        go_wp2_with (go_at_call 21; refine (srows_eq a ap aa cp ca _ A _ CA _ (hP.fr (hUm.drewN nq) (fun _ _ _ h => h)).mat (hA.fr (hFw1.trans (hUm.drewN nq)) (fun _ _ h => h)) la).mono ?_)
        intro ez wz Rz
        obtain ⟨rfl, nz, hwz⟩ := Rz
        have hFz : Fr (fun _ => False) w wz := by rw [hwz]; exact (hFw1.trans (hUm.drewN nq)).drewN nz
        clear hwz
        go_wp2
        go_ret
        exact RetV.mk rfl rfl hFz

  · have hk : ∃ k, starE a = .error k := by
      unfold starE
      cases h : matErr a with
      | some k => exact ⟨k, rfl⟩
      | none => exact absurd h hT
    have hk2 : ∃ k, mulE a b = .error k := by
      unfold mulE
      cases h : matErr a with
      | some k => exact ⟨k, rfl⟩
      | none => exact absurd h hT
    clear hT
    obtain ⟨k, hk⟩ := hk
    obtain ⟨k2, hk2⟩ := hk2
    rw [hk] at R3
    obtain ⟨rfl, hF3⟩ := R3
    clear hk
    have hF13 := hF2.trans hF3
    go_wp2_with (go_at_call 17; refine (mul_mat a b ap aq cp cq _ _ _ _ _ (hP.fr hF13 (fun _ _ _ h => h)).mat (hQ.fr hF3 (fun _ _ _ h => h)).mat la lb).mono ?_)
    intro e4 w4 R4
    rw [hk2] at R4
    obtain ⟨rfl, hF4⟩ := R4
    clear hk2
    have hF14 := hF13.trans hF4
    go_wp2_with (go_at_call 16; refine (one_any 1 _).mono ?_)
    intro e5 w5 R5
    obtain ⟨a1, c1, ob1, G1, C1, rfl, -, hF5⟩ := R5.get (n := 1) oneM_one rfl
    have hF15 := hF14.trans hF5
    go_wp2_with (go_at_call 21; refine (srows_eq a ap aa cp ca _ A _ CA _ (hP.fr hF15 (fun _ _ _ h => h)).mat (hA.fr (hFw1.trans hF15) (fun _ _ h => h)) la).mono ?_)
    intro e6 w6 R6
    obtain ⟨rfl, q6, hw6⟩ := R6
    have hF6 : Fr (fun _ => False) w5 w6 := by rw [hw6]; exact (Fr.refl _ _).drewN q6
    have HW6 := Lib.hid hw6
    clear hw6
    have hF16 := hF15.trans hF6
    go_wp2_with (go_at_call 21; refine (srows_eq b aq ab cq cb _ B _ CB _ (hQ.fr (hF3.trans (hF4.trans (hF5.trans hF6))) (fun _ _ _ h => h)).mat (hB.fr (hFw1.trans hF16) (fun _ _ h => h)) lb).mono ?_)
    intro e7 w7 R7
    obtain ⟨rfl, q7, hw7⟩ := R7
    have hF7 : Fr (fun _ => False) w6 w7 := by rw [hw7]; exact (Fr.refl _ _).drewN q7
    have HW7 := Lib.hid hw7
    clear hw7
    have hF17 := hF16.trans hF7
    go_wp2_with (go_at_call 21; refine (srows_eq a ap aa cp ca _ A _ CA _ (hP.fr hF17 (fun _ _ _ h => h)).mat (hA.fr (hFw1.trans hF17) (fun _ _ h => h)) la).mono ?_)
    intro ez wz Rz
    obtain ⟨rfl, nz, hwz⟩ := Rz
    have hFz : Fr (fun _ => False) w wz := by rw [hwz]; exact (hFw1.trans hF17).drewN nz
    clear hwz
    go_wp2
    go_ret
    exact RetV.mk rfl rfl hFz

end Go.Proofs.Ytlmoaompmiobjaa
