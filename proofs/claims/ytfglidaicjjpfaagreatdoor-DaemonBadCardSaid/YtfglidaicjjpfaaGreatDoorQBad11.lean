import Derived.Test.YtfglidaicjjpfaaGreatDoorQBad10
import Derived.Test.YtfglidaicjjpfaaGreatDoorQBad8
section
namespace Go.Proofs.YtfglidaicjjpfaaGreatDoor
open Go.RowKit
/-- Is an error the one told? -/
theorem error_any (x : Option Int) (k : Int) (w : World) (hg : Hd w) : Calls Tryz.prog 13 #[errT x, .int .i64 k] w (RetV w (.bool (errN x == k))) := by
  go_enter Tryz.func13, Tryz.ntmps13
  go_wp2_with (go_at_call 49; refine (told_any x _ hg).mono ?_)
  rintro e1 w1 ⟨rfl, F1⟩
  go_wp2
  go_ret
  exact RetV.mk rfl rfl F1
end Go.Proofs.YtfglidaicjjpfaaGreatDoor
end

section
namespace Go.Proofs.YtfglidaicjjpfaaGreatDoor
open Go.RowKit

set_option maxRecDepth 100000 in
set_option maxHeartbeats 64000000 in
theorem daemonBad_any (costs : List Int) (ac : Option Addr) (cc : Nat) (own : List Nt) (ao : Option Addr) (co : Nat) (ask : Bool) (es : List En) (A : Option Addr) (C : Nat) (raw : List Int) (ar : Option Addr) (cr : Nat) (f : Int) (w : World) (hg : Hd w)
    (hC : Ints w.heap ac costs) (hcl : costs.length * 8 ≤ 140737488351232) (hcn : ac = none → costs = []) (hO : Recs w.heap ao 2 Nt.cells own) (how : ∀ x ∈ own, 0 ≤ x.a ∧ x.a < 4294967296) (hol : own.length * 16 ≤ 140737488351232) (hon : ao = none → own = []) (hcap : own.length ≤ co)
    (hM : Recs w.heap A 5 En.cells es) (hew : ∀ e ∈ es, En.wf e) (hel : es.length ≤ 9223372036854775806)
    (hR : Rd w.heap ar raw.length 1 (ivals .u8 raw)) (hrb : ∀ x ∈ raw, 0 ≤ x ∧ x < 256) (hrc : raw.length ≤ cr) (hrl : raw.length ≤ 9223372036854775000) :
    Calls Tryz.prog 3 #[.slice ac costs.length cc, .slice ao own.length co, .agg #[.bool ask, .slice A es.length C], .slice ar raw.length cr, .int .i64 f] w (RetV w (.bool true)) := by
  have hB0 := Blk.made w 26 [.bool ask, .slice A es.length C]
  have hF0 := (Fr.refl (fun _ => False) w).alloc (.cells #[.bool ask, .slice A es.length C] 26)
  have HM := Lib.hid hM
  have HR := Lib.hid hR
  have HRB := Lib.hid hrb
  have HG := Lib.hid hg
  have hC0 := hC.fr0 hF0 (fun _ _ h => h)
  have hO0 := hO.fr hF0 (fun _ _ _ h => h)
  clear hM hR hrb hg hC hO
  go_enter Tryz.func3, Tryz.ntmps3
  go_wp2_with (fail)
  refine (routed_any _).mono ?_
  rintro e1 w1 ⟨rfl, hF1⟩
  have hF01 := hF0.trans hF1
  have hB1 := hB0.fr hF1 (fun h => h)
  have hs1 := hF01.size
  have hcall := dnew_any costs ac cc own ao co w1 (hC0.fr0 hF1 (fun _ _ h => h)) hcl hcn (hO0.fr hF1 (fun _ _ _ h => h)) how hol hon hcap rfl rfl
  clear hB0 hF0 hF1 hC0 hO0 hcn how hon
  go_wp2_with (fail)
  refine hcall.mono ?_
  intro e2 w2 R2
  cases hE : dnewE costs own with
  | some q =>
    obtain ⟨rfl, hF2⟩ := R2.errE hE
    have hF02 := hF01.trans hF2
    clear R2 hE hcall
    go_wp2
    go_ret
    exact RetV.mk rfl rfl hF02
  | none =>
    obtain ⟨D, rfl, hDc, hDo, hlo, hhi, hD, hF2⟩ := R2.okE hE
    have hF02 := hF01.trans hF2
    have hD2 := hD w2.heap.size (Nat.le_refl _)
    have HDC := Lib.hid hDc
    have hB2 := hB1.fr hF2 (fun h => h)
    have b0 := hB2.cell 0
    have b1 := hB2.cell 1
    have bl := hB2.lt
    simp only [List.getElem?_cons_zero, List.getElem?_cons_succ] at b0 b1
    have hbd := hD2.lbd
    have hbr := hD2.lbr
    have hcl8 := hD2.c8
    have hc8 : costs.length ≤ 8 := by rw [← hDc]; exact hcl8
    obtain ⟨base, hbase⟩ : ∃ b, b = w2.heap.size := ⟨_, rfl⟩
    rw [← hbase] at hD2
    have hcallE := encode_any ask es A C w2 (HM.out.fr hF02 (fun _ _ _ h => h)) hew hel rfl
    clear R2 hE hcall hD hDc hDo hF01 hB1 hB2 hF2
    go_wp2_with (fail)
    refine hcallE.mono ?_
    intro e3 w3 R3
    cases hme : msgErr es with
    | some q =>
      obtain ⟨rfl, hF3⟩ := R3.errE hme
      have hsB := hF3.size
      have hDB := hD2.fr0 hF3
      have hFB := hF02.trans hF3
      obtain ⟨l, bad, hDB, hbd0⟩ : ∃ (l : List Td) (bad : Int), Dmn w3 base D 0 l bad ∧ 0 ≤ bad ∧ bad ≤ 1 := ⟨_, _, hDB, by omega, by omega⟩
      clear R3 hcallE hme hF3 hF02 b0 b1 bl hD2
      generalize w3 = wB at *
      have hcT1 := dtab_any wB hDB
      go_wp2_with (fail)
      refine hcT1.mono ?_
      rintro eT wT ⟨R1, aR1, cR1, obR1, rfl, hA1, hR1, hFT⟩
      have hDT := hDB.fr0 hFT
      have HDB := Lib.hid hDB
      have HA1 := Lib.hid hA1
      have HR1 := Lib.hid hR1
      have hR1l := hR1.len
      have hlt := hDB.lt
      have hsT := hFT.size
      obtain ⟨n1, hn1⟩ : ∃ n, n = R1.length := ⟨_, rfl⟩
      rw [← hn1] at hR1l ⊢
      have HN1 := Lib.hid hn1
      have hF0T := hFB.trans hFT
      have hcb := dbad_any wT hDT
      clear hcT1 hDB hA1 hR1 hFT hFB hn1
      go_wp2_with (fail)
      refine hcb.mono ?_
      rintro eQ wQ ⟨rfl, rfl⟩
      have hcD := decode_any raw ar cr wT (HR.out.fr hF0T (fun _ _ _ h => h)) HRB.out hrc hrl rfl
      clear hcb
      go_wp2_with (fail)
      refine hcD.mono ?_
      intro eD wD RD
      cases hd : decD raw with
      | ok r =>
        obtain ⟨ask2, es2⟩ := r
        rw [hd] at RD
        obtain ⟨aD, cD, obD, rfl, -, hFD, -, -, -⟩ := RD
        have hFDa := hFD.alloc (.cells #[.bool ask2, .slice aD es2.length cD] 26)
        have hDD := hDT.fr0 hFDa
        have hF0D := hF0T.trans hFDa
        have hsD := hFDa.size
        have hcH := dhear_any raw ar cr f 5 _ hDD (by omega) (by omega) (HR.out.fr hF0D (fun _ _ _ h => h)) HRB.out hrc hrl rfl
        clear hcD hd hFD hFDa hDD hDT hF0T
        go_wp2_with (fail)
        refine hcH.mono ?_
        rintro eH wH ⟨rfl, -, hFH⟩
        have hFe := Fr.dm hF0D hFH (by omega) (by omega)
        generalize (hearM D 0 l bad raw f 5).err = er5 at *
        clear hcH hFH
        go_wp2
        go_ret
        exact RetV.mk rfl rfl hFe
      | error kk =>
        rw [hd] at RD
        obtain ⟨rfl, hFD⟩ := RD
        have hFDa := hFD.alloc (.cells #[.bool false, .slice none 0 0] 26)
        have hDD := hDT.fr0 hFDa
        have hF0D := hF0T.trans hFDa
        have hsD := hFDa.size
        have HAD := Lib.hid (HA1.out.fr0 hFDa)
        have hcH := dhear_any raw ar cr f 5 _ hDD (by omega) (by omega) (HR.out.fr hF0D (fun _ _ _ h => h)) HRB.out hrc hrl rfl
        have HD0 := Lib.hid hd
        clear hcD hd hFD hFDa hDT hF0T
        by_cases hf : f < 0 ∨ (costs.length : Int) ≤ f
        · have hM : hearM D 0 l bad raw f 5 = ⟨some 1, 0, l, bad⟩ := hearM_time (by unfold timeErr; rw [HDC.out]; omega)
          rw [hM] at hcH
          have hq : decide (f < 0) = true ∨ (decide (f < 0) = false ∧ decide ((costs.length : Int) ≤ f) = true) := by
            by_cases h : f < 0
            · exact .inl (decide_eq_true h)
            · exact .inr ⟨decide_eq_false h, decide_eq_true (by omega)⟩
          clear hM hf hDD
          go_wp2_with (fail)
          refine hcH.mono ?_
          rintro eH wH ⟨rfl, hDH, hFH⟩
          rw [show errO (some 1) = errv 1 from rfl]
          have hDH : Dmn wH base D 0 l bad := hDH
          have hFH0 := Fr.dm hF0D hFH (by omega) (by omega)
          have HAH := Lib.hid (HAD.out.dm hFH (by omega) (by omega))
          have hcT2 := dtab_any wH hDH
          have HDH := Lib.hid hDH
          clear hcH hFH hF0D hDH
          go_wp2_with (fail)
          refine hcT2.mono ?_
          rintro eU wU ⟨R2, aR2, cR2, obR2, rfl, hA2, hR2, hFU⟩
          obtain ⟨p1, p2⟩ := tab_same (D := D) (E := D) rfl rfl hR2 HR1.out
          have hb1 := (HAH.out.fr0 hFU).tells (TabR.h4 HDB.out HR1.out)
          have hb2 := hA2.tells (TabR.h4 HDH.out hR2)
          have hFe := hFH0.trans hFU
          have hDU := HDH.out.fr0 hFU
          have hR2l := hR2.len
          have hsb := sbests_true (n := R2.length) (k := n1) R2 R1 aR2 aR1 cR2 cR1 wU hb2 hb1 (Lib.hid p2) p1 (by omega) rfl (by rw [HN1.out]; exact p1)
          clear hcT2 hA2 hR2 hb1 hb2 p1 p2 hFU hFH0 hR2l
          go_wp2_with (fail)
          refine hsb.mono ?_
          rintro eZ wZ ⟨rfl, hFZ⟩
          have hFz := hFe.trans hFZ
          have hDZ := hDU.fr0 hFZ
          have hce := error_any (some 1) 1 wZ (HG.out.none hFz)
          clear hsb hFZ hFe hDU
          rcases hq with g1 | ⟨g1, g2⟩
          all_goals
            go_wp2_with (fail)
            refine hce.mono ?_
            rintro eE wE ⟨rfl, hFE⟩
            rw [show (errN (some 1) == 1) = true from rfl]
            have hFx := hFz.trans hFE
            have hcb2 := dbad_any wE (hDZ.fr0 hFE)
            go_wp2_with (fail)
            refine hcb2.mono ?_
            rintro eV wV ⟨rfl, rfl⟩
            have g9 : (bad == bad) = true := by simp
            clear hcb2 hce
            go_wp2
            go_ret
            exact RetV.mk rfl rfl hFx
        · have hM : hearM D 0 l bad raw f 5 = ⟨some kk, 0, l, bad + 1⟩ := hearM_bad (by unfold timeErr; rw [HDC.out]; omega) HD0.out
          rw [hM] at hcH
          have g1 : decide (f < 0) = false := decide_eq_false (by omega)
          have g2 : decide ((costs.length : Int) ≤ f) = false := decide_eq_false (by omega)
          clear hM hf hDD
          go_wp2_with (fail)
          refine hcH.mono ?_
          rintro eH wH ⟨rfl, hDH, hFH⟩
          rw [show errO (some kk) = errv kk from rfl]
          have hDH : Dmn wH base D 0 l (bad + 1) := hDH
          have hFH0 := Fr.dm hF0D hFH (by omega) (by omega)
          have HAH := Lib.hid (HAD.out.dm hFH (by omega) (by omega))
          have hcT2 := dtab_any wH hDH
          have HDH := Lib.hid hDH
          clear hcH hFH hF0D hDH
          go_wp2_with (fail)
          refine hcT2.mono ?_
          rintro eU wU ⟨R2, aR2, cR2, obR2, rfl, hA2, hR2, hFU⟩
          obtain ⟨p1, p2⟩ := tab_same (D := D) (E := D) rfl rfl hR2 HR1.out
          have hb1 := (HAH.out.fr0 hFU).tells (TabR.h4 HDB.out HR1.out)
          have hb2 := hA2.tells (TabR.h4 HDH.out hR2)
          have hFe := hFH0.trans hFU
          have hDU := HDH.out.fr0 hFU
          have hR2l := hR2.len
          have hsb := sbests_true (n := R2.length) (k := n1) R2 R1 aR2 aR1 cR2 cR1 wU hb2 hb1 (Lib.hid p2) p1 (by omega) rfl (by rw [HN1.out]; exact p1)
          clear hcT2 hA2 hR2 hb1 hb2 p1 p2 hFU hFH0 hR2l
          go_wp2_with (fail)
          refine hsb.mono ?_
          rintro eZ wZ ⟨rfl, hFZ⟩
          have hFz := hFe.trans hFZ
          have hDZ := hDU.fr0 hFZ
          have hce := told2_any (some kk) (some kk) wZ (HG.out.none hFz)
          clear hsb hFZ hFe hDU
          go_wp2_with (fail)
          refine hce.mono ?_
          rintro eE wE ⟨rfl, hFE⟩
          rw [show (errN (some kk) == errN (some kk)) = true by simp]
          have hFx := hFz.trans hFE
          have hcb2 := dbad_any wE (hDZ.fr0 hFE)
          clear hce
          go_wp2_with (fail)
          refine hcb2.mono ?_
          rintro eV wV ⟨rfl, rfl⟩
          have g9 : (bad + 1 == bad + 1) = true := by simp
          clear hcb2
          go_wp2
          go_ret
          exact RetV.mk rfl rfl hFx
    | none =>
      obtain ⟨a3, c3, ob3, rfl, hO3, hF3, hN3⟩ := R3.okE hme
      have hel8 := encD_len ask es
      have hes25 := (msgErr_ok hme).1
      obtain ⟨b, hbq⟩ : ∃ b, b = encD ask es := ⟨_, rfl⟩
      have hbb : ∀ x ∈ b, 0 ≤ x ∧ x < 256 := by rw [hbq]; exact encD_bd ask es
      rw [← hbq] at hO3 hel8 ⊢
      have hcap3 := hO3.cap
      have hb504 : b.length ≤ 504 := by omega
      have hs3 := hF3.size
      have hF03 := hF02.trans hF3
      have hD3 := hD2.fr0 hF3
      have hcall9 := dhear_any b a3 c3 0 0 w3 hD3 (by omega) (by omega) hO3.rd hbb (by omega) (by omega) rfl
      clear R3 hcallE hme hF3 hF02 b0 b1 bl hel8 hbq hes25 hD2
      go_wp2_with (fail)
      refine hcall9.mono ?_
      rintro e4 wB ⟨rfl, hDB, hF4⟩
      obtain ⟨z1, z2, z3⟩ := @hearM_0 D [] 0 b 0
      rw [z1] at hDB
      have hFB := Fr.dm hF03 hF4 (by omega) (by omega)
      have hsB : w2.heap.size ≤ wB.heap.size := Nat.le_trans hs3 hF4.size
      generalize (hearM D 0 [] 0 b 0 0).l = l at *
      generalize (hearM D 0 [] 0 b 0 0).bad = bad at *
      generalize (hearM D 0 [] 0 b 0 0).err = er4 at *
      have hbd0 : 0 ≤ bad ∧ bad ≤ 1 := by omega
      clear hcall9 z1 hD3 hO3 hF4 hF03 hbb
      have hcT1 := dtab_any wB hDB
      go_wp2_with (fail)
      refine hcT1.mono ?_
      rintro eT wT ⟨R1, aR1, cR1, obR1, rfl, hA1, hR1, hFT⟩
      have hDT := hDB.fr0 hFT
      have HDB := Lib.hid hDB
      have HA1 := Lib.hid hA1
      have HR1 := Lib.hid hR1
      have hR1l := hR1.len
      have hlt := hDB.lt
      have hsT := hFT.size
      obtain ⟨n1, hn1⟩ : ∃ n, n = R1.length := ⟨_, rfl⟩
      rw [← hn1] at hR1l ⊢
      have HN1 := Lib.hid hn1
      have hF0T := hFB.trans hFT
      have hcb := dbad_any wT hDT
      clear hcT1 hDB hA1 hR1 hFT hFB hn1
      go_wp2_with (fail)
      refine hcb.mono ?_
      rintro eQ wQ ⟨rfl, rfl⟩
      have hcD := decode_any raw ar cr wT (HR.out.fr hF0T (fun _ _ _ h => h)) HRB.out hrc hrl rfl
      clear hcb
      go_wp2_with (fail)
      refine hcD.mono ?_
      intro eD wD RD
      cases hd : decD raw with
      | ok r =>
        obtain ⟨ask2, es2⟩ := r
        rw [hd] at RD
        obtain ⟨aD, cD, obD, rfl, -, hFD, -, -, -⟩ := RD
        have hFDa := hFD.alloc (.cells #[.bool ask2, .slice aD es2.length cD] 26)
        have hDD := hDT.fr0 hFDa
        have hF0D := hF0T.trans hFDa
        have hsD := hFDa.size
        have hcH := dhear_any raw ar cr f 5 _ hDD (by omega) (by omega) (HR.out.fr hF0D (fun _ _ _ h => h)) HRB.out hrc hrl rfl
        clear hcD hd hFD hFDa hDD hDT hF0T
        go_wp2_with (fail)
        refine hcH.mono ?_
        rintro eH wH ⟨rfl, -, hFH⟩
        have hFe := Fr.dm hF0D hFH (by omega) (by omega)
        generalize (hearM D 0 l bad raw f 5).err = er5 at *
        clear hcH hFH
        go_wp2
        go_ret
        exact RetV.mk rfl rfl hFe
      | error kk =>
        rw [hd] at RD
        obtain ⟨rfl, hFD⟩ := RD
        have hFDa := hFD.alloc (.cells #[.bool false, .slice none 0 0] 26)
        have hDD := hDT.fr0 hFDa
        have hF0D := hF0T.trans hFDa
        have hsD := hFDa.size
        have HAD := Lib.hid (HA1.out.fr0 hFDa)
        have hcH := dhear_any raw ar cr f 5 _ hDD (by omega) (by omega) (HR.out.fr hF0D (fun _ _ _ h => h)) HRB.out hrc hrl rfl
        have HD0 := Lib.hid hd
        clear hcD hd hFD hFDa hDT hF0T
        by_cases hf : f < 0 ∨ (costs.length : Int) ≤ f
        · have hM : hearM D 0 l bad raw f 5 = ⟨some 1, 0, l, bad⟩ := hearM_time (by unfold timeErr; rw [HDC.out]; omega)
          rw [hM] at hcH
          have hq : decide (f < 0) = true ∨ (decide (f < 0) = false ∧ decide ((costs.length : Int) ≤ f) = true) := by
            by_cases h : f < 0
            · exact .inl (decide_eq_true h)
            · exact .inr ⟨decide_eq_false h, decide_eq_true (by omega)⟩
          clear hM hf hDD
          go_wp2_with (fail)
          refine hcH.mono ?_
          rintro eH wH ⟨rfl, hDH, hFH⟩
          rw [show errO (some 1) = errv 1 from rfl]
          have hDH : Dmn wH base D 0 l bad := hDH
          have hFH0 := Fr.dm hF0D hFH (by omega) (by omega)
          have HAH := Lib.hid (HAD.out.dm hFH (by omega) (by omega))
          have hcT2 := dtab_any wH hDH
          have HDH := Lib.hid hDH
          clear hcH hFH hF0D hDH
          go_wp2_with (fail)
          refine hcT2.mono ?_
          rintro eU wU ⟨R2, aR2, cR2, obR2, rfl, hA2, hR2, hFU⟩
          obtain ⟨p1, p2⟩ := tab_same (D := D) (E := D) rfl rfl hR2 HR1.out
          have hb1 := (HAH.out.fr0 hFU).tells (TabR.h4 HDB.out HR1.out)
          have hb2 := hA2.tells (TabR.h4 HDH.out hR2)
          have hFe := hFH0.trans hFU
          have hDU := HDH.out.fr0 hFU
          have hR2l := hR2.len
          have hsb := sbests_true (n := R2.length) (k := n1) R2 R1 aR2 aR1 cR2 cR1 wU hb2 hb1 (Lib.hid p2) p1 (by omega) rfl (by rw [HN1.out]; exact p1)
          clear hcT2 hA2 hR2 hb1 hb2 p1 p2 hFU hFH0 hR2l
          go_wp2_with (fail)
          refine hsb.mono ?_
          rintro eZ wZ ⟨rfl, hFZ⟩
          have hFz := hFe.trans hFZ
          have hDZ := hDU.fr0 hFZ
          have hce := error_any (some 1) 1 wZ (HG.out.none hFz)
          clear hsb hFZ hFe hDU
          rcases hq with g1 | ⟨g1, g2⟩
          all_goals
            go_wp2_with (fail)
            refine hce.mono ?_
            rintro eE wE ⟨rfl, hFE⟩
            rw [show (errN (some 1) == 1) = true from rfl]
            have hFx := hFz.trans hFE
            have hcb2 := dbad_any wE (hDZ.fr0 hFE)
            go_wp2_with (fail)
            refine hcb2.mono ?_
            rintro eV wV ⟨rfl, rfl⟩
            have g9 : (bad == bad) = true := by simp
            clear hcb2 hce
            go_wp2
            go_ret
            exact RetV.mk rfl rfl hFx
        · have hM : hearM D 0 l bad raw f 5 = ⟨some kk, 0, l, bad + 1⟩ := hearM_bad (by unfold timeErr; rw [HDC.out]; omega) HD0.out
          rw [hM] at hcH
          have g1 : decide (f < 0) = false := decide_eq_false (by omega)
          have g2 : decide ((costs.length : Int) ≤ f) = false := decide_eq_false (by omega)
          clear hM hf hDD
          go_wp2_with (fail)
          refine hcH.mono ?_
          rintro eH wH ⟨rfl, hDH, hFH⟩
          rw [show errO (some kk) = errv kk from rfl]
          have hDH : Dmn wH base D 0 l (bad + 1) := hDH
          have hFH0 := Fr.dm hF0D hFH (by omega) (by omega)
          have HAH := Lib.hid (HAD.out.dm hFH (by omega) (by omega))
          have hcT2 := dtab_any wH hDH
          have HDH := Lib.hid hDH
          clear hcH hFH hF0D hDH
          go_wp2_with (fail)
          refine hcT2.mono ?_
          rintro eU wU ⟨R2, aR2, cR2, obR2, rfl, hA2, hR2, hFU⟩
          obtain ⟨p1, p2⟩ := tab_same (D := D) (E := D) rfl rfl hR2 HR1.out
          have hb1 := (HAH.out.fr0 hFU).tells (TabR.h4 HDB.out HR1.out)
          have hb2 := hA2.tells (TabR.h4 HDH.out hR2)
          have hFe := hFH0.trans hFU
          have hDU := HDH.out.fr0 hFU
          have hR2l := hR2.len
          have hsb := sbests_true (n := R2.length) (k := n1) R2 R1 aR2 aR1 cR2 cR1 wU hb2 hb1 (Lib.hid p2) p1 (by omega) rfl (by rw [HN1.out]; exact p1)
          clear hcT2 hA2 hR2 hb1 hb2 p1 p2 hFU hFH0 hR2l
          go_wp2_with (fail)
          refine hsb.mono ?_
          rintro eZ wZ ⟨rfl, hFZ⟩
          have hFz := hFe.trans hFZ
          have hDZ := hDU.fr0 hFZ
          have hce := told2_any (some kk) (some kk) wZ (HG.out.none hFz)
          clear hsb hFZ hFe hDU
          go_wp2_with (fail)
          refine hce.mono ?_
          rintro eE wE ⟨rfl, hFE⟩
          rw [show (errN (some kk) == errN (some kk)) = true by simp]
          have hFx := hFz.trans hFE
          have hcb2 := dbad_any wE (hDZ.fr0 hFE)
          clear hce
          go_wp2_with (fail)
          refine hcb2.mono ?_
          rintro eV wV ⟨rfl, rfl⟩
          have g9 : (bad + 1 == bad + 1) = true := by simp
          clear hcb2
          go_wp2
          go_ret
          exact RetV.mk rfl rfl hFx
end Go.Proofs.YtfglidaicjjpfaaGreatDoor
end
