import Derived.Test.YtfglidaicjjpfaaGreatDoorQTel34
import Derived.BigQuiet
section
namespace Go.Proofs.YtfglidaicjjpfaaGreatDoor
open Go.RowKit Go.Maps

set_option maxRecDepth 100000 in
set_option maxHeartbeats 64000000 in
theorem daemonTells_any (costs : List Int) (ac : Option Addr) (cc : Nat) (own : List Nt) (ao : Option Addr) (co : Nat) (acts froms nows : List Int) (aa af an : Option Addr) (ca cf cn : Nat) (ms : List MsgR) (am : Option Addr) (cm : Nat) (raw : List Int) (ar : Option Addr) (cr : Nat) (tq : Int) (w : World) (hg : Hd w)
    (hC : Ints w.heap ac costs) (hcl : costs.length * 8 ≤ 140737488351232) (hcn : ac = none → costs = []) (hO : Recs w.heap ao 2 Nt.cells own) (how : ∀ x ∈ own, 0 ≤ x.a ∧ x.a < 4294967296) (hol : own.length * 16 ≤ 140737488351232) (hon : ao = none → own = []) (hcap : own.length ≤ co)
    (hA : Ints w.heap aa acts) (hFm : Ints w.heap af froms) (hNw : Ints w.heap an nows) (la : acts.length ≤ 9223372036854770000) (lf : froms.length ≤ 9223372036854775806) (ln : nows.length ≤ 9223372036854775806)
    (hM : Msgs w.heap am ms) (lm : ms.length ≤ 9223372036854775806)
    (hR : Rd w.heap ar raw.length 1 (ivals .u8 raw)) (hrb : ∀ x ∈ raw, 0 ≤ x ∧ x < 256) (hrc : raw.length ≤ cr) (hrl : raw.length ≤ 9223372036854775000) :
    Calls Tryz.prog 4 #[.slice ac costs.length cc, .slice ao own.length co, .slice aa acts.length ca, .slice af froms.length cf, .slice an nows.length cn, .slice am ms.length cm, .slice ar raw.length cr, .int .i64 tq] w (RetV w (.bool true)) := by
  have HM := Lib.hid hM
  have HR := Lib.hid hR
  have HRB := Lib.hid hrb
  have HG := Lib.hid hg
  have HC := Lib.hid hC
  have HO := Lib.hid hO
  have HW := Lib.hid how
  have HA := Lib.hid hA
  have HFS := Lib.hid hFm
  have HNS := Lib.hid hNw
  have hcallN := fun (W : World) (f : Fr (fun _ => False) w W) => dnew_any costs ac cc own ao co W (hC.fr0 f (fun _ _ h => h)) hcl hcn (hO.fr f (fun _ _ _ h => h)) how hol hon hcap rfl rfl
  have HCN := Lib.hid hcallN
  clear hM hR hrb hg hC hO how hA hFm hNw hcn hon hcallN
  go_enter Tryz.func4, Tryz.ntmps4
  go_wp2_with (fail)
  refine (routed_any _).mono ?_
  rintro e1 w1 ⟨rfl, hF1⟩
  go_wp2_with (fail)
  refine (HCN.out w1 hF1).mono ?_
  intro e2 w2 R2
  obtain ⟨dv, hdv, hF2, hRD⟩ : ∃ dv : Value, e2 = .returned (.tuple #[dv, errT (dnewE costs own)]) ∧ Fr (fun _ => False) w1 w2 ∧ ((∃ q, dnewE costs own = some q ∧ dv = .pointer none) ∨ (dnewE costs own = none ∧ ∃ D : DC, dv = .pointer (some ⟨D.bd, 0, none⟩) ∧ D.costs = costs ∧ D.own = own ∧ w1.heap.size ≤ D.lo ∧ D.hi = w2.heap.size ∧ (∀ base, w2.heap.size ≤ base → Dmn w2 base D 0 [] 0))) := by
    cases hE : dnewE costs own with
    | some q => obtain ⟨h1, h2⟩ := R2.errE hE; exact ⟨_, h1, h2, .inl ⟨q, rfl, rfl⟩⟩
    | none => obtain ⟨D, h1, h2, h3, h4, h5, h6, h7⟩ := R2.okE hE; exact ⟨_, h1, h7, .inr ⟨rfl, D, rfl, h2, h3, h4, h5, h6⟩⟩
  subst hdv
  have hF02 := hF1.trans hF2
  have HRD := Lib.hid hRD
  have hs1 := hF1.size
  obtain ⟨er, her⟩ : ∃ er, er = errT (dnewE costs own) := ⟨_, rfl⟩
  rw [← her]
  have HER := Lib.hid her
  clear R2 hRD hF2 HCN her hF1
  go_wp2_with (fail)
  refine (nearFault_any (n := costs.length) costs ac cc w2 (HC.out.fr0 hF02 (fun _ _ h => h)) rfl (by omega)).mono ?_
  rintro e3 w3 ⟨rfl, rfl⟩
  have hX0 := ownE_0 costs own
  generalize numO (nearE costs) = e0 at *
  go_upto_block 0 with (fail)
  go_cut [20, 21] (fun s20 s21 wx => ∃ (e : Int), s20 = .int .i64 e ∧ Fr (fun _ => False) w2 wx ∧ OwnF costs own e)
  case first =>
    --[[A
    as_aux_lemma =>
    go_wp2
    go_loopw [21, 20] (fun s21 s20 wr => ∃ (i : Nat) (e : Int), s21 = .int .i64 i ∧ s20 = .int .i64 e ∧ Fr (fun _ => False) w2 wr ∧ OwnE costs own i e) (fun s _ _ => own.length - (intOf s).toNat)
    case atStart => exact ⟨0, e0, rfl, rfl, Fr.refl _ _, hX0⟩
    case round =>
      clear hX0
      obtain ⟨i, e, rfl, rfl, hF, hX⟩ := hrel
      by_cases he : e = 0
      · subst he
        by_cases hi : i < own.length
        · have s1 : decide (i < own.length) = true := decide_eq_true hi
          have hFw := hF02.trans hF
          obtain ⟨g, o, rfl, hgl, hgc⟩ := Recs.pos HO.out Nt.cells_len (by omega) (by omega)
          have d0 := (hFw.cell (p := ⟨g, o + (i * 2 + 0), none⟩) hgl (fun h => h)).trans (hgc w rfl i 0 hi (by omega))
          have d1 := (hFw.cell (p := ⟨g, o + (i * 2 + 1), none⟩) hgl (fun h => h)).trans (hgc w rfl i 1 hi (by omega))
          have hwx := HW.out _ (nth_mem own i hi)
          have hxb := @ownE_bad costs own i hX hi
          have hxt := ownE_twice hX hi
          have hxn := ownE_next hX hi
          have hRt : ∀ W, Fr (fun _ => False) w W → Recs W.heap (some ⟨g, o, none⟩) 2 Nt.cells (own.take i) := fun W f => by
            have h := Rd.takeK (HO.out.fr f (fun _ _ _ h => h)) i (by omega)
            unfold Recs
            rw [List.length_take, Nat.min_eq_left (by omega), ← flat_take Nt.cells 2 Nt.cells_len own i]
            exact h
          have HRT := Lib.hid hRt
          generalize nth own i = x at *
          obtain ⟨xa, xn⟩ := x
          simp only [Nt.cells, List.getElem?_cons_zero, List.getElem?_cons_succ, ← Nat.add_assoc, Nat.add_zero] at d0 d1
          simp only at hwx hxb hxt hxn
          have hgr := Nat.lt_of_lt_of_le hgl hFw.size
          have hil : (own.take i).length = i := List.length_take_of_le (by omega)
          have hco : i ≤ co := by omega
          have hcall := netFault_any xa xn wr hwx
          clear hRt hgc
          cases hne : netErr xa xn with
          | some k =>
            have HX := Lib.hid (hxb hne)
            rw [hne] at hcall
            have hk0 := netErr_pos hne
            have s2 : (k == 0) = false := by simp [hk0]
            simp only [numO] at hcall
            clear hxb hxt hxn hne hk0
            go_wp2_with (fail)
            refine hcall.mono ?_
            rintro e5 w5 ⟨rfl, hF5⟩
            have hF35 := hF.trans hF5
            clear hcall hF5
            go_wp2
            go_quiet (fail)
            go_wp2
            go_roundw
            case rel => exact ⟨i + 1, k, by go_num, rfl, hF35.drewN nq, HX.out⟩
            case measure => simp [intOf]; omega
          | none =>
            rw [hne] at hcall
            simp only [numO] at hcall
            have HXT := Lib.hid (hxt hne)
            have HXN := Lib.hid (hxn hne)
            clear hxb hxt hxn hne
            go_wp2_with (fail)
            refine hcall.mono ?_
            rintro e5 w5 ⟨rfl, hF5⟩
            have hF35 := hF.trans hF5
            have hF05 := hFw.trans hF5
            have x0 := (hF5.cell (p := ⟨g, o + i * 2, none⟩) hgr (fun h => h)).trans d0
            have x1 := (hF5.cell (p := ⟨g, o + i * 2 + 1, none⟩) hgr (fun h => h)).trans d1
            have hg5 := Nat.lt_of_lt_of_le hgr hF5.size
            have hpl := placesB_any (n := i) (own.take i) ⟨xa, xn⟩ (some ⟨g, o, none⟩) co w5.drew (HRT.out _ hF05.drew) (by omega) hil.symm
            clear hcall hF5 d0 d1
            go_wp2
            (refine wp_region_mix (fun _ => True) 10 (by kernel_rfl) (by kernel_rfl) (trivial) ?_; simp only [List.take_succ_cons, List.take_zero, List.drop_succ_cons, List.drop_zero])
            (refine wpMix_earlyN 10 (by kernel_rfl) (by kernel_rfl) ?_; simp only [List.take_succ_cons, List.take_zero, List.drop_succ_cons, List.drop_zero]; (repeat (go_big_quiet_step (fail))); refine wpQuiet_nil ?_)
            refine wpMix_nil ?_
            go_wp2_with (fail)
            refine hpl.mono ?_
            rintro e6 w6 ⟨p, rfl, hF6, hp1, -, -, -⟩
            have hF36 : Fr (fun _ => False) w2 w6 := hF35.drew.trans hF6
            clear hpl hF6 hF35
            by_cases hin : (⟨xa, xn⟩ : Nt) ∈ own.take i
            · simp only [hin, decide_true] at hp1
              have HX := Lib.hid (HXT.out hin)
              clear hin
              go_wp2
              go_roundw
              case rel => exact ⟨i + 1, 5, by go_num, rfl, hF36, HX.out⟩
              case measure => simp [intOf]; omega
            · simp only [hin, decide_false] at hp1
              have HX := Lib.hid (HXN.out hin)
              clear hin
              go_wp2
              go_roundw
              case rel => exact ⟨i + 1, 0, by go_num, rfl, hF36, HX.out⟩
              case measure => simp [intOf]; omega
        · have s1 : decide (i < own.length) = false := decide_eq_false hi
          have HE := ownE_end hX (.inr (by omega))
          clear hX
          go_wp2
          go_meet
          case rel => exact ⟨0, rfl, hF, HE⟩
      · have s0 : (e == 0) = false := by simp [he]
        have HE := ownE_end hX (.inl he)
        clear hX
        go_wp2
        go_meet
        case rel => exact ⟨e, rfl, hF, HE⟩
    --]]
  case rest =>
    obtain ⟨e, rfl, hF2c, hE⟩ := hcut
    have hF0c := hF02.trans hF2c
    clear hX0
    rcases HRD.out with ⟨q, hdq, rfl⟩ | ⟨hdq, D, rfl, hDc, hDo, hlo, hhi, hDm⟩
    · --[[B
      obtain ⟨hq0, hq⟩ := ownF_bad hE hdq
      have HEQ := Lib.hid (HER.out.trans (show errT (dnewE costs own) = errT (some q) by rw [hdq]))
      clear HRD HER hE
      have hte : ∀ W, Fr (fun _ => False) w W → Calls Tryz.prog 13 #[er, .int .i64 q] W (RetV W (.bool true)) := fun W f => by
        have h := error_any (some q) q W (HG.out.none f)
        rw [show (errN (some q) == q) = true by simp [errN]] at h
        rw [HEQ.out]
        exact h
      have HTE := Lib.hid hte
      have s9 : (q != 0) = true := by simp [hq0]
      clear hte hdq hq0
      rcases hq with ⟨he, rfl⟩ | ⟨rfl, h25, rfl⟩
      · have s0 : (e == 0) = false := by simp [he]
        clear he
        go_wp2_with (fail)
        refine (HTE.out _ hF0c).mono ?_
        rintro e5 w5 ⟨rfl, hF5⟩
        have hF05 := hF0c.trans hF5
        clear hF5
        go_wp2
        go_ret
        exact RetV.mk rfl rfl hF05
      · have s1 : decide ((25 : Int) < (own.length : Int)) = true := decide_eq_true (by omega)
        go_wp2_with (fail)
        refine (HTE.out _ hF0c).mono ?_
        rintro e5 w5 ⟨rfl, hF5⟩
        have hF05 := hF0c.trans hF5
        clear hF5
        go_wp2
        go_ret
        exact RetV.mk rfl rfl hF05
      --]]
    · obtain ⟨rfl, h25⟩ := ownF_ok hE hdq
      have HEQ := Lib.hid (HER.out.trans (show errT (dnewE costs own) = .nilIface by rw [hdq]; rfl))
      clear HRD HER hE hdq
      have s1 : decide ((25 : Int) < (own.length : Int)) = false := decide_eq_false (by omega)
      have hte := error_any none 0 wc (HG.out.none hF0c)
      rw [show (errN none == 0) = true by rfl, show errT none = er by rw [HEQ.out]; rfl] at hte
      have hDw := fun base hb => (hDm base hb).fr0 hF2c
      go_wp2_with (fail)
      refine hte.mono ?_
      rintro e5 w5 ⟨rfl, hF5⟩
      have hF05 := hF0c.trans hF5
      have hs2 := hF2c.size
      have hs5 := hF5.size
      have hT0 : TInv w (w5.alloc (.cells #[.int .i64 0, .slice none 0 0] 56)) D w5.heap.size 0 [] 0 none 0 :=
        ⟨((hDw (w5.heap.size + 1) (by omega)).fr0 hF5).fr0 ((Fr.refl _ _).alloc _), Blk.made w5 56 [.int .i64 0, .slice none 0 0], Rd.nil _ _ _, (fun _ _ h => nomatch h), hF05.alloc _, by have := (hDm w2.heap.size (Nat.le_refl _)).lbd; have := (hDm w2.heap.size (Nat.le_refl _)).lbr; omega, by omega⟩
      have HDC := Lib.hid hDc
      have HDO := Lib.hid hDo
      have hc8 : costs.length ≤ 8 := by rw [← hDc]; exact (hDm w2.heap.size (Nat.le_refl _)).c8
      have hB1 : w.heap.size < w5.heap.size := hT0.old
      clear hte hF5 hF0c hF2c hF02 hDm hDw hlo hhi hDc hDo
      go_upto_block 2 with (fail)
      generalize w5.alloc (.cells #[.int .i64 0, .slice none 0 0] 56) = w6 at *
      generalize w5.heap.size = B at *
      go_cut [24] from 24 to 24 (fun s24 wx => ∃ (now : Int) (l : List Td) (bad : Int) (ad : Option Addr) (cd : Nat), s24 = .int .i64 bad ∧ TInv w wx D B now l bad ad cd)
      case first =>
        go_wp2
        go_loopw [25, 24] (fun s25 s24 wr => ∃ (k : Nat) (now : Int) (l : List Td) (bad : Int) (ad : Option Addr) (cd : Nat), k ≤ acts.length ∧ s25 = .int .i64 k ∧ s24 = .int .i64 bad ∧ TInv w wr D B now l bad ad cd ∧ 0 ≤ bad ∧ bad ≤ k) (fun s _ _ => acts.length - (intOf s).toNat)
        case atStart => exact ⟨0, 0, [], 0, none, 0, by omega, rfl, rfl, hT0, by omega, by omega⟩
        case round =>
          clear hT0
          obtain ⟨k, now, l, bad, ad, cd, hk, rfl, rfl, hT, hb0, hbk⟩ := hrel
          by_cases hgo : k < acts.length ∧ k < froms.length ∧ k < nows.length ∧ k < ms.length
          · obtain ⟨g1, g2, g3, g4⟩ := hgo
            have p1 : decide (k < acts.length) = true := decide_eq_true g1
            have p2 : decide (k < froms.length) = true := decide_eq_true g2
            have p3 : decide (k < nows.length) = true := decide_eq_true g3
            have p4 : decide (k < ms.length) = true := decide_eq_true g4
            obtain ⟨ga, oa, rfl, hga, hca⟩ := Ints.pos HA.out (by omega)
            obtain ⟨gf, of_, rfl, hgf, hcf⟩ := Ints.pos HFS.out (by omega)
            obtain ⟨gz, oz, rfl, hgz, hcz⟩ := Ints.pos HNS.out (by omega)
            obtain ⟨gm, om, rfl, hgm, hcm⟩ := Recs.pos HM.out.top MsgR.cells_len (by omega) (by omega)
            have ea := hca w rfl k g1
            have ef := hcf w rfl k g2
            have ez := hcz w rfl k g3
            have em0 := hcm w rfl k 0 g4 (by omega)
            have em1 := hcm w rfl k 1 g4 (by omega)
            obtain ⟨x1, x2, x3⟩ := HM.out.row _ (nth_mem ms k g4)
            generalize nth ms k = x at *
            generalize nth acts k = act at *
            generalize nth froms k = f at *
            generalize nth nows k = z at *
            obtain ⟨ask, es, A, C⟩ := x
            simp only at x1 x2 x3
            simp only [MsgR.cells, List.getElem?_cons_zero, List.getElem?_cons_succ, ← Nat.add_assoc, Nat.add_zero] at em0 em1
            have hb : Hid (∀ W : World, Fr (fun _ => False) w W → W.cell? ⟨ga, oa + k, none⟩ = some (.int .i64 act) ∧ W.cell? ⟨gf, of_ + k, none⟩ = some (.int .i64 f) ∧ W.cell? ⟨gz, oz + k, none⟩ = some (.int .i64 z) ∧ W.cell? ⟨gm, om + k * 2, none⟩ = some (.bool ask) ∧ W.cell? ⟨gm, om + k * 2 + 1, none⟩ = some (.slice A es.length C)) := Lib.hid (fun W fr =>
              ⟨(fr.cell (p := ⟨ga, oa + k, none⟩) hga (fun h => h)).trans ea, (fr.cell (p := ⟨gf, of_ + k, none⟩) hgf (fun h => h)).trans ef, (fr.cell (p := ⟨gz, oz + k, none⟩) hgz (fun h => h)).trans ez, (fr.cell (p := ⟨gm, om + k * 2, none⟩) hgm (fun h => h)).trans em0, (fr.cell (p := ⟨gm, om + k * 2 + 1, none⟩) hgm (fun h => h)).trans em1⟩)
            have hEn := Lib.hid (fun (W : World) (fr : Fr (fun _ => False) w W) => encode_any ask es A C W (x1.fr fr (fun _ _ _ h => h)) x2 x3 rfl)
            clear ea ef ez em0 em1 hca hcf hcz hcm x1 x2 x3
            obtain ⟨ea, ef, ez, -, -⟩ := hb.out wr hT.fr
            have hsz := hT.size
            have zga := Nat.lt_of_lt_of_le hga hT.fr.size
            have zgf := Nat.lt_of_lt_of_le hgf hT.fr.size
            have zgz := Nat.lt_of_lt_of_le hgz hT.fr.size
            go_upto_region 23 with (fail)
            go_cut [26] from 26 to 26 (fun s26 wx => ∃ NR : Bool, s26 = .bool NR ∧ wx = wr ∧ TestIs NR (0 ≤ f ∧ f < (costs.length : Int)) (¬ (0 ≤ f ∧ f < (costs.length : Int))))
            case first =>
              --[[C
              as_aux_lemma =>
              have q : decide (0 ≤ f) = false ∨ (decide (0 ≤ f) = true ∧ decide (f < (costs.length : Int)) = false) ∨ (decide (0 ≤ f) = true ∧ decide (f < (costs.length : Int)) = true) := by
                by_cases h : 0 ≤ f
                · by_cases h2 : f < (costs.length : Int)
                  · exact .inr (.inr ⟨decide_eq_true h, decide_eq_true h2⟩)
                  · exact .inr (.inl ⟨decide_eq_true h, decide_eq_false h2⟩)
                · exact .inl (decide_eq_false h)
              rcases q with q1 | ⟨q1, q2⟩ | ⟨q1, q2⟩
              · have HN := Lib.hid (fun h : 0 ≤ f ∧ f < (costs.length : Int) => of_decide_eq_false q1 h.1)
                go_wp2
                go_meet
                exact ⟨false, rfl, rfl, TestIs.f HN.out⟩
              · have HN := Lib.hid (fun h : 0 ≤ f ∧ f < (costs.length : Int) => of_decide_eq_false q2 h.2)
                go_wp2
                go_meet
                exact ⟨false, rfl, rfl, TestIs.f HN.out⟩
              · have HN := Lib.hid (show 0 ≤ f ∧ f < (costs.length : Int) from ⟨of_decide_eq_true q1, of_decide_eq_true q2⟩)
                go_wp2
                go_meet
                exact ⟨true, rfl, rfl, TestIs.t HN.out⟩
              --]]
            case rest =>
              obtain ⟨NR, rfl, rfl, hNR⟩ := hcut
              generalize wc = wr at *
              obtain ⟨c0, -, -, -, cl⟩ := hT.cells
              go_upto_region 24 with (fail)
              go_cut [174] from 174 to 174 (fun s174 wx => ∃ E : Bool, s174 = .bool E ∧ (∃ n, wx = wr.drewN n) ∧ TestIs E (actBad costs.length now act f z) (¬ actBad costs.length now act f z))
              case first =>
                --[[D
                as_aux_lemma =>
                rcases act_ways (ac := act) (now := now) (z := z) hNR with ⟨q1, qe⟩ | ⟨q1, q2, qe⟩ | ⟨q1, q2, q3, qe⟩ | ⟨q1, q2, q3, q4, qe⟩ | ⟨q1, q2, q3, q4, ⟨rfl, qe⟩ | ⟨rfl, qe⟩⟩
                · have HE := Lib.hid qe
                  clear qe
                  go_wp2
                  go_quiet (fail)
                  go_wp2
                  go_meet
                  exact ⟨true, rfl, ⟨nq, rfl⟩, TestIs.t HE.out⟩
                · have HE := Lib.hid qe
                  clear qe
                  go_wp2
                  go_quiet (fail)
                  go_wp2
                  go_meet
                  exact ⟨true, rfl, ⟨nq, rfl⟩, TestIs.t HE.out⟩
                · have HE := Lib.hid qe
                  clear qe
                  go_wp2
                  go_quiet (fail)
                  go_wp2
                  go_meet
                  exact ⟨false, rfl, ⟨nq, rfl⟩, TestIs.f HE.out⟩
                · have HE := Lib.hid qe
                  clear qe
                  go_wp2
                  go_quiet (fail)
                  go_wp2
                  go_meet
                  exact ⟨false, rfl, ⟨nq, rfl⟩, TestIs.f HE.out⟩
                · have HE := Lib.hid qe
                  clear qe
                  go_wp2
                  go_quiet (fail)
                  go_wp2
                  go_meet
                  exact ⟨false, rfl, ⟨nq, rfl⟩, TestIs.f HE.out⟩
                · have HE := Lib.hid qe
                  clear qe
                  go_wp2
                  go_quiet (fail)
                  go_wp2
                  go_meet
                  exact ⟨true, rfl, ⟨nq, rfl⟩, TestIs.t HE.out⟩
                --]]
              case rest =>
                obtain ⟨E, rfl, ⟨n, rfl⟩, hE⟩ := hcut
                have hFn : Fr (fun _ => False) wr (wr.drewN n) := (Fr.refl _ _).drewN n
                have hTn := hT.fr0 hFn
                go_upto_if 174 with (fail)
                go_cut [20] from 20 to 20 (fun s20 wx => ∃ ev : Int, s20 = .int .i64 ev ∧ wx = wr.drewN n ∧ ActE costs.length now act f z ev)
                case first =>
                  --[[E
                  as_aux_lemma =>
                  cases E with
                  | true =>
                    have HE := Lib.hid (hE.1 rfl)
                    go_wp2
                    go_meet
                    exact ⟨1, rfl, rfl, .inl ⟨HE.out, rfl⟩⟩
                  | false =>
                    have HE := Lib.hid (hE.2 rfl)
                    go_wp2
                    go_meet
                    exact ⟨0, rfl, rfl, .inr ⟨HE.out, rfl⟩⟩
                  --]]
                case rest =>
                  obtain ⟨ev, rfl, rfl, hEv⟩ := hcut
                  clear hE hT ea ef ez c0 cl hNR hsz zga zgf zgz
                  obtain ⟨W, hW⟩ : ∃ W, W = wr.drewN n := ⟨_, rfl⟩
                  rw [← hW] at hTn ⊢
                  clear hFn hW
                  clear wr
                  generalize E = E0 at *
                  obtain ⟨ea, ef, ez, em0, em1⟩ := hb.out W hTn.fr
                  have hsz := hTn.size
                  have zga := Nat.lt_of_lt_of_le hga hTn.fr.size
                  have zgf := Nat.lt_of_lt_of_le hgf hTn.fr.size
                  have zgz := Nat.lt_of_lt_of_le hgz hTn.fr.size
                  have zgm := Nat.lt_of_lt_of_le hgm hTn.fr.size
                  have HEV := Lib.hid hEv
                  clear hEv
                  go_upto_region 26 with (fail)
                  go_cut [186] from 186 to 186 (fun s186 wx => ∃ M : Bool, s186 = .bool M ∧ wx = W ∧ TestIs M (act = 0 ∨ act = 1) (¬ (act = 0 ∨ act = 1)))
                  case first =>
                    --[[F
                    as_aux_lemma =>
                    have q : (act == 0) = true ∨ ((act == 0) = false ∧ (act == 1) = true) ∨ ((act == 0) = false ∧ (act == 1) = false) := by
                      by_cases h0 : act = 0
                      · exact .inl (by simp [h0])
                      · by_cases h1 : act = 1
                        · exact .inr (.inl ⟨by simp [h0], by simp [h1]⟩)
                        · exact .inr (.inr ⟨by simp [h0], by simp [h1]⟩)
                    rcases q with q1 | ⟨q1, q2⟩ | ⟨q1, q2⟩
                    · have HQ := Lib.hid (show act = 0 ∨ act = 1 from .inl (by simpa using q1))
                      go_wp2
                      go_meet
                      exact ⟨true, rfl, rfl, TestIs.t HQ.out⟩
                    · have HQ := Lib.hid (show act = 0 ∨ act = 1 from .inr (by simpa using q2))
                      go_wp2
                      go_meet
                      exact ⟨true, rfl, rfl, TestIs.t HQ.out⟩
                    · have HQ := Lib.hid (show ¬ (act = 0 ∨ act = 1) from by simp only [beq_eq_false_iff_ne, ne_eq] at q1 q2; omega)
                      go_wp2
                      go_meet
                      exact ⟨false, rfl, rfl, TestIs.f HQ.out⟩
                    --]]
                  case rest =>
                    obtain ⟨M, rfl, rfl, hMt⟩ := hcut
                    generalize wc = W at *
                    go_upto_if 186 with (fail)
                    go_cut [22, 24] from 22 to 22 (fun s22 s24 wx => s22 = .bool true ∧ ∃ (now : Int) (l : List Td) (bad' : Int) (ad : Option Addr) (cd : Nat), s24 = .int .i64 bad' ∧ TInv w wx D B now l bad' ad cd ∧ 0 ≤ bad' ∧ bad' ≤ bad + 1)
                    case first =>
                      cases M with
                      | true =>
                        have HMT := Lib.hid (hMt.1 rfl)
                        clear hMt
                        go_upto_if 192 with (fail)
                        go_cut [27] from 192 to 192 (fun s27 wx => ∃ (b : List Int) (ab : Option Addr) (cb : Nat), s27 = .slice ab b.length cb ∧ BytesB wx.heap b ab cb ∧ Fr (fun _ => False) W wx)
                        case first =>
                          --[[J
                          as_aux_lemma =>
                          have hRW : BytesB W.heap raw ar cr := ⟨HR.out.fr hTn.fr (fun _ _ _ h => h), HRB.out, hrc, hrl⟩
                          by_cases h0 : act = 0
                          · have g0 : (act == 0) = true := by simp [h0]
                            have hcall := hEn.out W hTn.fr
                            have hel8 := encD_len ask es
                            clear h0
                            go_wp2_with (fail)
                            refine hcall.mono ?_
                            intro e5 w5' R5
                            cases hme : msgErr es with
                            | some q =>
                              obtain ⟨rfl, hF5⟩ := R5.errE hme
                              have HRW := Lib.hid (hRW.fr0 hF5)
                              clear hcall R5 hme hRW
                              go_wp2
                              go_meet
                              exact ⟨raw, ar, cr, rfl, HRW.out, hF5⟩
                            | none =>
                              obtain ⟨a5, c5, ob5, rfl, hO5, hF5, -⟩ := R5.okE hme
                              have hes25 := (msgErr_ok hme).1
                              obtain ⟨b, hb'⟩ : ∃ b, b = encD ask es := ⟨_, rfl⟩
                              have hbb : ∀ x ∈ b, 0 ≤ x ∧ x < 256 := by rw [hb']; exact encD_bd ask es
                              rw [← hb'] at hO5 hel8 ⊢
                              have HBW := Lib.hid (show BytesB w5'.heap b a5 c5 from ⟨hO5.rd, hbb, hO5.cap, by omega⟩)
                              clear hcall R5 hme hRW hO5 hbb hb' hes25 hel8
                              go_wp2
                              go_meet
                              exact ⟨b, a5, c5, rfl, HBW.out, hF5⟩
                          · have g0 : (act == 0) = false := by simp [h0]
                            have HRW := Lib.hid hRW
                            clear hRW h0
                            go_wp2
                            go_meet
                            exact ⟨raw, ar, cr, rfl, HRW.out, Fr.refl _ _⟩
                          --]]
                        case rest =>
                          obtain ⟨b, ab, cb, rfl, hBB, hFc⟩ := hcut
                          have hTx := hTn.fr0 hFc
                          generalize wc = W1 at *
                          clear hTn hFc ea ef ez em0 em1 hsz zga zgf zgz zgm
                          clear W
                          have hcallM := messageOf_any (N := b.length) b ab cb W1 hBB.rd hBB.bd hBB.cap hBB.len rfl
                          have hbl := hBB.len
                          go_upto_region 33 with (fail)
                          go_cut [30, 31] from 30 to 30 (fun s30 s31 wx => ∃ (p : Nat) (fv : Int) (askv : Bool) (a5 : Option Addr) (n5 c5 : Nat), s30 = .pointer (some ⟨p, 0, none⟩) ∧ s31 = .int .i64 fv ∧ Blk wx.heap p 26 [.bool askv, .slice a5 n5 c5] ∧ MsgIs wx.heap b fv askv a5 n5 ∧ Fr (fun _ => False) W1 wx ∧ W1.heap.size ≤ p ∧ ∀ b' off, a5 = some ⟨b', off, none⟩ → W1.heap.size ≤ b')
                          case first =>
                            --[[L
                            as_aux_lemma =>
                            go_wp2_with (fail)
                            refine hcallM.mono ?_
                            intro e5 w5' R5
                            obtain ⟨fv, askv, a5, n5, c5, rfl, hF5, hMI, hNA⟩ := R5.flat hBB.bd
                            have HFX := Lib.hid (hF5.alloc (.cells #[.bool askv, .slice a5 n5 c5] 26))
                            have HBM := Lib.hid (Blk.made w5' 26 [.bool askv, .slice a5 n5 c5])
                            have HMX := Lib.hid (hMI.fr0 ((Fr.refl (fun _ => False) w5').alloc (.cells #[.bool askv, .slice a5 n5 c5] 26)))
                            have hmp : W1.heap.size ≤ w5'.heap.size := hF5.size
                            clear hcallM R5 hF5 hMI
                            go_wp2
                            go_meet
                            exact ⟨w5'.heap.size, fv, askv, a5, n5, c5, rfl, rfl, HBM.out, HMX.out, HFX.out, hmp, hNA⟩
                            --]]
                          case rest =>
                            obtain ⟨p, fv, askv, a5, n5, c5, rfl, rfl, hBM, hMx, hFv, hWp, hNA⟩ := hcut
                            have hT5 := hTx.fr0 hFv
                            have hBx := hBB.fr0 hFv
                            have hold := hT5.old
                            have hBp : B < p := by have := hTx.size; omega
                            have hNB : ∀ b' off, a5 = some ⟨b', off, none⟩ → B < b' := fun b' off e => by have := hNA b' off e; have := hTx.size; omega
                            clear hcallM hBB hTx hFv hWp hNA
                            generalize wc = V at *
                            obtain ⟨ea, ef, ez, -, -⟩ := hb.out V hT5.fr
                            have hsz := hT5.size
                            have zga := Nat.lt_of_lt_of_le hga hT5.fr.size
                            have zgf := Nat.lt_of_lt_of_le hgf hT5.fr.size
                            have zgz := Nat.lt_of_lt_of_le hgz hT5.fr.size
                            have hcall := dhear_any (N := b.length) b ab cb f z V.drew (hT5.dm.fr0 (Fr.refl _ _).drew) (by simpa using hT5.size) ⟨hb0, by omega⟩ (hBx.rd.fr ((Fr.refl (fun _ => False) V).drew) (fun _ _ _ h => h)) hBx.bd hBx.cap hBx.len rfl
                            have hact : act = 0 ∨ act = 1 ∨ act = 2 := by have := HMT.out; omega
                            have b0 := hBM.cell 0
                            have b1 := hBM.cell 1
                            have bl := hBM.lt
                            simp only [List.getElem?_cons_succ, List.getElem?_cons_zero] at b0 b1
                            have HBM := Lib.hid hBM
                            clear hBx hBM
                            rcases HEV.out with ⟨hbd, rfl⟩ | ⟨hok, rfl⟩
                            · have hM : hearM D now l bad b f z = ⟨some 1, now, l, bad⟩ := hearM_time ((actBad_time (by rw [HDC.out]) hact).1 hbd)
                              rw [hM] at hcall
                              clear hM hbd HEV HMT hact
                              rcases hMx with ⟨hd, hf0, rfl⟩ | ⟨es', hd, rfl, rfl, hRE, h25', hew⟩
                              · --[[K1
                                as_aux_lemma =>
                                have s0 : (fv == 0) = false := by simp [hf0]
                                have s3 : (fv != 0) = true := by simp [hf0]
                                clear hd hf0
                                go_wp2
                                (refine wp_region_mix (fun w' => True) 12 (by kernel_rfl) (by kernel_rfl) (trivial) ?_; simp only [List.take_succ_cons, List.take_zero, List.drop_succ_cons, List.drop_zero])
                                (refine wpMix_earlyN 10 (by kernel_rfl) (by kernel_rfl) ?_; simp only [List.take_succ_cons, List.take_zero, List.drop_succ_cons, List.drop_zero]; (repeat (go_big_quiet_step (fail))); refine wpQuiet_nil ?_)
                                refine wpMix_eff (by kernel_rfl) ?_
                                go_wp2_with (fail)
                                refine hcall.mono ?_
                                rintro e6 w6' ⟨rfl, hD6, hF6⟩
                                have hT6 := hT5.same hD6 ((Fr.refl (fun k => k = D.bd ∨ k = D.br) V).drew.trans hF6)
                                have HT6 := Lib.hid hT6
                                have herr := fun W' (f' : Fr (fun _ => False) w6' W') => error_any (some 1) 1 W' (HG.out.none (hT6.fr.trans f'))
                                rw [show errT (some 1) = errv 1 from rfl, show (errN (some 1) == 1) = true by simp [errN]] at herr
                                rw [show errO (some 1) = errv 1 from rfl]
                                clear hcall hD6 hF6 hT6 hT5 ea ef ez b0 b1
                                go_wp2
                                (refine wpMix_lateN 1 (trivial) (by kernel_rfl) ?_; simp only [List.take_succ_cons, List.take_zero, List.drop_succ_cons, List.drop_zero]; (repeat (go_big_quiet_step (fail))); refine wpQuiet_nil ?_)
                                refine wpMix_nil ?_
                                go_wp2_with (fail)
                                refine (herr _ (Fr.refl _ _)).mono ?_
                                rintro e7 w7 ⟨rfl, hF7⟩
                                have hT7 := Lib.hid (HT6.out.fr0 hF7)
                                clear herr hF7
                                go_wp2
                                go_meet
                                exact ⟨rfl, now, l, bad, ad, cd, rfl, hT7.out, by omega, by omega⟩
                                --]]
                              · cases askv with
                                | true =>
                                  --[[K2
                                  as_aux_lemma =>
                                  clear hd hRE hew
                                  go_wp2
                                  (refine wp_region_mix (fun w' => True) 12 (by kernel_rfl) (by kernel_rfl) (trivial) ?_; simp only [List.take_succ_cons, List.take_zero, List.drop_succ_cons, List.drop_zero])
                                  (refine wpMix_earlyN 10 (by kernel_rfl) (by kernel_rfl) ?_; simp only [List.take_succ_cons, List.take_zero, List.drop_succ_cons, List.drop_zero]; (repeat (go_big_quiet_step (fail))); refine wpQuiet_nil ?_)
                                  refine wpMix_eff (by kernel_rfl) ?_
                                  go_wp2_with (fail)
                                  refine hcall.mono ?_
                                  rintro e6 w6' ⟨rfl, hD6, hF6⟩
                                  have hT6 := hT5.same hD6 ((Fr.refl (fun k => k = D.bd ∨ k = D.br) V).drew.trans hF6)
                                  have HT6 := Lib.hid hT6
                                  have herr := fun W' (f' : Fr (fun _ => False) w6' W') => error_any (some 1) 1 W' (HG.out.none (hT6.fr.trans f'))
                                  rw [show errT (some 1) = errv 1 from rfl, show (errN (some 1) == 1) = true by simp [errN]] at herr
                                  rw [show errO (some 1) = errv 1 from rfl]
                                  clear hcall hD6 hF6 hT6 hT5 ea ef ez b0 b1
                                  go_wp2
                                  (refine wpMix_lateN 1 (trivial) (by kernel_rfl) ?_; simp only [List.take_succ_cons, List.take_zero, List.drop_succ_cons, List.drop_zero]; (repeat (go_big_quiet_step (fail))); refine wpQuiet_nil ?_)
                                  refine wpMix_nil ?_
                                  go_wp2_with (fail)
                                  refine (herr _ (Fr.refl _ _)).mono ?_
                                  rintro e7 w7 ⟨rfl, hF7⟩
                                  have hT7 := Lib.hid (HT6.out.fr0 hF7)
                                  clear herr hF7
                                  go_wp2
                                  go_meet
                                  exact ⟨rfl, now, l, bad, ad, cd, rfl, hT7.out, by omega, by omega⟩
                                  --]]
                                | false =>
                                  --[[K3
                                  as_aux_lemma =>
                                  clear hd hRE hew
                                  go_wp2
                                  (refine wp_region_mix (fun w' => True) 12 (by kernel_rfl) (by kernel_rfl) (trivial) ?_; simp only [List.take_succ_cons, List.take_zero, List.drop_succ_cons, List.drop_zero])
                                  (refine wpMix_earlyN 10 (by kernel_rfl) (by kernel_rfl) ?_; simp only [List.take_succ_cons, List.take_zero, List.drop_succ_cons, List.drop_zero]; (repeat (go_big_quiet_step (fail))); refine wpQuiet_nil ?_)
                                  refine wpMix_eff (by kernel_rfl) ?_
                                  go_wp2_with (fail)
                                  refine hcall.mono ?_
                                  rintro e6 w6' ⟨rfl, hD6, hF6⟩
                                  have hT6 := hT5.same hD6 ((Fr.refl (fun k => k = D.bd ∨ k = D.br) V).drew.trans hF6)
                                  have HT6 := Lib.hid hT6
                                  have herr := fun W' (f' : Fr (fun _ => False) w6' W') => error_any (some 1) 1 W' (HG.out.none (hT6.fr.trans f'))
                                  rw [show errT (some 1) = errv 1 from rfl, show (errN (some 1) == 1) = true by simp [errN]] at herr
                                  rw [show errO (some 1) = errv 1 from rfl]
                                  clear hcall hD6 hF6 hT6 hT5 ea ef ez b0 b1
                                  go_wp2
                                  (refine wpMix_lateN 1 (trivial) (by kernel_rfl) ?_; simp only [List.take_succ_cons, List.take_zero, List.drop_succ_cons, List.drop_zero]; (repeat (go_big_quiet_step (fail))); refine wpQuiet_nil ?_)
                                  refine wpMix_nil ?_
                                  go_wp2_with (fail)
                                  refine (herr _ (Fr.refl _ _)).mono ?_
                                  rintro e7 w7 ⟨rfl, hF7⟩
                                  have hT7 := Lib.hid (HT6.out.fr0 hF7)
                                  clear herr hF7
                                  go_wp2
                                  go_meet
                                  exact ⟨rfl, now, l, bad, ad, cd, rfl, hT7.out, by omega, by omega⟩
                                  --]]
                            · have hnt : ¬ timeErr D now f z := fun h => hok ((actBad_time (by rw [HDC.out]) hact).2 h)
                              clear HEV HMT hact hok
                              rcases hMx with ⟨hd, hf0, rfl⟩ | ⟨es', hd, rfl, rfl, hRE, h25', hew⟩
                              · --[[K4
                                as_aux_lemma =>
                                have hM : hearM D now l bad b f z = ⟨some fv, now, l, bad + 1⟩ := hearM_bad hnt hd
                                have s0 : (fv == 0) = false := by simp [hf0]
                                have s3 : (fv != 0) = true := by simp [hf0]
                                rw [hM] at hcall
                                clear hd hf0 hM hnt
                                go_wp2
                                (refine wp_region_mix (fun w' => True) 12 (by kernel_rfl) (by kernel_rfl) (trivial) ?_; simp only [List.take_succ_cons, List.take_zero, List.drop_succ_cons, List.drop_zero])
                                (refine wpMix_earlyN 10 (by kernel_rfl) (by kernel_rfl) ?_; simp only [List.take_succ_cons, List.take_zero, List.drop_succ_cons, List.drop_zero]; (repeat (go_big_quiet_step (fail))); refine wpQuiet_nil ?_)
                                refine wpMix_eff (by kernel_rfl) ?_
                                go_wp2_with (fail)
                                refine hcall.mono ?_
                                rintro e6 w6' ⟨rfl, hD6, hF6⟩
                                have hT6 := hT5.same hD6 ((Fr.refl (fun k => k = D.bd ∨ k = D.br) V).drew.trans hF6)
                                have HT6 := Lib.hid hT6
                                have herr := fun W' (f' : Fr (fun _ => False) w6' W') => error_any (some fv) fv W' (HG.out.none (hT6.fr.trans f'))
                                rw [show errT (some fv) = errv fv from rfl, show (errN (some fv) == fv) = true by simp [errN]] at herr
                                rw [show errO (some fv) = errv fv from rfl]
                                clear hcall hD6 hF6 hT6 hT5 ea ef ez b0 b1
                                go_wp2
                                (refine wpMix_lateN 1 (trivial) (by kernel_rfl) ?_; simp only [List.take_succ_cons, List.take_zero, List.drop_succ_cons, List.drop_zero]; (repeat (go_big_quiet_step (fail))); refine wpQuiet_nil ?_)
                                refine wpMix_nil ?_
                                go_wp2_with (fail)
                                refine (herr _ (Fr.refl _ _)).mono ?_
                                rintro e7 w7 ⟨rfl, hF7⟩
                                have hT7 := Lib.hid (HT6.out.fr0 hF7)
                                clear herr hF7
                                go_wp2
                                go_meet
                                exact ⟨rfl, now, l, (bad + 1), ad, cd, rfl, hT7.out, by omega, by omega⟩
                                --]]
                              · cases askv with
                                | true =>
                                  --[[K5
                                  as_aux_lemma =>
                                  have hM : hearM D now l bad b f z = ⟨some 3, now, l, bad + 1⟩ := hearM_ask hnt hd
                                  rw [hM] at hcall
                                  clear hd hM hnt hRE hew
                                  go_wp2
                                  (refine wp_region_mix (fun w' => True) 12 (by kernel_rfl) (by kernel_rfl) (trivial) ?_; simp only [List.take_succ_cons, List.take_zero, List.drop_succ_cons, List.drop_zero])
                                  (refine wpMix_earlyN 10 (by kernel_rfl) (by kernel_rfl) ?_; simp only [List.take_succ_cons, List.take_zero, List.drop_succ_cons, List.drop_zero]; (repeat (go_big_quiet_step (fail))); refine wpQuiet_nil ?_)
                                  refine wpMix_eff (by kernel_rfl) ?_
                                  go_wp2_with (fail)
                                  refine hcall.mono ?_
                                  rintro e6 w6' ⟨rfl, hD6, hF6⟩
                                  have hT6 := hT5.same hD6 ((Fr.refl (fun k => k = D.bd ∨ k = D.br) V).drew.trans hF6)
                                  have HT6 := Lib.hid hT6
                                  have herr := fun W' (f' : Fr (fun _ => False) w6' W') => error_any (some 3) 3 W' (HG.out.none (hT6.fr.trans f'))
                                  rw [show errT (some 3) = errv 3 from rfl, show (errN (some 3) == 3) = true by simp [errN]] at herr
                                  rw [show errO (some 3) = errv 3 from rfl]
                                  clear hcall hD6 hF6 hT6 hT5 ea ef ez b0 b1
                                  go_wp2
                                  (refine wpMix_lateN 1 (trivial) (by kernel_rfl) ?_; simp only [List.take_succ_cons, List.take_zero, List.drop_succ_cons, List.drop_zero]; (repeat (go_big_quiet_step (fail))); refine wpQuiet_nil ?_)
                                  refine wpMix_nil ?_
                                  go_wp2_with (fail)
                                  refine (herr _ (Fr.refl _ _)).mono ?_
                                  rintro e7 w7 ⟨rfl, hF7⟩
                                  have hT7 := Lib.hid (HT6.out.fr0 hF7)
                                  clear herr hF7
                                  go_wp2
                                  go_meet
                                  exact ⟨rfl, now, l, (bad + 1), ad, cd, rfl, hT7.out, by omega, by omega⟩
                                  --]]
                                | false =>
                                  --[[K6
                                  as_aux_lemma =>
                                  have hM : hearM D now l bad b f z = ⟨none, z, hearL D f z (rAged z l) es', bad⟩ := hearM_ok hnt hd
                                  rw [hM] at hcall
                                  have hz : now ≤ z ∧ z ≤ 1099511627776 := by unfold timeErr at hnt; omega
                                  have hokl := hT5.dm.ok
                                  have hol25 := hT5.dm.o25
                                  clear hd hM hnt
                                  go_wp2
                                  (refine wp_region_mix (fun w' => True) 12 (by kernel_rfl) (by kernel_rfl) (trivial) ?_; simp only [List.take_succ_cons, List.take_zero, List.drop_succ_cons, List.drop_zero])
                                  (refine wpMix_earlyN 10 (by kernel_rfl) (by kernel_rfl) ?_; simp only [List.take_succ_cons, List.take_zero, List.drop_succ_cons, List.drop_zero]; (repeat (go_big_quiet_step (fail))); refine wpQuiet_nil ?_)
                                  refine wpMix_eff (by kernel_rfl) ?_
                                  go_wp2_with (fail)
                                  refine hcall.mono ?_
                                  rintro e6 w6' ⟨rfl, hD6, hF6⟩
                                  have hF6' := (Fr.refl (fun k => k = D.bd ∨ k = D.br) V).drew.trans hF6
                                  obtain ⟨m1, m2, m3⟩ := hT5.mid hF6'
                                  have HPUT := Lib.hid (fun (w'' : World) (g : Fr (fun _ => False) w6' w'') (am' : Option Addr) (cm' : Nat) (hrd : Recs w''.heap am' 5 Td.cells (hearL D f z (rAged z l) es')) (hnew : ∀ b off, am' = some ⟨b, off, none⟩ → B < b) => hT5.put (cm' := cm') hD6 hF6' g hrd hnew)
                                  have herr := fun W' (f' : Fr (fun _ => False) w6' W') => error_any none 0 W' (HG.out.none (m3.trans f'))
                                  rw [show errT none = .nilIface from rfl, show (errN none == 0) = true by rfl] at herr
                                  rw [show errO none = .nilIface from rfl]
                                  have hms := m1.lt
                                  have hlbd := hT5.dm.lbd
                                  have hlbr := hT5.dm.lbr
                                  have hhi := hT5.hi
                                  have hBM6 := HBM.out.fr hF6' (fun e => by omega)
                                  have hRE6 := hRE.fr hF6' (fun b' off e hh => by have := hNB b' off e; omega)
                                  clear hcall hD6 hF6 hF6' hT5 ea ef ez b0 b1
                                  go_wp2
                                  (refine wpMix_lateN 1 (trivial) (by kernel_rfl) ?_; simp only [List.take_succ_cons, List.take_zero, List.drop_succ_cons, List.drop_zero]; (repeat (go_big_quiet_step (fail))); refine wpQuiet_nil ?_)
                                  refine wpMix_nil ?_
                                  go_wp2_with (fail)
                                  refine (herr _ (Fr.refl _ _)).mono ?_
                                  rintro e7 w7 ⟨rfl, hF7⟩
                                  have hs67 := hF7.size
                                  have hF07 := m3.trans hF7
                                  have hL7 := qheard_any (M := own.length) (N := es'.length) D l ad cd now f z ao co false es' a5 c5 w7.drew ((m2.fr hF7 (fun _ _ _ h => h)).fr ((Fr.refl (fun _ => False) w7).drew) (fun _ _ _ h => h)) hokl hz.1 hz.2 (by rw [HDO.out]; exact HO.out.fr hF07.drew (fun _ _ _ h => h)) hol25 ((hRE6.fr hF7 (fun _ _ _ h => h)).fr ((Fr.refl (fun _ => False) w7).drew) (fun _ _ _ h => h)) h25' hew (by rw [HDO.out]) rfl
                                  have m7 := m1.fr hF7 (fun h => h)
                                  have n7 := hBM6.fr hF7 (fun h => h)
                                  have c0 := m7.cell 0
                                  have c1 := m7.cell 1
                                  have cl := m7.lt
                                  have b0 := n7.cell 0
                                  have b1 := n7.cell 1
                                  have bl7 := n7.lt
                                  simp only [List.getElem?_cons_succ, List.getElem?_cons_zero] at c0 c1 b0 b1
                                  obtain ⟨-, ef, ez, -, -⟩ := hb.out w7 hF07
                                  have zgf7 := Nat.lt_of_lt_of_le hgf hF07.size
                                  have zgz7 := Nat.lt_of_lt_of_le hgz hF07.size
                                  clear herr m2 m3 m1 hBM6 hRE6 hRE
                                  go_wp2
                                  (refine wp_region_mix (fun _ => True) 11 (by kernel_rfl) (by kernel_rfl) (trivial) ?_; simp only [List.take_succ_cons, List.take_zero, List.drop_succ_cons, List.drop_zero])
                                  (refine wpMix_earlyN 11 (by kernel_rfl) (by kernel_rfl) ?_; simp only [List.take_succ_cons, List.take_zero, List.drop_succ_cons, List.drop_zero]; (repeat (go_big_quiet_step (fail))); refine wpQuiet_nil ?_)
                                  refine wpMix_nil ?_
                                  go_wp2_with (fail)
                                  refine hL7.mono ?_
                                  rintro e8 w8 ⟨a8, c8, rfl, hR8, hF8, hN8⟩
                                  have hF68 := (hF7.drew).trans hF8
                                  have m8 := m7.fr ((Fr.refl (fun _ => False) w7).drew.trans hF8) (fun h => h)
                                  have f0 := m8.frozen 0
                                  have f1 := m8.frozen 1
                                  have c0' := m8.cell 0
                                  have c1' := m8.cell 1
                                  have cl' := m8.lt
                                  simp only [List.getElem?_cons_succ, List.getElem?_cons_zero] at c0' c1'
                                  have hs8 : B < w7.drew.heap.size := cl
                                  have HT := Lib.hid (HPUT.out w8 hF68 a8 c8 hR8 (fun b off e => by have := hN8 b off e; omega))
                                  clear hL7 hR8 hF8 hF68 m7 m8 n7 c0 c1 b0 b1 hF7 HPUT ef ez
                                  go_wp2
                                  go_meet
                                  exact ⟨rfl, z, _, bad, a8, c8, rfl, HT.out, by omega, by omega⟩
                                  --]]
                      | false =>
                        --[[H
                        as_aux_lemma =>
                        have HMT := Lib.hid (hMt.2 rfl)
                        clear hMt
                        by_cases h2 : act = 2
                        · have g2' : (act == 2) = true := by simp [h2]
                          have hcall := ddown_any f z W.drew (hTn.dm.fr0 (Fr.refl _ _).drew) (by simpa using hTn.size)
                          rcases HEV.out with ⟨hbd, rfl⟩ | ⟨hok, rfl⟩
                          · have hM : downM D now l bad f z = ⟨some 1, now, l, bad⟩ := if_pos ((actBad_time (by rw [HDC.out]) (.inr (.inr h2))).1 hbd)
                            rw [hM] at hcall
                            clear h2 hM hbd HEV HMT
                            go_wp2
                            (refine wp_region_mix (fun w' => True) 11 (by kernel_rfl) (by kernel_rfl) (trivial) ?_; simp only [List.take_succ_cons, List.take_zero, List.drop_succ_cons, List.drop_zero])
                            (refine wpMix_earlyN 9 (by kernel_rfl) (by kernel_rfl) ?_; simp only [List.take_succ_cons, List.take_zero, List.drop_succ_cons, List.drop_zero]; (repeat (go_big_quiet_step (fail))); refine wpQuiet_nil ?_)
                            refine wpMix_eff (by kernel_rfl) ?_
                            go_wp2_with (fail)
                            refine hcall.mono ?_
                            rintro e6 w6' ⟨rfl, hD6, hF6⟩
                            have hT6 := hTn.same hD6 ((Fr.refl (fun k => k = D.bd ∨ k = D.br) W).drew.trans hF6)
                            have HT6 := Lib.hid hT6
                            have herr := fun W' (f' : Fr (fun _ => False) w6' W') => error_any (some 1) 1 W' (HG.out.none (hT6.fr.trans f'))
                            rw [show errT (some 1) = errv 1 from rfl, show (errN (some 1) == 1) = true by rfl] at herr
                            rw [show errO (some 1) = errv 1 from rfl]
                            clear hcall hD6 hF6 hT6 hTn ea ef ez em0 em1
                            go_wp2
                            (refine wpMix_lateN 1 (trivial) (by kernel_rfl) ?_; simp only [List.take_succ_cons, List.take_zero, List.drop_succ_cons, List.drop_zero]; (repeat (go_big_quiet_step (fail))); refine wpQuiet_nil ?_)
                            refine wpMix_nil ?_
                            go_wp2_with (fail)
                            refine (herr _ (Fr.refl _ _)).mono ?_
                            rintro e7 w7 ⟨rfl, hF7⟩
                            have hT7 := Lib.hid (HT6.out.fr0 hF7)
                            clear herr hF7
                            go_wp2
                            go_meet
                            exact ⟨rfl, now, l, bad, ad, cd, rfl, hT7.out, hb0, by omega⟩
                          · have hnt : ¬ timeErr D now f z := fun h => hok ((actBad_time (by rw [HDC.out]) (.inr (.inr h2))).2 h)
                            have hM : downM D now l bad f z = ⟨none, z, rLost f z l, bad⟩ := if_neg hnt
                            have hz : now ≤ z ∧ z ≤ 1099511627776 := by unfold timeErr at hnt; omega
                            rw [hM] at hcall
                            have hokl := hTn.dm.ok
                            clear h2 hM hok HEV HMT hnt
                            go_wp2
                            (refine wp_region_mix (fun w' => True) 11 (by kernel_rfl) (by kernel_rfl) (trivial) ?_; simp only [List.take_succ_cons, List.take_zero, List.drop_succ_cons, List.drop_zero])
                            (refine wpMix_earlyN 9 (by kernel_rfl) (by kernel_rfl) ?_; simp only [List.take_succ_cons, List.take_zero, List.drop_succ_cons, List.drop_zero]; (repeat (go_big_quiet_step (fail))); refine wpQuiet_nil ?_)
                            refine wpMix_eff (by kernel_rfl) ?_
                            go_wp2_with (fail)
                            refine hcall.mono ?_
                            rintro e6 w6' ⟨rfl, hD6, hF6⟩
                            have hF6' := (Fr.refl (fun k => k = D.bd ∨ k = D.br) W).drew.trans hF6
                            obtain ⟨m1, m2, m3⟩ := hTn.mid hF6'
                            have HPUT := Lib.hid (fun (w'' : World) (g : Fr (fun _ => False) w6' w'') (am' : Option Addr) (cm' : Nat) (hrd : Recs w''.heap am' 5 Td.cells (rLost f z l)) (hnew : ∀ b off, am' = some ⟨b, off, none⟩ → B < b) => hTn.put (cm' := cm') hD6 hF6' g hrd hnew)
                            have herr := fun W' (f' : Fr (fun _ => False) w6' W') => error_any none 0 W' (HG.out.none (m3.trans f'))
                            rw [show errT none = .nilIface from rfl, show (errN none == 0) = true by rfl] at herr
                            rw [show errO none = .nilIface from rfl]
                            have hms := m1.lt
                            clear hcall hD6 hF6 hF6' hTn ea ef ez em0 em1
                            go_wp2
                            (refine wpMix_lateN 1 (trivial) (by kernel_rfl) ?_; simp only [List.take_succ_cons, List.take_zero, List.drop_succ_cons, List.drop_zero]; (repeat (go_big_quiet_step (fail))); refine wpQuiet_nil ?_)
                            refine wpMix_nil ?_
                            go_wp2_with (fail)
                            refine (herr _ (Fr.refl _ _)).mono ?_
                            rintro e7 w7 ⟨rfl, hF7⟩
                            have hs67 := hF7.size
                            have hL7 := qlost_any l ad cd now f z w7.drew ((m2.fr hF7 (fun _ _ _ h => h)).fr ((Fr.refl (fun _ => False) w7).drew) (fun _ _ _ h => h)) hokl hz.1 hz.2
                            have m7 := m1.fr hF7 (fun h => h)
                            have c0 := m7.cell 0
                            have c1 := m7.cell 1
                            have cl := m7.lt
                            simp only [List.getElem?_cons_succ, List.getElem?_cons_zero] at c0 c1
                            obtain ⟨-, ef, ez, -, -⟩ := hb.out w7 (m3.trans hF7)
                            have zgf := Nat.lt_of_lt_of_le hgf (m3.trans hF7).size
                            have zgz := Nat.lt_of_lt_of_le hgz (m3.trans hF7).size
                            clear herr m2 m3 m1
                            go_wp2
                            (refine wp_region_mix (fun _ => True) 9 (by kernel_rfl) (by kernel_rfl) (trivial) ?_; simp only [List.take_succ_cons, List.take_zero, List.drop_succ_cons, List.drop_zero])
                            (refine wpMix_earlyN 9 (by kernel_rfl) (by kernel_rfl) ?_; simp only [List.take_succ_cons, List.take_zero, List.drop_succ_cons, List.drop_zero]; (repeat (go_big_quiet_step (fail))); refine wpQuiet_nil ?_)
                            refine wpMix_nil ?_
                            go_wp2_with (fail)
                            refine hL7.mono ?_
                            intro e8 w8 R8
                            obtain ⟨a8, c8, rfl, hR8, hF8, hN8⟩ := R8.rb
                            have hF68 := (hF7.drew).trans hF8
                            have m8 := m7.fr ((Fr.refl (fun _ => False) w7).drew.trans hF8) (fun h => h)
                            have f0 := m8.frozen 0
                            have f1 := m8.frozen 1
                            have c0' := m8.cell 0
                            have c1' := m8.cell 1
                            have cl' := m8.lt
                            simp only [List.getElem?_cons_succ, List.getElem?_cons_zero] at c0' c1'
                            have hs8 : B < w7.drew.heap.size := cl
                            have HT := Lib.hid (HPUT.out w8 hF68 a8 c8 hR8 (fun b off e => by have := hN8 b off e; omega))
                            clear hL7 R8 hR8 hF8 hF68 m7 m8 c0 c1 hF7 HPUT ef ez
                            go_wp2
                            go_meet
                            exact ⟨rfl, z, _, bad, a8, c8, rfl, HT.out, hb0, by omega⟩
                        · have g2' : (act == 2) = false := by simp [h2]
                          have hcall := dtick_any z W hTn.dm hTn.size
                          have hne : act ≠ 0 ∧ act ≠ 1 ∧ act ≠ 2 := by have := HMT.out; omega
                          rcases HEV.out with ⟨hbd, rfl⟩ | ⟨hok, rfl⟩
                          · have hM : tickM now l bad z = ⟨some 1, now, l, bad⟩ := if_pos ((actBad_tick hne).1 hbd)
                            rw [hM] at hcall
                            clear h2 hM hbd HEV HMT hne
                            go_wp2_with (fail)
                            refine hcall.mono ?_
                            rintro e6 w6' ⟨rfl, hD6, hF6⟩
                            have hT6 := hTn.same hD6 hF6
                            have HT6 := Lib.hid hT6
                            have herr := fun W' (f' : Fr (fun _ => False) w6' W') => error_any (some 1) 1 W' (HG.out.none (hT6.fr.trans f'))
                            rw [show errT (some 1) = errv 1 from rfl, show (errN (some 1) == 1) = true by rfl] at herr
                            rw [show errO (some 1) = errv 1 from rfl]
                            clear hcall hD6 hF6 hT6 hTn ea ef ez em0 em1
                            go_wp2_with (fail)
                            refine (herr _ (Fr.refl _ _)).mono ?_
                            rintro e7 w7 ⟨rfl, hF7⟩
                            have hT7 := Lib.hid (HT6.out.fr0 hF7)
                            clear herr hF7
                            go_wp2
                            go_meet
                            exact ⟨rfl, now, l, bad, ad, cd, rfl, hT7.out, hb0, by omega⟩
                          · have hnt : ¬ (z < now ∨ 1099511627776 < z) := fun h => hok ((actBad_tick hne).2 h)
                            have hM : tickM now l bad z = ⟨none, z, rAged z l, bad⟩ := if_neg hnt
                            have hz : now ≤ z ∧ z ≤ 1099511627776 := by omega
                            rw [hM] at hcall
                            have hokl := hTn.dm.ok
                            clear h2 hM hok HEV HMT hne hnt
                            go_wp2_with (fail)
                            refine hcall.mono ?_
                            rintro e6 w6' ⟨rfl, hD6, hF6⟩
                            obtain ⟨m1, m2, m3⟩ := hTn.mid hF6
                            have HPUT := Lib.hid (fun (w'' : World) (g : Fr (fun _ => False) w6' w'') (am' : Option Addr) (cm' : Nat) (hrd : Recs w''.heap am' 5 Td.cells (rAged z l)) (hnew : ∀ b off, am' = some ⟨b, off, none⟩ → B < b) => hTn.put (cm' := cm') hD6 hF6 g hrd hnew)
                            have herr := fun W' (f' : Fr (fun _ => False) w6' W') => error_any none 0 W' (HG.out.none (m3.trans f'))
                            rw [show errT none = .nilIface from rfl, show (errN none == 0) = true by rfl] at herr
                            rw [show errO none = .nilIface from rfl]
                            have hms := m1.lt
                            clear hcall hD6 hF6 hTn ea ef ez em0 em1
                            go_wp2_with (fail)
                            refine (herr _ (Fr.refl _ _)).mono ?_
                            rintro e7 w7 ⟨rfl, hF7⟩
                            have hs67 := hF7.size
                            have hL7 := qaged_any l ad cd now z w7.drew ((m2.fr hF7 (fun _ _ _ h => h)).fr ((Fr.refl (fun _ => False) w7).drew) (fun _ _ _ h => h)) hokl hz.1 hz.2
                            have m7 := m1.fr hF7 (fun h => h)
                            have c0 := m7.cell 0
                            have c1 := m7.cell 1
                            have cl := m7.lt
                            simp only [List.getElem?_cons_succ, List.getElem?_cons_zero] at c0 c1
                            obtain ⟨-, -, ez, -, -⟩ := hb.out w7 (m3.trans hF7)
                            have zgz := Nat.lt_of_lt_of_le hgz (m3.trans hF7).size
                            clear herr m2 m3 m1
                            go_wp2
                            (refine wp_region_mix (fun _ => True) 5 (by kernel_rfl) (by kernel_rfl) (trivial) ?_; simp only [List.take_succ_cons, List.take_zero, List.drop_succ_cons, List.drop_zero])
                            (refine wpMix_earlyN 5 (by kernel_rfl) (by kernel_rfl) ?_; simp only [List.take_succ_cons, List.take_zero, List.drop_succ_cons, List.drop_zero]; (repeat (go_big_quiet_step (fail))); refine wpQuiet_nil ?_)
                            refine wpMix_nil ?_
                            go_wp2_with (fail)
                            refine hL7.mono ?_
                            intro e8 w8 R8
                            obtain ⟨a8, c8, rfl, hR8, hF8, hN8⟩ := R8.rb
                            have hF68 := (hF7.drew).trans hF8
                            have m8 := m7.fr ((Fr.refl (fun _ => False) w7).drew.trans hF8) (fun h => h)
                            have f0 := m8.frozen 0
                            have f1 := m8.frozen 1
                            have c0' := m8.cell 0
                            have c1' := m8.cell 1
                            have cl' := m8.lt
                            simp only [List.getElem?_cons_succ, List.getElem?_cons_zero] at c0' c1'
                            have hs8 : B < w7.drew.heap.size := cl
                            have HT := Lib.hid (HPUT.out w8 hF68 a8 c8 hR8 (fun b off e => by have := hN8 b off e; omega))
                            clear hL7 R8 hR8 hF8 hF68 m7 m8 c0 c1 hF7 HPUT ez
                            go_wp2
                            go_meet
                            exact ⟨rfl, z, _, bad, a8, c8, rfl, HT.out, hb0, by omega⟩
                        --]]
                    case rest =>
                      --[[I
                      as_aux_lemma =>
                      obtain ⟨rfl, now', l', bad', ad', cd', rfl, hT', hb0', hb1'⟩ := hcut
                      go_wp2
                      go_roundw
                      case rel => exact ⟨k + 1, now', l', bad', ad', cd', by omega, by go_num, rfl, hT', by omega, by omega⟩
                      case measure => simp [intOf]; omega
                      --]]
          · --[[M
            as_aux_lemma =>
            have q : decide (k < acts.length) = false ∨ (decide (k < acts.length) = true ∧ decide (k < froms.length) = false) ∨ (decide (k < acts.length) = true ∧ decide (k < froms.length) = true ∧ decide (k < nows.length) = false) ∨ (decide (k < acts.length) = true ∧ decide (k < froms.length) = true ∧ decide (k < nows.length) = true ∧ decide (k < ms.length) = false) := by
              simp only [decide_eq_true_eq, decide_eq_false_iff_not]
              omega
            clear hgo
            rcases q with q1 | ⟨q1, q2⟩ | ⟨q1, q2, q3⟩ | ⟨q1, q2, q3, q4⟩
            all_goals
              go_wp2
              go_meet
              case rel => exact ⟨now, l, bad, ad, cd, rfl, hT⟩
            --]]
      case rest =>
        clear hT0
        obtain ⟨now, l, bad, ad, cd, rfl, hT⟩ := hcut
        obtain ⟨c0, c1, -, -, cl⟩ := hT.cells
        have hsz := hT.size
        have hcallA := qall_any (M := costs.length) (N := own.length) D l ad cd now ac ao cc co wc (by rw [HDC.out]; exact HC.out.fr0 hT.fr (fun _ _ h => h)) hT.dm.near (by rw [HDO.out]; exact HO.out.fr hT.fr (fun _ _ _ h => h)) hT.dm.o25 hT.dm.nodup hT.rd hT.dm.ok hT.dm.out (by rw [HDC.out]) (by rw [HDO.out])
        have HT := Lib.hid hT
        clear hT
        go_wp2_with (fail)
        refine hcallA.mono ?_
        rintro e7 w7 ⟨R, aR, cR, ob, rfl, hA, hR, hF7⟩
        have hT7 := HT.out.fr0 hF7
        have hRl := hR.len
        have hRe := hR.each hT7.dm
        have HRR := Lib.hid hR
        have HAA := Lib.hid hA
        have HRE := Lib.hid hRe
        have HT7 := Lib.hid hT7
        have hob := hA.new
        obtain ⟨nR, hnR⟩ : ∃ nR, nR = R.length := ⟨_, rfl⟩
        rw [← hnR] at hRl
        have HNR := Lib.hid hnR
        rw [show (Value.slice aR R.length cR) = .slice aR nR cR by rw [hnR]]
        clear hcallA hT7 hR hA hRe hF7 hnR c0 c1
        go_wp2
        go_loopw [34, 33] (fun s34 s33 wr => ∃ (i nW : Nat) (aW : Option Addr) (cW : Nat) (obW : Option Nat), i ≤ nR ∧ s34 = .int .i64 i ∧ s33 = .slice aW nW cW ∧ nW ≤ i ∧ Hid (nW = (wayS R i).length) ∧ Ownd wr.heap 66 4 aW nW cW ((wayS R i).flatMap BestR.cells) obW ∧ (∀ g, obW = some g → w7.heap.size ≤ g) ∧ Fr (fun _ => False) w7 wr) (fun s _ _ => nR - (intOf s).toNat)
        case atStart => exact ⟨0, 0, none, 0, none, by omega, rfl, rfl, by omega, Lib.hid rfl, Ownd.nil _ _ _, (fun _ h => nomatch h), Fr.refl _ _⟩
        case round =>
          obtain ⟨i, nW, aW, cW, obW, hi, rfl, rfl, hnW, hWL, hO8, hN8, hF8⟩ := hrel
          by_cases hin : i < nR
          · --[[N
            as_aux_lemma =>
            have hin' : i < R.length := by rw [← HNR.out]; exact hin
            have s8 : decide (i < nR) = true := decide_eq_true hin
            obtain ⟨g, o, hax, hgl, hgc⟩ := Recs.pos (show Recs w7.heap aR 4 BestR.cells R from HAA.out.own.rd) BestR.cells_len (by omega) (by omega)
            subst hax
            have dd := fun (j : Nat) (hj : j < 4) => (hF8.cell (p := ⟨g, o + (i * 4 + j), none⟩) hgl (fun h => h)).trans (hgc w7 rfl i j hin' hj)
            have d0 := dd 0 (by omega)
            have d1 := dd 1 (by omega)
            have d2 := dd 2 (by omega)
            have d3 := dd 3 (by omega)
            have hxe := HRE.out _ (nth_mem R i hin')
            have hgr := Nat.lt_of_lt_of_le hgl hF8.size
            have HY := Lib.hid (fun (h : (nth R i).m < 16) => wayS_yes hin' rfl h)
            have HN := Lib.hid (fun (h : ¬ (nth R i).m < 16) => wayS_no hin' rfl h hxe.2.2.2.1)
            generalize nth R i = x at *
            obtain ⟨xa, xn, xm, xh, xA, xC⟩ := x
            simp only at hxe HY HN
            simp only [BestR.cells, List.getElem?_cons_zero, List.getElem?_cons_succ, ← Nat.add_assoc, Nat.add_zero] at d0 d1 d2 d3
            clear dd hgc hxe
            by_cases hm : xm < 16
            · have s9 : decide (xm < 16) = true := decide_eq_true hm
              have HS := Lib.hid (HY.out hm)
              obtain ⟨xl, hxl⟩ : ∃ xl, xl = xh.length := ⟨_, rfl⟩
              rw [← hxl] at d3
              have HXL := Lib.hid hxl
              have hrd := rd_lit wr 66 [.int .u32 xa, .int .i64 xn, .int .i64 xm, .slice xA xl xC]
              have hOb := hO8.alloc (.cells #[.int .u32 xa, .int .i64 xn, .int .i64 xm, .slice xA xl xC] 66)
              have hFb := hF8.alloc (.cells #[.int .u32 xa, .int .i64 xn, .int .i64 xm, .slice xA xl xC] 66)
              clear hO8 HY HN hxl
              go_wp2_with (at_builtin; refine wpList_app rfl _ _ 37 rfl Tryz.underlying37 infoBst rfl (by decide) rfl rfl hOb hrd (by simp [Value.oneCell']) (by omega) (by omega) ?_)
              intro a9 c9 w9 ob9 v1 v2 v3
              have hF9 := Fr.app hFb v2 hN8
              have hN9 : ∀ g, ob9 = some g → w7.heap.size ≤ g := app_new hN8 v3 (by have := hF8.size; first | omega | (simp only [World.size_alloc]; omega))
              have HO9 := Lib.hid (show Ownd w9.heap 66 4 a9 (nW + 1) c9 ((wayS R (i + 1)).flatMap BestR.cells) ob9 from by
                rw [HS.out, List.flatMap_append]
                have h := v1
                rw [HXL.out] at h
                simpa using h)
              have HNW := Lib.hid (show nW + 1 = (wayS R (i + 1)).length by rw [HS.out, List.length_append, ← hWL.out]; rfl)
              clear v1 v2 v3 hOb hrd hFb
              go_wp2
              go_roundw
              case rel => exact ⟨i + 1, nW + 1, a9, c9, ob9, by omega, by go_num, rfl, by omega, HNW, HO9.out, hN9, hF9⟩
              case measure => simp [intOf]; omega
            · have s9 : decide (xm < 16) = false := decide_eq_false hm
              have HS := Lib.hid (HN.out hm)
              clear HY HN
              go_wp2
              go_roundw
              case rel => exact ⟨i + 1, nW, aW, cW, obW, by omega, by go_num, rfl, by omega, by rw [HS.out]; exact hWL, by rw [HS.out]; exact hO8, hN8, hF8⟩
              case measure => simp [intOf]; omega
            --]]
          · have hin2 : i = nR := by omega
            have s8 : decide (i < nR) = false := decide_eq_false hin
            have hir : i = R.length := hin2.trans HNR.out
            rw [hir, wayS_all] at hO8
            have hWL' := hWL.out
            rw [hir, wayS_all] at hWL'
            have HWL := Lib.hid hWL'
            have HOW := Lib.hid hO8
            have hT8 := HT7.out.fr0 hF8
            have HT8 := Lib.hid hT8
            have htab := dtab_any wr hT8.dm
            have HTR := Lib.hid (tabR_of hT8.dm HRR.out)
            clear hin hin2 hir hWL' hO8 hWL hT8
            go_wp2_with (fail)
            refine htab.mono ?_
            rintro e9 w9 ⟨T, aT, cT, obT, rfl, hAT, hTR, hF9⟩
            have hbT := hAT.tells (TabR.h4 HT8.out.dm hTR)
            have hF79 := hF8.trans hF9
            have hbS : BestsR w9.heap aW (R.filter fun x => !(x.m == 16)) := ⟨by unfold Recs; rw [← HWL.out]; exact (HOW.out.fr hF9 (fun _ _ h => h)).rd, fun x hx => by
              obtain ⟨o, h1, -⟩ := HAA.out.row x (List.mem_filter.1 hx).1
              exact (h1.fr hF79 (fun _ _ h => h)).rd, fun x hx => by have := (HRE.out x (List.mem_filter.1 hx).1).2.2.2.2.1; omega⟩
            obtain ⟨p1, p2⟩ := tab_same (D := D) (E := D) rfl rfl hTR HTR.out
            have hTl := hTR.len
            have hsb := sbests_true (n := T.length) (k := nW) T (R.filter fun x => !(x.m == 16)) aT aW cT cW w9 hbT hbS (Lib.hid p2) p1 (by omega) rfl (by rw [HWL.out]; exact p1)
            have HT9 := Lib.hid (HT8.out.fr0 hF9)
            clear htab hAT hTR hbT hbS p1 p2 hF9
            go_wp2_with (fail)
            refine hsb.mono ?_
            rintro e10 w10 ⟨rfl, hF10⟩
            have hT10 := HT9.out.fr0 hF10
            have hFR := hF79.trans hF10
            clear hsb
            by_cases ht : tq < 0 ∨ (costs.length : Int) ≤ tq
            · --[[O
              as_aux_lemma =>
              have q : decide (tq < 0) = true ∨ (decide (tq < 0) = false ∧ decide ((costs.length : Int) ≤ tq) = true) := by
                by_cases h : tq < 0
                · exact .inl (decide_eq_true h)
                · exact .inr ⟨decide_eq_false h, decide_eq_true (by omega)⟩
              have hcall := dtell_no tq w10 hT10.dm (by rw [HDC.out]; exact ht)
              have HT11 := Lib.hid hT10
              have herr := fun W' (f' : Fr (fun _ => False) w10 W') => error_any (some 1) 1 W' (HG.out.none (hT10.fr.trans f'))
              rw [show errT (some 1) = errv 1 from rfl, show (errN (some 1) == 1) = true by rfl] at herr
              clear hT10 ht hFR hF10 hF79
              rcases q with q1 | ⟨q1, q2⟩
              all_goals
                go_wp2_with (fail)
                refine hcall.mono ?_
                rintro e11 w11 ⟨rfl, rfl⟩
                clear hcall
                go_wp2_with (fail)
                refine (herr _ (Fr.refl _ _)).mono ?_
                rintro e12 w12 ⟨rfl, hF12⟩
                have hby := u8s_any (N := 0) (M := 0) [] [] none none 0 0 w12 (Rd.nil _ _ _) (Rd.nil _ _ _) (by decide) (by decide) rfl rfl
                rw [show decide (([] : List Int) = []) = true from rfl] at hby
                go_wp2_with (fail)
                refine hby.mono ?_
                rintro e13 w13 ⟨rfl, n13, rfl⟩
                have hT13 := (HT11.out.fr0 hF12).fr0 ((Fr.refl (fun _ => False) w12).drewN n13)
                have hcb := dbad_any _ hT13.dm
                have HFE := Lib.hid hT13.fr
                have s7 : (bad == bad) = true := by simp
                clear herr hby hF12 hT13
                go_wp2_with (fail)
                refine hcb.mono ?_
                rintro e14 w14 ⟨rfl, rfl⟩
                clear hcb
                go_wp2
                go_ret
                exact RetV.mk rfl rfl HFE.out
              --]]
            · --[[P
              as_aux_lemma =>
              have q1 : decide (tq < 0) = false := decide_eq_false (by omega)
              have q2 : decide ((costs.length : Int) ≤ tq) = false := decide_eq_false (by omega)
              have hd8 := hT10.dm.c8
              have hDl : D.costs.length = costs.length := by rw [HDC.out]
              have hv := viewOf_any R aR cR tq true w10 ((HAA.out.fr0 hFR).view hT10.dm HRR.out) (by rw [← HNR.out]; omega)
              have hve : viewErr tq R = none := by
                unfold viewErr
                rw [if_neg (by omega)]
                exact viewErrL_none R [] (fun b hb => by obtain ⟨k1, -, k3, k4, -⟩ := HRE.out b hb; exact ⟨k1, k3, k4, by simp⟩) (nsn HRR.out.srt)
              rw [hve] at hv
              obtain ⟨k1, k2⟩ := tellL_ok (tq := tq) hT10.dm HRR.out
              have HK1 := Lib.hid k1
              have HK2 := Lib.hid k2
              have HT10 := Lib.hid hT10
              have HTI := Lib.hid (show ¬ (tq < 0 ∨ (D.costs.length : Int) ≤ tq) by rw [HDC.out]; exact ht)
              rw [← HNR.out] at hv
              clear hve k1 k2 hT10 ht hFR hF10 hF79
              go_wp2_with (fail)
              refine hv.mono ?_
              rintro e11 w11 ⟨a3, c3, ob3, rfl, hO3, hF3, hN3⟩
              rw [viewOut_tell] at hO3 ⊢
              have hcap := hO3.cap
              have hl3 : (R.map (tell1 tq)).length = nR := by rw [List.length_map, HNR.out]
              have hrd := Rd.takeK hO3.rd (min (R.map (tell1 tq)).length 25) (by omega)
              rw [tell_flat] at hrd
              have hlt : (tellL tq R).length = min (R.map (tell1 tq)).length 25 := by unfold tellL; rw [List.length_take]; omega
              have hrec : Recs w11.heap a3 5 En.cells (tellL tq R) := by
                show Rd _ _ _ _ _
                rw [hlt]; exact hrd
              have hcallE := bytesOf_any (M := min nR 25) false (tellL tq R) a3 c3 w11 hrec HK2.out HK1.out (by rw [hlt, hl3])
              have hTx := HT10.out.fr0 hF3
              have HTX := Lib.hid hTx
              rw [hl3] at hcap ⊢
              have hmin : (min (nR : Int) 25) = ((min nR 25 : Nat) : Int) := by omega
              clear hv hrec hrd hO3 hF3 hN3 hlt hl3 hTx
              go_wp2_with (fail)
              refine hcallE.mono ?_
              rintro e4 w4 ⟨a4, c4, ob4, rfl, hO4, hF4⟩
              have hT4 := HTX.out.fr0 hF4
              obtain ⟨bs, hbs⟩ : ∃ bs, bs = encD false (tellL tq R) := ⟨_, rfl⟩
              have hbl : bs.length ≤ 504 := by
                rw [hbs, encD_len]
                have : (tellL tq R).length ≤ 25 := by unfold tellL; rw [List.length_take]; omega
                omega
              rw [← hbs] at hO4 ⊢
              have HBS := Lib.hid hbs
              have hcallT := dtell_any tq w4 hT4.dm HTI.out
              have HT4 := Lib.hid hT4
              clear hcallE hF4 hbs hT4
              go_wp2_with (fail)
              refine hcallT.mono ?_
              rintro e5 w11' ⟨R', a5, c5, ob5, hR', rfl, hO5, hF5, -⟩
              rw [tell_same hR' HRR.out tq, ← HBS.out] at hO5 ⊢
              have hT11 := HT4.out.fr0 hF5
              have HT11 := Lib.hid hT11
              have hO4' := hO4.fr hF5 (fun _ _ h => h)
              have herr := fun W' (f' : Fr (fun _ => False) w11' W') => error_any none 0 W' (HG.out.none (hT11.fr.trans f'))
              rw [show errT none = .nilIface from rfl, show (errN none == 0) = true by rfl] at herr
              clear hcallT hF5 hT11 hR' hO4
              go_wp2_with (fail)
              refine (herr _ (Fr.refl _ _)).mono ?_
              rintro e12 w12 ⟨rfl, hF12⟩
              have hby := u8s_any (N := bs.length) (M := bs.length) bs bs a5 a4 c5 c4 w12 (hO5.fr hF12 (fun _ _ h => h)).rd (hO4'.fr hF12 (fun _ _ h => h)).rd (by omega) (by omega) rfl rfl
              rw [show decide (bs = bs) = true from decide_eq_true rfl] at hby
              go_wp2_with (fail)
              refine hby.mono ?_
              rintro e13 w13 ⟨rfl, n13, rfl⟩
              have hT13 := (HT11.out.fr0 hF12).fr0 ((Fr.refl (fun _ => False) w12).drewN n13)
              have hcb := dbad_any _ hT13.dm
              have HFE := Lib.hid hT13.fr
              have s7 : (bad == bad) = true := by simp
              clear herr hby hF12 hT13
              go_wp2_with (fail)
              refine hcb.mono ?_
              rintro e14 w14 ⟨rfl, rfl⟩
              clear hcb
              go_wp2
              go_ret
              exact RetV.mk rfl rfl HFE.out
              --]]
end Go.Proofs.YtfglidaicjjpfaaGreatDoor
end
