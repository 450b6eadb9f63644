import Derived.Test.YtfglidaicjjpfaaGreatDoorQTel29
import Derived.Test.YtfglidaicjjpfaaGreatDoorQTel23
import Derived.Deep.CutBlock
import Derived.Deep.CutRange
import Derived.Deep.DeepCutAuto
import Derived.BigQuiet
section
namespace Go.Proofs.YtfglidaicjjpfaaGreatDoor
open Go.RowKit

set_option maxRecDepth 100000 in
set_option maxHeartbeats 4000000 in
theorem entryOf_any (l : List Int) (a : Option Addr) (c : Nat) (w : World) (hL : Rd w.heap a 20 1 (ivals .u8 l)) (hb : ∀ x ∈ l, 0 ≤ x ∧ x < 256) :
    Calls Tryz.prog 52 #[.slice a 20 c] w (RetEnt w (entD l)) := by
  have hll : l.length = 20 := by have := hL.len; simpa [ivals] using this
  have num : ∀ (i : Nat) (_ : i = 4 ∨ i = 8 ∨ i = 12 ∨ i = 16) (W : World) (_ : Fr (fun _ => False) w W), Calls Tryz.prog 81 #[.slice a 20 c, .int .i64 i] W (RetV W (.int .u32 (numB ((l.drop i).take 4)))) := fun i hi W f => by
    have h := rnum_any l a i c W (by rw [hll]; exact hL.fr f (fun _ _ _ h => h)) hb (by omega) (by omega) hi
    rw [hll] at h
    exact h.mono fun e w' hh => hh.v
  have n4 : ∀ (W : World) (_ : Fr (fun _ => False) w W), Calls Tryz.prog 81 #[.slice a 20 c, .int .i64 4] W (RetV W (.int .u32 (numB ((l.drop 4).take 4)))) := num 4 (by omega)
  have n8 : ∀ (W : World) (_ : Fr (fun _ => False) w W), Calls Tryz.prog 81 #[.slice a 20 c, .int .i64 8] W (RetV W (.int .u32 (numB ((l.drop 8).take 4)))) := num 8 (by omega)
  have n12 : ∀ (W : World) (_ : Fr (fun _ => False) w W), Calls Tryz.prog 81 #[.slice a 20 c, .int .i64 12] W (RetV W (.int .u32 (numB ((l.drop 12).take 4)))) := num 12 (by omega)
  have n16 : ∀ (W : World) (_ : Fr (fun _ => False) w W), Calls Tryz.prog 81 #[.slice a 20 c, .int .i64 16] W (RetV W (.int .u32 (numB ((l.drop 16).take 4)))) := num 16 (by omega)
  have bd : ∀ i m, 0 ≤ numB ((l.drop i).take m) ∧ numB ((l.drop i).take m) < 4294967296 := fun i m => numB_bd (fun x hx => hb x (List.mem_of_mem_drop (List.mem_of_mem_take hx)))
  have b4 := bd 4 4
  have b8 := bd 8 4
  have b12 := bd 12 4
  have b16 := bd 16 4
  have t2 := two_num l 2 (by omega) hb
  have yes := fun (k : Nat) (hk : k ≤ 32) (h : EntP l k) => entD_yes hll hb hk h
  have non := fun (k : Nat) (hk : k ≤ 32) (hf : ∀ j, j < k → maskV j ≠ numB ((l.drop 8).take 4)) (hs : k = 32 ∨ maskV k = numB ((l.drop 8).take 4)) (h : ¬ EntP l k) => entD_no hll hb hk hf hs h
  have q2 := hb _ (nth_mem l 2 (by omega))
  have q3 := hb _ (nth_mem l (2 + 1) (by omega))
  have hL' : Rd w.heap a l.length 1 (ivals .u8 l) := by rw [hll]; exact hL
  obtain ⟨g, o, rfl, hg, hc⟩ := u8s_pos hL' (by omega)
  have c0 := hc w rfl 0 (by omega)
  have c1 := hc w rfl 1 (by omega)
  have c2 := hc w rfl 2 (by omega)
  have c3 := hc w rfl 3 (by omega)
  unfold EntP entV at yes
  unfold EntP at non
  generalize numB ((l.drop 4).take 4) = N4 at *
  generalize numB ((l.drop 8).take 4) = N8 at *
  generalize numB ((l.drop 12).take 4) = N12 at *
  generalize numB ((l.drop 16).take 4) = N16 at *
  generalize numB ((l.drop 2).take 2) = N2 at *
  simp only [Nat.reduceAdd] at t2 q3
  generalize nth l 0 = x0 at *
  generalize nth l 1 = x1 at *
  generalize nth l 2 = x2 at *
  generalize nth l 3 = x3 at *
  have M4 := Lib.hid n4
  have M8 := Lib.hid n8
  have M12 := Lib.hid n12
  have M16 := Lib.hid n16
  have HYES := Lib.hid yes
  have HNON := Lib.hid non
  have HT2 := Lib.hid t2
  have hF0 := (Fr.refl (fun _ => False) w).alloc (.cells #[.int .u32 0, .int .i64 0, .int .i64 0, .int .u32 0, .int .i64 0] 87)
  have hB0 := Blk.made w 87 [.int .u32 0, .int .i64 0, .int .i64 0, .int .u32 0, .int .i64 0]
  obtain ⟨R, hR⟩ : ∃ R, R = entD l := ⟨_, rfl⟩
  rw [← hR] at HYES HNON ⊢
  obtain ⟨w0, hw0⟩ : ∃ w0, w0 = w.alloc (.cells #[.int .u32 0, .int .i64 0, .int .i64 0, .int .u32 0, .int .i64 0] 87) := ⟨_, rfl⟩
  rw [← hw0] at hF0 hB0
  clear num bd n4 n8 n12 n16 hL hL' hR hb yes non t2 hc
  go_enter Tryz.func52, Tryz.ntmps52
  go_upto_block 0 with (fail)
  rw [← hw0]
  go_cut [4] (fun s4 wx => ∃ k : Nat, k ≤ 32 ∧ s4 = .int .i64 k ∧ Fr (fun _ => False) w0 wx ∧ Hid ((∀ j, j < k → maskV j ≠ N8) ∧ (k = 32 ∨ maskV k = N8)))
  case first =>
    go_wp2
    go_loopw [4] (fun s4 wr => ∃ k : Nat, k ≤ 32 ∧ s4 = .int .i64 k ∧ Fr (fun _ => False) w0 wr ∧ Hid (∀ j, j < k → maskV j ≠ N8)) (fun s _ => 32 - (intOf s).toNat)
    case atStart => exact ⟨0, by omega, rfl, Fr.refl _ _, Lib.hid (fun j hj => absurd hj (Nat.not_lt_zero _))⟩
    case round =>
      obtain ⟨k, hk, rfl, hF, hJ⟩ := hrel
      by_cases hk32 : k < 32
      · go_wp2_with (go_at_call 50; refine (maskRef_any k _ (by omega)).mono ?_)
        rintro e5 w5 ⟨rfl, rfl⟩
        go_wp2_with (fail)
        refine (M8.out _ (hF0.trans hF)).mono ?_
        rintro e6 w6 ⟨rfl, hF6⟩
        have hF6' := hF.trans hF6
        by_cases hm : maskV k = N8
        · have t : (maskV k != N8) = false := by simp [hm]
          have HE := Lib.hid (show (∀ j, j < k → maskV j ≠ N8) ∧ (k = 32 ∨ maskV k = N8) from ⟨hJ.out, .inr hm⟩)
          clear hm hF hF6
          go_wp2
          go_meet
          case rel => exact ⟨k, hk, rfl, hF6', HE⟩
        · have t : (maskV k != N8) = true := by simp [hm]
          have HE := Lib.hid (show ∀ j, j < k + 1 → maskV j ≠ N8 from fun j hj => by
            rcases Nat.lt_succ_iff_lt_or_eq.1 hj with h | h
            · exact hJ.out j h
            · rw [h]; exact hm)
          clear hm hF hF6
          go_wp2
          go_roundw
          case rel => exact ⟨k + 1, by omega, by go_num, hF6', HE⟩
          case measure => simp [intOf]; omega
      · have hk2 : k = 32 := by omega
        have HE := Lib.hid (show (∀ j, j < k → maskV j ≠ N8) ∧ (k = 32 ∨ maskV k = N8) from ⟨hJ.out, .inl hk2⟩)
        clear hk2
        go_wp2
        go_meet
        case rel => exact ⟨k, hk, rfl, hF, HE⟩
  case rest =>
    obtain ⟨k, hk, rfl, hFk, hKD⟩ := hcut
    have hyes := HYES.out k hk
    have hno := HNON.out k hk hKD.out.1 hKD.out.2
    have HY2 := Lib.hid hyes
    have HN2 := Lib.hid hno
    obtain ⟨W, hW⟩ : ∃ W, W = wc := ⟨_, rfl⟩
    rw [← hW] at hFk ⊢
    have hFW := hF0.trans hFk
    clear hyes hno hW HYES HNON hKD
    generalize wc = wc0 at *
    go_upto_region 4 with (fail)
    have qa : ∀ cc : Cls (fun _ => False) W, cc.wo.cell? ⟨g, o + 2, none⟩ = some (.int .u8 x2) := fun cc => ((hFW.trans cc.fr).cell (p := ⟨g, o + 2, none⟩) hg (fun h => h)).trans c2
    have qb : ∀ cc : Cls (fun _ => False) W, cc.wo.cell? ⟨g, o + 3, none⟩ = some (.int .u8 x3) := fun cc => ((hFW.trans cc.fr).cell (p := ⟨g, o + 3, none⟩) hg (fun h => h)).trans c3
    have ql : ∀ cc : Cls (fun _ => False) W, g < cc.wo.heap.size := fun cc => Nat.lt_of_lt_of_le hg (hFW.trans cc.fr).size
    have hN2 : x2 * 256 + x3 = N2 := HT2.out.symm
    go_cut [5] (fun s5 wx => ∃ p : Nat, s5 = .pointer (some ⟨p, 0, none⟩) ∧ Blk wx.heap p 87 [.int .u32 N4, .int .i64 k, .int .i64 N2, .int .u32 N12, .int .i64 N16] ∧ Fr (fun _ => False) W wx ∧ W.heap.size ≤ p)
    case first =>
      (refine wp_region_tree (fun w' => ∃ c : Cls (fun _ => False) W, w' = c.wo) 21 (by kernel_rfl) (by kernel_rfl) (⟨⟨_, (Fr.refl _ _).drew⟩, rfl⟩) ?_; intro hTB)
      (refine tr_late hTB (⟨⟨_, (Fr.refl _ _).drew⟩, rfl⟩) 0 1 _ rfl (by decide) (by kernel_rfl) ?_; simp only [List.take_succ_cons, List.take_zero, List.drop_succ_cons, List.drop_zero]; (repeat (go_big_quiet_step (fail))); refine wpQuiet_nil ?_)
      (refine tr_late hTB (⟨⟨_, (Fr.refl _ _).drew⟩, rfl⟩) 2 1 _ rfl (by decide) (by kernel_rfl) ?_; simp only [List.take_succ_cons, List.take_zero, List.drop_succ_cons, List.drop_zero]; (repeat (go_big_quiet_step (fail))); refine wpQuiet_nil ?_)
      (refine tr_late hTB (⟨⟨_, (Fr.refl _ _).drew⟩, rfl⟩) 4 11 _ rfl (by decide) (by kernel_rfl) ?_; simp only [List.take_succ_cons, List.take_zero, List.drop_succ_cons, List.drop_zero]; (repeat (go_big_quiet_step (fail))); refine wpQuiet_nil ?_)
      (refine tr_late hTB (⟨⟨_, (Fr.refl _ _).drew⟩, rfl⟩) 16 1 _ rfl (by decide) (by kernel_rfl) ?_; simp only [List.take_succ_cons, List.take_zero, List.drop_succ_cons, List.drop_zero]; (repeat (go_big_quiet_step (fail))); refine wpQuiet_nil ?_)
      (refine tr_eff [1, 20] _ rfl (by kernel_rfl) (by kernel_rfl) (List.forall_mem_cons.2 ⟨?_, List.forall_mem_cons.2 ⟨?_, fun _ h => nomatch h⟩⟩)) <;> (unfold TrE; simp only [List.take_succ_cons, List.take_zero, List.drop_succ_cons, List.drop_zero])
      · go_wp2_with (fail)
        refine (M4.out _ (hFW.trans ((Fr.refl (fun _ => False) W).drew))).mono ?_
        rintro e1 w1 ⟨rfl, hH1⟩
        have hG1 : Fr (fun _ => False) W w1 := ((Fr.refl (fun _ => False) W).drew).trans hH1
        clear hH1
        go_wp2
        refine ⟨⟨⟨_, hG1⟩, rfl⟩, ?_⟩
        (refine tr_late hTB (⟨⟨_, (Fr.refl _ _).drew⟩, rfl⟩) 3 1 _ rfl (by decide) (by kernel_rfl) ?_; simp only [List.take_succ_cons, List.take_zero, List.drop_succ_cons, List.drop_zero]; (repeat (go_big_quiet_step (fail))); refine wpQuiet_nil ?_)
        (refine tr_eff [15, 20] _ rfl (by kernel_rfl) (by kernel_rfl) (List.forall_mem_cons.2 ⟨?_, List.forall_mem_cons.2 ⟨?_, fun _ h => nomatch h⟩⟩)) <;> (unfold TrE; simp only [List.take_succ_cons, List.take_zero, List.drop_succ_cons, List.drop_zero])
        · go_wp2_with (fail)
          refine (M12.out _ (hFW.trans (hG1))).mono ?_
          rintro e15 w15 ⟨rfl, hH15⟩
          have hG15 : Fr (fun _ => False) W w15 := (hG1).trans hH15
          clear hH15
          go_wp2
          refine ⟨⟨⟨_, hG15⟩, rfl⟩, ?_⟩
          (refine tr_eff [17, 20] _ rfl (by kernel_rfl) (by kernel_rfl) (List.forall_mem_cons.2 ⟨?_, List.forall_mem_cons.2 ⟨?_, fun _ h => nomatch h⟩⟩)) <;> (unfold TrE; simp only [List.take_succ_cons, List.take_zero, List.drop_succ_cons, List.drop_zero])
          · go_wp2_with (fail)
            refine (M16.out _ (hFW.trans (hG15))).mono ?_
            rintro e17 w17 ⟨rfl, hH17⟩
            have hG17 : Fr (fun _ => False) W w17 := (hG15).trans hH17
            clear hH17
            go_wp2
            refine ⟨⟨⟨_, hG17⟩, rfl⟩, ?_⟩
            (refine tr_late hTB (⟨⟨_, (Fr.refl _ _).drew⟩, rfl⟩) 18 2 _ rfl (by decide) (by kernel_rfl) ?_; simp only [List.take_succ_cons, List.take_zero, List.drop_succ_cons, List.drop_zero]; (repeat (go_big_quiet_step (fail))); refine wpQuiet_nil ?_)
            (refine tr_eff [20] _ rfl (by kernel_rfl) (by kernel_rfl) (List.forall_mem_cons.2 ⟨?_, fun _ h => nomatch h⟩)) <;> (unfold TrE; simp only [List.take_succ_cons, List.take_zero, List.drop_succ_cons, List.drop_zero])
            · go_wp2
              refine ⟨⟨⟨_, hG17.alloc (.cells #[.int .u32 0, .int .i64 0, .int .i64 0, .int .u32 0, .int .i64 0] 87)⟩, rfl⟩, ?_⟩
              refine tr_end (by kernel_rfl) ?_
              have HP := Lib.hid (Blk.made w17 87 [.int .u32 N4, .int .i64 k, .int .i64 N2, .int .u32 N12, .int .i64 N16])
              have HG := Lib.hid (hG17.alloc (.cells #[.int .u32 N4, .int .i64 k, .int .i64 N2, .int .u32 N12, .int .i64 N16] 87))
              have hSl := hG17.size
              clear hG17
              go_wp2
              go_meet
              case rel => exact ⟨w17.heap.size, rfl, HP.out, HG.out, hSl⟩
          · go_wp2
            refine ⟨⟨⟨_, hG15.alloc (.cells #[.int .u32 0, .int .i64 0, .int .i64 0, .int .u32 0, .int .i64 0] 87)⟩, rfl⟩, ?_⟩
            have hGz2 := hG15.alloc (.cells #[.int .u32 0, .int .i64 0, .int .i64 0, .int .u32 0, .int .i64 0] 87)
            have hPz2 := Blk.made w15 87 [.int .u32 0, .int .i64 0, .int .i64 0, .int .u32 0, .int .i64 0]
            have hSz2 := hG15.size
            generalize hXz2 : w15.alloc (.cells #[.int .u32 0, .int .i64 0, .int .i64 0, .int .u32 0, .int .i64 0] 87) = wz2 at *
            (refine tr_eff [17] _ rfl (by kernel_rfl) (by kernel_rfl) (List.forall_mem_cons.2 ⟨?_, fun _ h => nomatch h⟩)) <;> (unfold TrE; simp only [List.take_succ_cons, List.take_zero, List.drop_succ_cons, List.drop_zero])
            · go_wp2_with (fail)
              refine (M16.out _ (hFW.trans (hGz2))).mono ?_
              rintro e17z2 w17z2 ⟨rfl, hH17z2⟩
              have hG17z2 : Fr (fun _ => False) W w17z2 := (hGz2).trans hH17z2
              have hP17z2 := hPz2.fr hH17z2 (fun h => h)
              clear hH17z2
              go_wp2
              refine ⟨⟨⟨_, hG17z2⟩, rfl⟩, ?_⟩
              (refine tr_late hTB (⟨⟨_, (Fr.refl _ _).drew⟩, rfl⟩) 18 2 _ rfl (by decide) (by kernel_rfl) ?_; simp only [List.take_succ_cons, List.take_zero, List.drop_succ_cons, List.drop_zero]; (repeat (go_big_quiet_step (fail))); refine wpQuiet_nil ?_)
              refine tr_end (by kernel_rfl) ?_
              obtain ⟨q1, q2⟩ := put5 hP17z2 (.int .u32 N4) (.int .i64 k) (.int .i64 N2) (.int .u32 N12) (.int .i64 N16)
              have f0 := hP17z2.frozen 0
              have f1 := hP17z2.frozen 1
              have f2 := hP17z2.frozen 2
              have f3 := hP17z2.frozen 3
              have f4 := hP17z2.frozen 4
              have g0 := hP17z2.cell 0
              have g1 := hP17z2.cell 1
              have g2 := hP17z2.cell 2
              have g3 := hP17z2.cell 3
              have g4 := hP17z2.cell 4
              have gl := hP17z2.lt
              simp only [List.getElem?_cons_succ, List.getElem?_cons_zero] at g0 g1 g2 g3 g4
              have HQ1 := Lib.hid q1
              have HQ2 := Lib.hid (hG17z2.trans' q2 (fun i hi e => by have h2 : i = w15.heap.size := e; omega))
              have hpa : W.heap.size ≤ w15.heap.size := by first | exact Nat.le_refl _ | (have := hG15.size; omega)
              clear q1 q2 hP17z2 hG17z2
              go_wp2
              go_meet
              case rel => exact ⟨_, rfl, HQ1.out, HQ2.out, hpa⟩
        · go_wp2
          refine ⟨⟨⟨_, hG1.alloc (.cells #[.int .u32 0, .int .i64 0, .int .i64 0, .int .u32 0, .int .i64 0] 87)⟩, rfl⟩, ?_⟩
          have hGz1 := hG1.alloc (.cells #[.int .u32 0, .int .i64 0, .int .i64 0, .int .u32 0, .int .i64 0] 87)
          have hPz1 := Blk.made w1 87 [.int .u32 0, .int .i64 0, .int .i64 0, .int .u32 0, .int .i64 0]
          have hSz1 := hG1.size
          generalize hXz1 : w1.alloc (.cells #[.int .u32 0, .int .i64 0, .int .i64 0, .int .u32 0, .int .i64 0] 87) = wz1 at *
          (refine tr_eff [15] _ rfl (by kernel_rfl) (by kernel_rfl) (List.forall_mem_cons.2 ⟨?_, fun _ h => nomatch h⟩)) <;> (unfold TrE; simp only [List.take_succ_cons, List.take_zero, List.drop_succ_cons, List.drop_zero])
          · go_wp2_with (fail)
            refine (M12.out _ (hFW.trans (hGz1))).mono ?_
            rintro e15z1 w15z1 ⟨rfl, hH15z1⟩
            have hG15z1 : Fr (fun _ => False) W w15z1 := (hGz1).trans hH15z1
            have hP15z1 := hPz1.fr hH15z1 (fun h => h)
            clear hH15z1
            go_wp2
            refine ⟨⟨⟨_, hG15z1⟩, rfl⟩, ?_⟩
            (refine tr_eff [17] _ rfl (by kernel_rfl) (by kernel_rfl) (List.forall_mem_cons.2 ⟨?_, fun _ h => nomatch h⟩)) <;> (unfold TrE; simp only [List.take_succ_cons, List.take_zero, List.drop_succ_cons, List.drop_zero])
            · go_wp2_with (fail)
              refine (M16.out _ (hFW.trans (hG15z1))).mono ?_
              rintro e17z1 w17z1 ⟨rfl, hH17z1⟩
              have hG17z1 : Fr (fun _ => False) W w17z1 := (hG15z1).trans hH17z1
              have hP17z1 := hP15z1.fr hH17z1 (fun h => h)
              clear hH17z1
              go_wp2
              refine ⟨⟨⟨_, hG17z1⟩, rfl⟩, ?_⟩
              (refine tr_late hTB (⟨⟨_, (Fr.refl _ _).drew⟩, rfl⟩) 18 2 _ rfl (by decide) (by kernel_rfl) ?_; simp only [List.take_succ_cons, List.take_zero, List.drop_succ_cons, List.drop_zero]; (repeat (go_big_quiet_step (fail))); refine wpQuiet_nil ?_)
              refine tr_end (by kernel_rfl) ?_
              obtain ⟨q1, q2⟩ := put5 hP17z1 (.int .u32 N4) (.int .i64 k) (.int .i64 N2) (.int .u32 N12) (.int .i64 N16)
              have f0 := hP17z1.frozen 0
              have f1 := hP17z1.frozen 1
              have f2 := hP17z1.frozen 2
              have f3 := hP17z1.frozen 3
              have f4 := hP17z1.frozen 4
              have g0 := hP17z1.cell 0
              have g1 := hP17z1.cell 1
              have g2 := hP17z1.cell 2
              have g3 := hP17z1.cell 3
              have g4 := hP17z1.cell 4
              have gl := hP17z1.lt
              simp only [List.getElem?_cons_succ, List.getElem?_cons_zero] at g0 g1 g2 g3 g4
              have HQ1 := Lib.hid q1
              have HQ2 := Lib.hid (hG17z1.trans' q2 (fun i hi e => by have h2 : i = w1.heap.size := e; omega))
              have hpa : W.heap.size ≤ w1.heap.size := by first | exact Nat.le_refl _ | (have := hG1.size; omega)
              clear q1 q2 hP17z1 hG17z1
              go_wp2
              go_meet
              case rel => exact ⟨_, rfl, HQ1.out, HQ2.out, hpa⟩
      · go_wp2
        refine ⟨⟨⟨_, ((Fr.refl _ W).alloc (.cells #[.int .u32 0, .int .i64 0, .int .i64 0, .int .u32 0, .int .i64 0] 87)).drew⟩, rfl⟩, ?_⟩
        have hGz0 : Fr (fun _ => False) W (W.alloc (.cells #[.int .u32 0, .int .i64 0, .int .i64 0, .int .u32 0, .int .i64 0] 87)).drew := ((Fr.refl _ W).alloc (.cells #[.int .u32 0, .int .i64 0, .int .i64 0, .int .u32 0, .int .i64 0] 87)).drew
        have hPz0 : Blk (W.alloc (.cells #[.int .u32 0, .int .i64 0, .int .i64 0, .int .u32 0, .int .i64 0] 87)).drew.heap W.heap.size 87 [.int .u32 0, .int .i64 0, .int .i64 0, .int .u32 0, .int .i64 0] := Blk.made W 87 [.int .u32 0, .int .i64 0, .int .i64 0, .int .u32 0, .int .i64 0]
        generalize hXz0 : (W.alloc (.cells #[.int .u32 0, .int .i64 0, .int .i64 0, .int .u32 0, .int .i64 0] 87)).drew = wz0 at *
        (refine tr_eff [1] _ rfl (by kernel_rfl) (by kernel_rfl) (List.forall_mem_cons.2 ⟨?_, fun _ h => nomatch h⟩)) <;> (unfold TrE; simp only [List.take_succ_cons, List.take_zero, List.drop_succ_cons, List.drop_zero])
        · go_wp2_with (fail)
          refine (M4.out _ (hFW.trans (hGz0))).mono ?_
          rintro e1z0 w1z0 ⟨rfl, hH1z0⟩
          have hG1z0 : Fr (fun _ => False) W w1z0 := (hGz0).trans hH1z0
          have hP1z0 := hPz0.fr hH1z0 (fun h => h)
          clear hH1z0
          go_wp2
          refine ⟨⟨⟨_, hG1z0⟩, rfl⟩, ?_⟩
          (refine tr_late hTB (⟨⟨_, (Fr.refl _ _).drew⟩, rfl⟩) 3 1 _ rfl (by decide) (by kernel_rfl) ?_; simp only [List.take_succ_cons, List.take_zero, List.drop_succ_cons, List.drop_zero]; (repeat (go_big_quiet_step (fail))); refine wpQuiet_nil ?_)
          (refine tr_eff [15] _ rfl (by kernel_rfl) (by kernel_rfl) (List.forall_mem_cons.2 ⟨?_, fun _ h => nomatch h⟩)) <;> (unfold TrE; simp only [List.take_succ_cons, List.take_zero, List.drop_succ_cons, List.drop_zero])
          · go_wp2_with (fail)
            refine (M12.out _ (hFW.trans (hG1z0))).mono ?_
            rintro e15z0 w15z0 ⟨rfl, hH15z0⟩
            have hG15z0 : Fr (fun _ => False) W w15z0 := (hG1z0).trans hH15z0
            have hP15z0 := hP1z0.fr hH15z0 (fun h => h)
            clear hH15z0
            go_wp2
            refine ⟨⟨⟨_, hG15z0⟩, rfl⟩, ?_⟩
            (refine tr_eff [17] _ rfl (by kernel_rfl) (by kernel_rfl) (List.forall_mem_cons.2 ⟨?_, fun _ h => nomatch h⟩)) <;> (unfold TrE; simp only [List.take_succ_cons, List.take_zero, List.drop_succ_cons, List.drop_zero])
            · go_wp2_with (fail)
              refine (M16.out _ (hFW.trans (hG15z0))).mono ?_
              rintro e17z0 w17z0 ⟨rfl, hH17z0⟩
              have hG17z0 : Fr (fun _ => False) W w17z0 := (hG15z0).trans hH17z0
              have hP17z0 := hP15z0.fr hH17z0 (fun h => h)
              clear hH17z0
              go_wp2
              refine ⟨⟨⟨_, hG17z0⟩, rfl⟩, ?_⟩
              (refine tr_late hTB (⟨⟨_, (Fr.refl _ _).drew⟩, rfl⟩) 18 2 _ rfl (by decide) (by kernel_rfl) ?_; simp only [List.take_succ_cons, List.take_zero, List.drop_succ_cons, List.drop_zero]; (repeat (go_big_quiet_step (fail))); refine wpQuiet_nil ?_)
              refine tr_end (by kernel_rfl) ?_
              obtain ⟨q1, q2⟩ := put5 hP17z0 (.int .u32 N4) (.int .i64 k) (.int .i64 N2) (.int .u32 N12) (.int .i64 N16)
              have f0 := hP17z0.frozen 0
              have f1 := hP17z0.frozen 1
              have f2 := hP17z0.frozen 2
              have f3 := hP17z0.frozen 3
              have f4 := hP17z0.frozen 4
              have g0 := hP17z0.cell 0
              have g1 := hP17z0.cell 1
              have g2 := hP17z0.cell 2
              have g3 := hP17z0.cell 3
              have g4 := hP17z0.cell 4
              have gl := hP17z0.lt
              simp only [List.getElem?_cons_succ, List.getElem?_cons_zero] at g0 g1 g2 g3 g4
              have HQ1 := Lib.hid q1
              have HQ2 := Lib.hid (hG17z0.trans' q2 (fun i hi e => by have h2 : i = W.heap.size := e; omega))
              have hpa : W.heap.size ≤ W.heap.size := by first | exact Nat.le_refl _ | (have := hG17z0.size; omega)
              clear q1 q2 hP17z0 hG17z0
              go_wp2
              go_meet
              case rel => exact ⟨_, rfl, HQ1.out, HQ2.out, hpa⟩
    case rest =>
      obtain ⟨p, rfl, hBp, hFp, hpw⟩ := hcut
      have hFc0 := hFk.trans hFp
      have hFWc := hFW.trans hFp
      have hFc := hFWc
      have hyes := HY2.out
      have hno := HN2.out
      clear qa qb ql HY2 HN2
      have HNO := Lib.hid hno
      have HYES := Lib.hid hyes
      have s0 := (hFc.cell (p := ⟨g, o + 0, none⟩) hg (fun h => h)).trans c0
      have s1 := (hFc.cell (p := ⟨g, o + 1, none⟩) hg (fun h => h)).trans c1
      rw [Nat.add_zero] at s0
      have hgc : g < wc.heap.size := Nat.lt_of_lt_of_le hg hFc.size
      have hBp' := hBp
      have a0 := hBp'.cell 0
      have a1 := hBp'.cell 1
      have a2 := hBp'.cell 2
      have a3 := hBp'.cell 3
      have a4 := hBp'.cell 4
      have al := hBp'.lt
      simp only [List.getElem?_cons_succ, List.getElem?_cons_zero] at a0 a1 a2 a3 a4
      clear hBp' hno hyes
      by_cases k0 : x0 = 0
      · have t0 : (x0 == 0) = true := by simp [k0]
        by_cases k1 : x1 = 2
        · have t1 : (x1 == 2) = true := by simp [k1]
          by_cases k2 : maskV k = N8
          · have t2 : (maskV k == N8) = true := by simp [k2]
            cases hn : netErr N4 k with
            | some q =>
              have HX := Lib.hid (HNO.out (fun h => by have := h.2.2.2.1; rw [hn] at this; cases this))
              have hq := netErr_pos hn
              have t3 : (q == 0) = false := by simp [hq]
              have hcn := fun W => netFault_any N4 k W b4
              rw [hn] at hcn
              simp only [numO] at hcn
              clear k0 k1 k2 hn hq
              go_wp2_with (go_at_call 50; refine (maskRef_any k _ (by omega)).mono ?_)
              rintro e5 w5 ⟨rfl, rfl⟩
              go_wp2_with (fail)
              refine (M8.out _ hFWc).mono ?_
              rintro e6 w6 ⟨rfl, hF6⟩
              have a0' := (hF6.cell (p := ⟨p, 0, none⟩) al (fun h => h)).trans a0
              have a1' := (hF6.cell (p := ⟨p, 1, none⟩) al (fun h => h)).trans a1
              have al' := Nat.lt_of_lt_of_le al hF6.size
              clear a0 a1 a2 a3 a4
              go_wp2_with (fail)
              refine (hcn w6).mono ?_
              rintro e7 w7 ⟨rfl, hF7⟩
              have hFz := (hFc0.trans hF6).trans hF7
              have hFy := hF6.trans hF7
              clear hF6 hF7 a0' a1'
              have hBr := hB0.fr hFz (fun h => h)
              have hBq := hBp.fr hFy (fun h => h)
              obtain ⟨q1, q2⟩ := put5 hBr (.int .u32 N4) (.int .i64 k) (.int .i64 N2) (.int .u32 N12) (.int .i64 N16)
              have f0 := hBr.frozen 0
              have f1 := hBr.frozen 1
              have f2 := hBr.frozen 2
              have f3 := hBr.frozen 3
              have f4 := hBr.frozen 4
              have g0 := hBr.cell 0
              have g1 := hBr.cell 1
              have g2 := hBr.cell 2
              have g3 := hBr.cell 3
              have g4 := hBr.cell 4
              have gl := hBr.lt
              have e0 := hBq.cell 0
              have e1 := hBq.cell 1
              have e2 := hBq.cell 2
              have e3 := hBq.cell 3
              have e4 := hBq.cell 4
              have el := hBq.lt
              have y0 := q1.cell 0
              have y1 := q1.cell 1
              have y2 := q1.cell 2
              have y3 := q1.cell 3
              have y4 := q1.cell 4
              simp only [List.getElem?_cons_succ, List.getElem?_cons_zero] at g0 g1 g2 g3 g4 y0 y1 y2 y3 y4 e0 e1 e2 e3 e4
              have HFF := Lib.hid ((hF0.trans hFz).trans' q2 (fun i hi e => by have h2 : i = w.heap.size := e; omega))
              clear q1 q2 hBr hBq
              go_wp2
              refine bodyPost_ret (v := .tuple #[.agg #[.int .u32 N4, .int .i64 k, .int .i64 N2, .int .u32 N12, .int .i64 N16], .bool false]) (by simp [results, Tryz.results52, go_sem, y0, y1, y2, y3, y4]) rfl ?_
              exact ⟨⟨N4, k, N2, N12, N16⟩, by rw [HX.out]; rfl, HFF.out, (by rw [HX.out]; exact fun y hy => by cases hy; try rfl), ⟨b4, b12⟩⟩
            | none =>
              have hcn := fun W => netFault_any N4 k W b4
              rw [hn] at hcn
              simp only [numO] at hcn
              by_cases k4 : 1 ≤ N16
              · have t4 : decide (1 ≤ N16) = true := decide_eq_true k4
                by_cases k5 : N16 ≤ 16
                · have t5 : decide (N16 ≤ 16) = true := decide_eq_true k5
                  have HX := Lib.hid (HYES.out ⟨k0, k1, k2, hn, k4, k5⟩)
                  clear k0 k1 k2 hn k4 k5
                  go_wp2_with (go_at_call 50; refine (maskRef_any k _ (by omega)).mono ?_)
                  rintro e5 w5 ⟨rfl, rfl⟩
                  go_wp2_with (fail)
                  refine (M8.out _ hFWc).mono ?_
                  rintro e6 w6 ⟨rfl, hF6⟩
                  have a0' := (hF6.cell (p := ⟨p, 0, none⟩) al (fun h => h)).trans a0
                  have a1' := (hF6.cell (p := ⟨p, 1, none⟩) al (fun h => h)).trans a1
                  have al' := Nat.lt_of_lt_of_le al hF6.size
                  clear a0 a1 a2 a3
                  go_wp2_with (fail)
                  refine (hcn w6).mono ?_
                  rintro e7 w7 ⟨rfl, hF7⟩
                  have hFz := (hFc0.trans hF6).trans hF7
                  have hFy := hF6.trans hF7
                  have a4' := (hFy.cell (p := ⟨p, 4, none⟩) al (fun h => h)).trans a4
                  have al7 := Nat.lt_of_lt_of_le al hFy.size
                  clear hF6 hF7 a0' a1' a4
                  have hBr := hB0.fr hFz (fun h => h)
                  have hBq := hBp.fr hFy (fun h => h)
                  obtain ⟨q1, q2⟩ := put5 hBr (.int .u32 N4) (.int .i64 k) (.int .i64 N2) (.int .u32 N12) (.int .i64 N16)
                  have f0 := hBr.frozen 0
                  have f1 := hBr.frozen 1
                  have f2 := hBr.frozen 2
                  have f3 := hBr.frozen 3
                  have f4 := hBr.frozen 4
                  have g0 := hBr.cell 0
                  have g1 := hBr.cell 1
                  have g2 := hBr.cell 2
                  have g3 := hBr.cell 3
                  have g4 := hBr.cell 4
                  have gl := hBr.lt
                  have e0 := hBq.cell 0
                  have e1 := hBq.cell 1
                  have e2 := hBq.cell 2
                  have e3 := hBq.cell 3
                  have e4 := hBq.cell 4
                  have el := hBq.lt
                  have y0 := q1.cell 0
                  have y1 := q1.cell 1
                  have y2 := q1.cell 2
                  have y3 := q1.cell 3
                  have y4 := q1.cell 4
                  simp only [List.getElem?_cons_succ, List.getElem?_cons_zero] at g0 g1 g2 g3 g4 y0 y1 y2 y3 y4 e0 e1 e2 e3 e4
                  have HFF := Lib.hid ((hF0.trans hFz).trans' q2 (fun i hi e => by have h2 : i = w.heap.size := e; omega))
                  clear q1 q2 hBr hBq
                  go_wp2
                  refine bodyPost_ret (v := .tuple #[.agg #[.int .u32 N4, .int .i64 k, .int .i64 N2, .int .u32 N12, .int .i64 N16], .bool true]) (by simp [results, Tryz.results52, go_sem, y0, y1, y2, y3, y4]) rfl ?_
                  exact ⟨⟨N4, k, N2, N12, N16⟩, by rw [HX.out]; rfl, HFF.out, (by rw [HX.out]; exact fun y hy => by cases hy; try rfl), ⟨b4, b12⟩⟩
                · have t5 : decide (N16 ≤ 16) = false := decide_eq_false k5
                  have HX := Lib.hid (HNO.out (fun h => k5 h.2.2.2.2.2))
                  clear k0 k1 k2 hn k4 k5
                  go_wp2_with (go_at_call 50; refine (maskRef_any k _ (by omega)).mono ?_)
                  rintro e5 w5 ⟨rfl, rfl⟩
                  go_wp2_with (fail)
                  refine (M8.out _ hFWc).mono ?_
                  rintro e6 w6 ⟨rfl, hF6⟩
                  have a0' := (hF6.cell (p := ⟨p, 0, none⟩) al (fun h => h)).trans a0
                  have a1' := (hF6.cell (p := ⟨p, 1, none⟩) al (fun h => h)).trans a1
                  have al' := Nat.lt_of_lt_of_le al hF6.size
                  clear a0 a1 a2 a3
                  go_wp2_with (fail)
                  refine (hcn w6).mono ?_
                  rintro e7 w7 ⟨rfl, hF7⟩
                  have hFz := (hFc0.trans hF6).trans hF7
                  have hFy := hF6.trans hF7
                  have a4' := (hFy.cell (p := ⟨p, 4, none⟩) al (fun h => h)).trans a4
                  have al7 := Nat.lt_of_lt_of_le al hFy.size
                  clear hF6 hF7 a0' a1' a4
                  have hBr := hB0.fr hFz (fun h => h)
                  have hBq := hBp.fr hFy (fun h => h)
                  obtain ⟨q1, q2⟩ := put5 hBr (.int .u32 N4) (.int .i64 k) (.int .i64 N2) (.int .u32 N12) (.int .i64 N16)
                  have f0 := hBr.frozen 0
                  have f1 := hBr.frozen 1
                  have f2 := hBr.frozen 2
                  have f3 := hBr.frozen 3
                  have f4 := hBr.frozen 4
                  have g0 := hBr.cell 0
                  have g1 := hBr.cell 1
                  have g2 := hBr.cell 2
                  have g3 := hBr.cell 3
                  have g4 := hBr.cell 4
                  have gl := hBr.lt
                  have e0 := hBq.cell 0
                  have e1 := hBq.cell 1
                  have e2 := hBq.cell 2
                  have e3 := hBq.cell 3
                  have e4 := hBq.cell 4
                  have el := hBq.lt
                  have y0 := q1.cell 0
                  have y1 := q1.cell 1
                  have y2 := q1.cell 2
                  have y3 := q1.cell 3
                  have y4 := q1.cell 4
                  simp only [List.getElem?_cons_succ, List.getElem?_cons_zero] at g0 g1 g2 g3 g4 y0 y1 y2 y3 y4 e0 e1 e2 e3 e4
                  have HFF := Lib.hid ((hF0.trans hFz).trans' q2 (fun i hi e => by have h2 : i = w.heap.size := e; omega))
                  clear q1 q2 hBr hBq
                  go_wp2
                  refine bodyPost_ret (v := .tuple #[.agg #[.int .u32 N4, .int .i64 k, .int .i64 N2, .int .u32 N12, .int .i64 N16], .bool false]) (by simp [results, Tryz.results52, go_sem, y0, y1, y2, y3, y4]) rfl ?_
                  exact ⟨⟨N4, k, N2, N12, N16⟩, by rw [HX.out]; rfl, HFF.out, (by rw [HX.out]; exact fun y hy => by cases hy; try rfl), ⟨b4, b12⟩⟩
              · have t4 : decide (1 ≤ N16) = false := decide_eq_false k4
                have HX := Lib.hid (HNO.out (fun h => k4 h.2.2.2.2.1))
                clear k0 k1 k2 hn k4
                go_wp2_with (go_at_call 50; refine (maskRef_any k _ (by omega)).mono ?_)
                rintro e5 w5 ⟨rfl, rfl⟩
                go_wp2_with (fail)
                refine (M8.out _ hFWc).mono ?_
                rintro e6 w6 ⟨rfl, hF6⟩
                have a0' := (hF6.cell (p := ⟨p, 0, none⟩) al (fun h => h)).trans a0
                have a1' := (hF6.cell (p := ⟨p, 1, none⟩) al (fun h => h)).trans a1
                have al' := Nat.lt_of_lt_of_le al hF6.size
                clear a0 a1 a2 a3
                go_wp2_with (fail)
                refine (hcn w6).mono ?_
                rintro e7 w7 ⟨rfl, hF7⟩
                have hFz := (hFc0.trans hF6).trans hF7
                have hFy := hF6.trans hF7
                have a4' := (hFy.cell (p := ⟨p, 4, none⟩) al (fun h => h)).trans a4
                have al7 := Nat.lt_of_lt_of_le al hFy.size
                clear hF6 hF7 a0' a1' a4
                have hBr := hB0.fr hFz (fun h => h)
                have hBq := hBp.fr hFy (fun h => h)
                obtain ⟨q1, q2⟩ := put5 hBr (.int .u32 N4) (.int .i64 k) (.int .i64 N2) (.int .u32 N12) (.int .i64 N16)
                have f0 := hBr.frozen 0
                have f1 := hBr.frozen 1
                have f2 := hBr.frozen 2
                have f3 := hBr.frozen 3
                have f4 := hBr.frozen 4
                have g0 := hBr.cell 0
                have g1 := hBr.cell 1
                have g2 := hBr.cell 2
                have g3 := hBr.cell 3
                have g4 := hBr.cell 4
                have gl := hBr.lt
                have e0 := hBq.cell 0
                have e1 := hBq.cell 1
                have e2 := hBq.cell 2
                have e3 := hBq.cell 3
                have e4 := hBq.cell 4
                have el := hBq.lt
                have y0 := q1.cell 0
                have y1 := q1.cell 1
                have y2 := q1.cell 2
                have y3 := q1.cell 3
                have y4 := q1.cell 4
                simp only [List.getElem?_cons_succ, List.getElem?_cons_zero] at g0 g1 g2 g3 g4 y0 y1 y2 y3 y4 e0 e1 e2 e3 e4
                have HFF := Lib.hid ((hF0.trans hFz).trans' q2 (fun i hi e => by have h2 : i = w.heap.size := e; omega))
                clear q1 q2 hBr hBq
                go_wp2
                refine bodyPost_ret (v := .tuple #[.agg #[.int .u32 N4, .int .i64 k, .int .i64 N2, .int .u32 N12, .int .i64 N16], .bool false]) (by simp [results, Tryz.results52, go_sem, y0, y1, y2, y3, y4]) rfl ?_
                exact ⟨⟨N4, k, N2, N12, N16⟩, by rw [HX.out]; rfl, HFF.out, (by rw [HX.out]; exact fun y hy => by cases hy; try rfl), ⟨b4, b12⟩⟩
          · have t2 : (maskV k == N8) = false := by simp [k2]
            have HX := Lib.hid (HNO.out (fun h => k2 h.2.2.1))
            clear k0 k1 k2
            go_wp2_with (go_at_call 50; refine (maskRef_any k _ (by omega)).mono ?_)
            rintro e5 w5 ⟨rfl, rfl⟩
            go_wp2_with (fail)
            refine (M8.out _ hFWc).mono ?_
            rintro e6 w6 ⟨rfl, hF6⟩
            have hFz := hFc0.trans hF6
            have hFy := hF6
            clear hF6 a0 a1 a2 a3 a4
            have hBr := hB0.fr hFz (fun h => h)
            have hBq := hBp.fr hFy (fun h => h)
            obtain ⟨q1, q2⟩ := put5 hBr (.int .u32 N4) (.int .i64 k) (.int .i64 N2) (.int .u32 N12) (.int .i64 N16)
            have f0 := hBr.frozen 0
            have f1 := hBr.frozen 1
            have f2 := hBr.frozen 2
            have f3 := hBr.frozen 3
            have f4 := hBr.frozen 4
            have g0 := hBr.cell 0
            have g1 := hBr.cell 1
            have g2 := hBr.cell 2
            have g3 := hBr.cell 3
            have g4 := hBr.cell 4
            have gl := hBr.lt
            have e0 := hBq.cell 0
            have e1 := hBq.cell 1
            have e2 := hBq.cell 2
            have e3 := hBq.cell 3
            have e4 := hBq.cell 4
            have el := hBq.lt
            have y0 := q1.cell 0
            have y1 := q1.cell 1
            have y2 := q1.cell 2
            have y3 := q1.cell 3
            have y4 := q1.cell 4
            simp only [List.getElem?_cons_succ, List.getElem?_cons_zero] at g0 g1 g2 g3 g4 y0 y1 y2 y3 y4 e0 e1 e2 e3 e4
            have HFF := Lib.hid ((hF0.trans hFz).trans' q2 (fun i hi e => by have h2 : i = w.heap.size := e; omega))
            clear q1 q2 hBr hBq
            go_wp2
            refine bodyPost_ret (v := .tuple #[.agg #[.int .u32 N4, .int .i64 k, .int .i64 N2, .int .u32 N12, .int .i64 N16], .bool false]) (by simp [results, Tryz.results52, go_sem, y0, y1, y2, y3, y4]) rfl ?_
            exact ⟨⟨N4, k, N2, N12, N16⟩, by rw [HX.out]; rfl, HFF.out, (by rw [HX.out]; exact fun y hy => by cases hy; try rfl), ⟨b4, b12⟩⟩
        · have t1 : (x1 == 2) = false := by simp [k1]
          have HX := Lib.hid (HNO.out (fun h => k1 h.2.1))
          have hFz := hFc0
          have hFy := Fr.refl (fun _ => False) wc
          clear k0 k1 a0 a1 a2 a3 a4
          have hBr := hB0.fr hFz (fun h => h)
          have hBq := hBp.fr hFy (fun h => h)
          obtain ⟨q1, q2⟩ := put5 hBr (.int .u32 N4) (.int .i64 k) (.int .i64 N2) (.int .u32 N12) (.int .i64 N16)
          have f0 := hBr.frozen 0
          have f1 := hBr.frozen 1
          have f2 := hBr.frozen 2
          have f3 := hBr.frozen 3
          have f4 := hBr.frozen 4
          have g0 := hBr.cell 0
          have g1 := hBr.cell 1
          have g2 := hBr.cell 2
          have g3 := hBr.cell 3
          have g4 := hBr.cell 4
          have gl := hBr.lt
          have e0 := hBq.cell 0
          have e1 := hBq.cell 1
          have e2 := hBq.cell 2
          have e3 := hBq.cell 3
          have e4 := hBq.cell 4
          have el := hBq.lt
          have y0 := q1.cell 0
          have y1 := q1.cell 1
          have y2 := q1.cell 2
          have y3 := q1.cell 3
          have y4 := q1.cell 4
          simp only [List.getElem?_cons_succ, List.getElem?_cons_zero] at g0 g1 g2 g3 g4 y0 y1 y2 y3 y4 e0 e1 e2 e3 e4
          have HFF := Lib.hid ((hF0.trans hFz).trans' q2 (fun i hi e => by have h2 : i = w.heap.size := e; omega))
          clear q1 q2 hBr hBq
          go_wp2
          refine bodyPost_ret (v := .tuple #[.agg #[.int .u32 N4, .int .i64 k, .int .i64 N2, .int .u32 N12, .int .i64 N16], .bool false]) (by simp [results, Tryz.results52, go_sem, y0, y1, y2, y3, y4]) rfl ?_
          exact ⟨⟨N4, k, N2, N12, N16⟩, by rw [HX.out]; rfl, HFF.out, (by rw [HX.out]; exact fun y hy => by cases hy; try rfl), ⟨b4, b12⟩⟩
      · have t0 : (x0 == 0) = false := by simp [k0]
        have HX := Lib.hid (HNO.out (fun h => k0 h.1))
        have hFz := hFc0
        have hFy := Fr.refl (fun _ => False) wc
        clear k0 a0 a1 a2 a3 a4
        have hBr := hB0.fr hFz (fun h => h)
        have hBq := hBp.fr hFy (fun h => h)
        obtain ⟨q1, q2⟩ := put5 hBr (.int .u32 N4) (.int .i64 k) (.int .i64 N2) (.int .u32 N12) (.int .i64 N16)
        have f0 := hBr.frozen 0
        have f1 := hBr.frozen 1
        have f2 := hBr.frozen 2
        have f3 := hBr.frozen 3
        have f4 := hBr.frozen 4
        have g0 := hBr.cell 0
        have g1 := hBr.cell 1
        have g2 := hBr.cell 2
        have g3 := hBr.cell 3
        have g4 := hBr.cell 4
        have gl := hBr.lt
        have e0 := hBq.cell 0
        have e1 := hBq.cell 1
        have e2 := hBq.cell 2
        have e3 := hBq.cell 3
        have e4 := hBq.cell 4
        have el := hBq.lt
        have y0 := q1.cell 0
        have y1 := q1.cell 1
        have y2 := q1.cell 2
        have y3 := q1.cell 3
        have y4 := q1.cell 4
        simp only [List.getElem?_cons_succ, List.getElem?_cons_zero] at g0 g1 g2 g3 g4 y0 y1 y2 y3 y4 e0 e1 e2 e3 e4
        have HFF := Lib.hid ((hF0.trans hFz).trans' q2 (fun i hi e => by have h2 : i = w.heap.size := e; omega))
        clear q1 q2 hBr hBq
        go_wp2
        refine bodyPost_ret (v := .tuple #[.agg #[.int .u32 N4, .int .i64 k, .int .i64 N2, .int .u32 N12, .int .i64 N16], .bool false]) (by simp [results, Tryz.results52, go_sem, y0, y1, y2, y3, y4]) rfl ?_
        exact ⟨⟨N4, k, N2, N12, N16⟩, by rw [HX.out]; rfl, HFF.out, (by rw [HX.out]; exact fun y hy => by cases hy; try rfl), ⟨b4, b12⟩⟩
end Go.Proofs.YtfglidaicjjpfaaGreatDoor
end

section
namespace Go.Proofs.YtfglidaicjjpfaaGreatDoor
open Go.RowKit

theorem ivals_set (k : IntKind) (l : List Int) (i : Nat) (x : Int) : (ivals k l).set i (.int k x) = ivals k (l.set i x) := by simp [ivals, List.map_set]
theorem hopG_step' (p : List Int) {j : Nat} (h12 : 12 ≤ j) (h16 : j < 16) (hp : j < p.length) : hopG p (j + 1) = (hopG p j).set (j - 12) (nth p j) := by
  obtain ⟨q, rfl⟩ : ∃ q, j = 12 + q := ⟨j - 12, by omega⟩
  rw [show 12 + q - 12 = q by omega]
  exact hopG_step p (by omega) hp
/-- So far alike? -/
def AgG (X p : List Int) (i : Nat) (z : Bool) : Prop := z = true ↔ ∀ i', i' < i → nth X i' = nth p i'
set_option maxRecDepth 100000 in
set_option maxHeartbeats 8000000 in
theorem goes_any (p : List Int) (a : Option Addr) (c : Nat) (w : World) (hL : Rd w.heap a p.length 1 (ivals .u8 p)) (hb : ∀ x ∈ p, 0 ≤ x ∧ x < 256) (h1 : 1 ≤ p.length) (h20 : p.length < 20) :
    Calls Tryz.prog 51 #[.slice a p.length c] w (RetV w (.bool (goesB p))) := by
  obtain ⟨g, o, rfl, hg, hc⟩ := u8s_pos hL (by omega)
  have HC := Lib.hid (show ∀ (W : World), Fr (fun _ => False) w W → ∀ k, k < p.length → W.cell? ⟨g, o + k, none⟩ = some (.int .u8 (nth p k)) from fun W f k hk => (f.cell (p := ⟨g, o + k, none⟩) hg (fun h => h)).trans (hc w rfl k hk))
  have HB := Lib.hid hb
  have hyes := Lib.hid (fun h : GoesP p => goesB_yes h1 h20 hb h)
  have hno := Lib.hid (fun h : ¬ GoesP p => goesB_no h1 h20 hb h)
  obtain ⟨R, hR⟩ : ∃ R, R = goesB p := ⟨_, rfl⟩
  rw [← hR] at hyes hno ⊢
  clear hL hb hc hR
  go_enter Tryz.func51, Tryz.ntmps51
  go_wp2
  go_loopw [3] (fun s3 wr => ∃ k : Nat, k ≤ 33 ∧ s3 = .int .i64 k ∧ Fr (fun _ => False) w wr ∧ Hid (NoneG p k 1)) (fun s _ => 33 - (intOf s).toNat)
  case atStart => exact ⟨0, by omega, rfl, Fr.refl _ _, Lib.hid (noneG_0 p)⟩
  case round =>
    obtain ⟨k, hk, rfl, hF, hG⟩ := hrel
    by_cases hk33 : k < 33
    · have hkd : decide ((k : Int) ≤ 32) = true := decide_eq_true (by omega)
      go_wp2
      go_loopw [4] (fun s4 wr => ∃ m : Nat, 1 ≤ m ∧ m ≤ 17 ∧ s4 = .int .i64 m ∧ Fr (fun _ => False) w wr ∧ Hid (NoneG p k m)) (fun s _ => 17 - (intOf s).toNat)
      case atStart => exact ⟨1, by omega, by omega, rfl, hF, hG⟩
      case round =>
        clear hF hG
        obtain ⟨m, hm1, hm, rfl, hF, hG⟩ := hrel
        by_cases hm17 : m < 17
        · have hmd : decide ((m : Int) ≤ 16) = true := decide_eq_true (by omega)
          generalize wr = wi at *
          have hB1 := Blk.made wi 5 (ivals .u8 [0, 2, 0, 0, 0, 0, 0, 0])
          rw [← g8_start p] at hB1
          have hF1 := hF.alloc (.cells #[.int .u8 0, .int .u8 2, .int .u8 0, .int .u8 0, .int .u8 0, .int .u8 0, .int .u8 0, .int .u8 0] 5)
          have HE1 := Lib.hid (show (ivals .u8 (g8 p 2)).toArray = #[.int .u8 0, .int .u8 2, .int .u8 0, .int .u8 0, .int .u8 0, .int .u8 0, .int .u8 0, .int .u8 0] by rw [g8_start]; rfl)
          rw [HE1.out] at hB1
          have hws := hF.size
          go_upto_block 4 with (fail)
          go_cut [6] from 17 to 97 (fun s6 wx => ∃ j : Nat, 2 ≤ j ∧ (8 ≤ j ∨ p.length ≤ j) ∧ s6 = .int .i64 j ∧ Blk wx.heap wi.heap.size 5 (ivals .u8 (g8 p j)) ∧ Fr (fun _ => False) w wx)
          case first =>
            go_wp2
            go_loopw [6] (fun s6 wx => ∃ j : Nat, 2 ≤ j ∧ j ≤ 8 ∧ s6 = .int .i64 j ∧ Blk wx.heap wi.heap.size 5 (ivals .u8 (g8 p j)) ∧ Fr (fun _ => False) w wx) (fun s _ => 8 - (intOf s).toNat)
            case atStart => exact ⟨2, by omega, by omega, rfl, hB1, hF1⟩
            case round =>
              clear hB1 hF1
              obtain ⟨j, hj2, hj8, rfl, hBj, hFj⟩ := hrel
              by_cases hgo : j < 8 ∧ j < p.length
              · obtain ⟨hg8, hgp⟩ := hgo
                have t1 : decide ((j : Int) < 8) = true := decide_eq_true (by omega)
                have t2 : decide (j < p.length) = true := decide_eq_true hgp
                have hgr := Nat.lt_of_lt_of_le hg hFj.size
                have e0 := HC.out wr hFj j hgp
                have e1 := hBj.cell j
                rw [ivals_get .u8 _ j (by rw [g8_len]; exact hg8)] at e1
                have f1 := hBj.frozen j
                have fl := hBj.lt
                have hB' := hBj.set j (.int .u8 (nth p j))
                rw [ivals_set, ← g8_step p hj2 hg8 hgp] at hB'
                have HB' := Lib.hid hB'
                have hF' := hFj.setCell (p := ⟨wi.heap.size, j, none⟩) (fun h => by have h2 : wi.heap.size < w.heap.size := h; omega) (.int .u8 (nth p j))
                generalize nth p j = x at *
                clear hB' hBj
                go_wp2
                go_roundw
                case rel => exact ⟨j + 1, by omega, by omega, by go_num, HB'.out, hF'⟩
                case measure => simp [intOf]; omega
              · have hor : 8 ≤ j ∨ p.length ≤ j := by omega
                have q : decide ((j : Int) < 8) = false ∨ (decide ((j : Int) < 8) = true ∧ decide (j < p.length) = false) := by
                  by_cases h : j < 8
                  · exact .inr ⟨decide_eq_true (by omega), decide_eq_false (by omega)⟩
                  · exact .inl (decide_eq_false (by omega))
                have HO := Lib.hid hor
                clear hgo hor
                rcases q with q | ⟨q1, q2⟩
                all_goals
                  go_wp2
                  go_meet
                  case rel => exact ⟨j, hj2, HO.out, rfl, hBj, hFj⟩
          case rest =>
            obtain ⟨j, hj2, hj, rfl, hBj, hFj⟩ := hcut
            have HJ := Lib.hid hj
            have hO1 := hBj.own (sz := 1) (n := 8) (cap := 8) (Nat.le_refl _) (by decide) (by simp [ivals, g8_len])
            rw [List.take_of_length_le (by simp [ivals, g8_len])] at hO1
            have hgj := hBj.lt
            obtain ⟨ob1, hob1⟩ : ∃ ob1, ob1 = some wi.heap.size := ⟨_, rfl⟩
            rw [← hob1] at hO1
            have hOb : ∀ g', ob1 = some g' → w.heap.size ≤ g' := fun g' hg' => by rw [hob1] at hg'; rw [← Option.some.inj hg']; exact hws
            clear hob1
            clear hj hBj hB1 hF1
            go_wp2_with (go_at_call 50; refine (maskRef_any k _ (by omega)).mono ?_)
            rintro e2 w2 ⟨rfl, rfl⟩
            go_wp2_with (go_at_call 60; refine (four_any (maskV k) _ (maskV_bd k)).mono ?_)
            rintro e3 w3 ⟨rfl, rfl⟩
            have hrd := rd_u8s w2 (beB (maskV k) 4) 4 (beB_len _ _) (by decide) (by decide)
            have hOa := hO1.alloc (.cells (ivals .u8 (beB (maskV k) 4)).toArray 5)
            have hFa := hFj.alloc (.cells (ivals .u8 (beB (maskV k) 4)).toArray 5)
            go_wp2_with (go_loud (at_builtin; refine wpList_app rfl _ _ 27 rfl Tryz.underlying27 infoU8 rfl (by decide) rfl rfl hOa hrd (ivals_one .u8 _) (by omega) (by omega) ?_))
            intro a4 c4 w4 ob4 v1 v2 v3
            have hF4 := Fr.app hFa v2 (fun g' hg' => hOb g' hg')
            have hO4 : Ownd w4.heap 5 1 a4 12 c4 (ivals .u8 (g8 p j ++ beB (maskV k) 4)) ob4 := by simpa [ivals] using v1
            have hN4 : ∀ g', ob4 = some g' → w.heap.size ≤ g' := app_new hOb v3 (by have := hFj.size; first | omega | (simp only [World.size_alloc]; omega))
            clear v1 v2 v3 hOa hrd hFa hO1 hFj
            have hB2 := Blk.made w4 5 (ivals .u8 [0, 0, 0, 0])
            rw [← hopG_start p] at hB2
            have HE2 := Lib.hid (show (ivals .u8 (hopG p 12)).toArray = #[.int .u8 0, .int .u8 0, .int .u8 0, .int .u8 0] by rw [hopG_start]; rfl)
            rw [HE2.out] at hB2
            have hFb := hF4.alloc (.cells #[.int .u8 0, .int .u8 0, .int .u8 0, .int .u8 0] 5)
            have hOb4 := hO4.alloc (.cells #[.int .u8 0, .int .u8 0, .int .u8 0, .int .u8 0] 5)
            have hne4 : ∀ g', ob4 = some g' → g' ≠ w4.heap.size := fun g' hg' => by have := hO4.lt g' hg'; omega
            have hw4 := hF4.size
            clear hO4
            go_upto_block 6 with (fail)
            go_cut [8] from 17 to 97 (fun s8 wx => ∃ j' : Nat, 12 ≤ j' ∧ (16 ≤ j' ∨ p.length ≤ j') ∧ s8 = .int .i64 j' ∧ Blk wx.heap w4.heap.size 5 (ivals .u8 (hopG p j')) ∧ Ownd wx.heap 5 1 a4 12 c4 (ivals .u8 (g8 p j ++ beB (maskV k) 4)) ob4 ∧ Fr (fun _ => False) w wx)
            case first =>
              go_wp2
              go_loopw [8] (fun s8 wx => ∃ j' : Nat, 12 ≤ j' ∧ j' ≤ 16 ∧ s8 = .int .i64 j' ∧ Blk wx.heap w4.heap.size 5 (ivals .u8 (hopG p j')) ∧ Ownd wx.heap 5 1 a4 12 c4 (ivals .u8 (g8 p j ++ beB (maskV k) 4)) ob4 ∧ Fr (fun _ => False) w wx) (fun s _ => 16 - (intOf s).toNat)
              case atStart => exact ⟨12, by omega, by omega, rfl, hB2, hOb4, hFb⟩
              case round =>
                clear hB2 hOb4 hFb
                obtain ⟨j', hj2, hj8, rfl, hBj, hOj, hFj⟩ := hrel
                by_cases hgo : j' < 16 ∧ j' < p.length
                · obtain ⟨hg8, hgp⟩ := hgo
                  have t1 : decide ((j' : Int) < 16) = true := decide_eq_true (by omega)
                  have t2 : decide (j' < p.length) = true := decide_eq_true hgp
                  have hgr := Nat.lt_of_lt_of_le hg hFj.size
                  have e0 := HC.out wr hFj j' hgp
                  have e1 := hBj.cell (j' - 12)
                  rw [ivals_get .u8 _ _ (by rw [hopG_len]; omega)] at e1
                  have f1 := hBj.frozen (j' - 12)
                  have fl := hBj.lt
                  have ei : ((j' : Int) - 12) = ((j' - 12 : Nat) : Int) := by omega
                  have hB' := hBj.set (j' - 12) (.int .u8 (nth p j'))
                  rw [ivals_set, ← hopG_step' p hj2 hg8 hgp] at hB'
                  have HB' := Lib.hid hB'
                  have HO' := Lib.hid (hOj.other (p := ⟨w4.heap.size, j' - 12, none⟩) (fun h => by have h2 : ob4 = some w4.heap.size := h; exact hne4 _ h2 rfl) (.int .u8 (nth p j')))
                  have hF' := hFj.setCell (p := ⟨w4.heap.size, j' - 12, none⟩) (fun h => by have h2 : w4.heap.size < w.heap.size := h; omega) (.int .u8 (nth p j'))
                  generalize nth p j' = x at *
                  clear hB' hBj hOj
                  go_wp2
                  go_roundw
                  case rel => exact ⟨j' + 1, by omega, by omega, by go_num, HB'.out, HO'.out, hF'⟩
                  case measure => simp [intOf]; omega
                · have hor : 16 ≤ j' ∨ p.length ≤ j' := by omega
                  have q : decide ((j' : Int) < 16) = false ∨ (decide ((j' : Int) < 16) = true ∧ decide (j' < p.length) = false) := by
                    by_cases h : j' < 16
                    · exact .inr ⟨decide_eq_true (by omega), decide_eq_false (by omega)⟩
                    · exact .inl (decide_eq_false (by omega))
                  have HO := Lib.hid hor
                  clear hgo hor
                  rcases q with q | ⟨q1, q2⟩
                  all_goals
                    go_wp2
                    go_meet
                    case rel => exact ⟨j', hj2, HO.out, rfl, hBj, hOj, hFj⟩
            case rest =>
              obtain ⟨j', hj'2, hj', rfl, hBj, hOj, hFj⟩ := hcut
              have HJ' := Lib.hid hj'
              have hrd := hBj.rd (sz := 1) (n := 4) (off := 0) (by simp [ivals, hopG_len])
              rw [List.drop_zero, List.take_of_length_le (by simp [ivals, hopG_len])] at hrd
              clear hj' hBj hB2 hOb4 hFb
              go_wp2_with (go_loud (at_builtin; refine wpList_app rfl _ _ 27 rfl Tryz.underlying27 infoU8 rfl (by decide) rfl rfl hOj hrd (ivals_one .u8 _) (by omega) (by omega) ?_))
              intro a5 c5 w5 ob5 v1 v2 v3
              have hF5 := Fr.app hFj v2 hN4
              have hO5 : Ownd w5.heap 5 1 a5 16 c5 (ivals .u8 (g8 p j ++ beB (maskV k) 4 ++ hopG p j')) ob5 := by simpa [ivals] using v1
              have hN5 : ∀ g', ob5 = some g' → w.heap.size ≤ g' := app_new hN4 v3 (by have := hFj.size; omega)
              clear v1 v2 v3 hrd hOj hFj
              go_wp2_with (go_at_call 60; refine (four_any (m : Int) _ ⟨by omega, by omega⟩).mono ?_)
              rintro e6 w6 ⟨rfl, rfl⟩
              have hrd6 := rd_u8s w5 (beB m 4) 4 (beB_len _ _) (by decide) (by decide)
              have hOa6 := hO5.alloc (.cells (ivals .u8 (beB m 4)).toArray 5)
              have hFa6 := hF5.alloc (.cells (ivals .u8 (beB m 4)).toArray 5)
              go_wp2_with (go_loud (at_builtin; refine wpList_app rfl _ _ 27 rfl Tryz.underlying27 infoU8 rfl (by decide) rfl rfl hOa6 hrd6 (ivals_one .u8 _) (by omega) (by omega) ?_))
              intro a7 c7 w7 ob7 v1 v2 v3
              have hF7 := Fr.app hFa6 v2 hN5
              obtain ⟨X, hX⟩ : ∃ X, X = wholeG p k m := ⟨_, rfl⟩
              have hXl : X.length = 20 := by rw [hX, wholeG_len]
              have hO7 : Ownd w7.heap 5 1 a7 20 c7 (ivals .u8 X) ob7 := by
                rw [hX, wholeG_eq p k m HJ.out HJ'.out]
                simpa [ivals] using v1
              have HXb := Lib.hid (show ∀ x ∈ X, 0 ≤ x ∧ x < 256 by rw [hX]; exact wholeG_bd HB.out k m)
              have HX := Lib.hid hX
              clear v1 v2 v3 hrd6 hOa6 hFa6 hO5 hF5 hX
              have hrdX : Rd w7.heap a7 X.length 1 (ivals .u8 X) := by rw [hXl]; exact hO7.rd
              obtain ⟨gx, ox, hax, hgx, hcx⟩ := u8s_pos hrdX (by omega)
              subst hax
              have HCX := Lib.hid (show ∀ (W : World), Fr (fun _ => False) w7 W → ∀ i, i < 20 → W.cell? ⟨gx, ox + i, none⟩ = some (.int .u8 (nth X i)) from fun W f i hi => (f.cell (p := ⟨gx, ox + i, none⟩) hgx (fun h => h)).trans (hcx w7 rfl i (by omega)))
              have HRX := Lib.hid hO7.rd
              clear hcx hrdX hO7
              go_wp2
              go_loopw [10, 9] (fun s10 s9 wx => ∃ (i n : Nat) (z : Bool), i ≤ p.length ∧ s10 = .int .i64 i ∧ s9 = .bool z ∧ wx = w7.drewN n ∧ AgG X p i z) (fun s _ _ => p.length - (intOf s).toNat)
              case atStart => exact ⟨0, 0, true, by omega, rfl, rfl, rfl, ⟨fun _ i' h => absurd h (Nat.not_lt_zero _), fun _ => rfl⟩⟩
              case round =>
                obtain ⟨i, n, z, hi, rfl, rfl, rfl, hZ⟩ := hrel
                by_cases hip : i < p.length
                · have d0 := HC.out w7 hF7 i hip
                  have d1 := HCX.out w7 (Fr.refl _ _) i (by omega)
                  have hgl := Nat.lt_of_lt_of_le hg hF7.size
                  obtain ⟨y, hy⟩ : ∃ y, y = nth p i := ⟨_, rfl⟩
                  obtain ⟨x, hx⟩ : ∃ x, x = nth X i := ⟨_, rfl⟩
                  rw [← hy] at d0
                  rw [← hx] at d1
                  have hst : Hid (∀ z' : Bool, z' = (z && (x == y)) → AgG X p (i + 1) z') := Lib.hid (fun z' hz' => by
                    subst hz'
                    have hZo : z = true ↔ ∀ i', i' < i → nth X i' = nth p i' := hZ
                    unfold AgG
                    rw [Bool.and_eq_true, beq_iff_eq, hZo, hx, hy]
                    constructor
                    · rintro ⟨h, h'⟩ i' hi'
                      rcases Nat.lt_succ_iff_lt_or_eq.1 hi' with q | q
                      · exact h i' q
                      · rw [q]; exact h'
                    · exact fun h => ⟨fun i' hi' => h i' (by omega), h i (by omega)⟩)
                  clear hy hx
                  cases z with
                  | false =>
                    have hs2 := hst.out false rfl
                    clear hst
                    go_wp2
                    go_quiet (fail)
                    go_wp2
                    go_roundw
                    case rel => exact ⟨i + 1, n + nq, false, by omega, by go_num, rfl, by simp, hs2⟩
                    case measure => simp [intOf]; omega
                  | true =>
                    by_cases hxy : x = y
                    · have t : (x == y) = true := by simp [hxy]
                      have hs2 := hst.out true (by rw [t]; rfl)
                      clear hst hxy
                      go_wp2
                      go_quiet (fail)
                      go_wp2
                      go_roundw
                      case rel => exact ⟨i + 1, n + nq, true, by omega, by go_num, rfl, by simp, hs2⟩
                      case measure => simp [intOf]; omega
                    · have t : (x == y) = false := by simp [hxy]
                      have hs2 := hst.out false (by rw [t]; rfl)
                      clear hst hxy
                      go_wp2
                      go_quiet (fail)
                      go_wp2
                      go_roundw
                      case rel => exact ⟨i + 1, n + nq, false, by omega, by go_num, rfl, by simp, hs2⟩
                      case measure => simp [intOf]; omega
                · obtain rfl : i = p.length := by omega
                  have hF8 := hF7.drewN n
                  have hcall := entryOf_any X (some ⟨gx, ox, none⟩) c7 (w7.drewN n) (HRX.out.fr ((Fr.refl (fun _ => False) w7).drewN n) (fun _ _ _ h => h)) HXb.out
                  have hOne : Hid (∀ b : Bool, b = (entD X).isSome → (z = true ∧ b = true ↔ OneG p k m)) := Lib.hid (fun b hb => by
                    have hZo : z = true ↔ ∀ i', i' < p.length → nth X i' = nth p i' := hZ
                    rw [hZo, hb, entD_iff hXl HXb.out, HX.out]
                    exact Iff.rfl)
                  clear hZ
                  go_wp2_with (fail)
                  refine hcall.mono ?_
                  rintro e9 w9 ⟨en, rfl, hF9, -, -⟩
                  have hF89 := (hF8.trans hF9).alloc (.cells #[.int .u32 en.a, .int .i64 en.n, .int .i64 en.t, .int .u32 en.p, .int .i64 en.m] 87)
                  obtain ⟨b, hb⟩ : ∃ b, b = (entD X).isSome := ⟨_, rfl⟩
                  rw [← hb]
                  have HO := Lib.hid (hOne.out b hb)
                  obtain ⟨ea, en', et, ep, em⟩ := en
                  clear hcall hOne hb hF9
                  have stay : ∀ (hn : ¬ (z = true ∧ b = true)), Hid (NoneG p k (m + 1)) := fun hn => Lib.hid (noneG_m hG.out (fun h => hn (HO.out.2 h)))
                  cases z with
                  | false =>
                    have HS := stay (by simp)
                    clear stay
                    go_wp2
                    go_roundw
                    case rel => exact ⟨m + 1, by omega, by omega, by go_num, hF89, HS⟩
                    case measure => simp [intOf]; omega
                  | true =>
                    cases b with
                    | false =>
                      have HS := stay (by simp)
                      clear stay
                      go_wp2
                      go_roundw
                      case rel => exact ⟨m + 1, by omega, by omega, by go_num, hF89, HS⟩
                      case measure => simp [intOf]; omega
                    | true =>
                      have HR := Lib.hid (hyes.out (goes_yes (by omega) hm1 (by omega) (HO.out.1 ⟨rfl, rfl⟩)))
                      clear stay
                      go_wp2
                      go_ret
                      exact RetV.mk (x := .bool true) (by rw [HR.out]) rfl hF89
        · obtain rfl : m = 17 := by omega
          have HS := Lib.hid (noneG_k hG.out)
          go_wp2
          go_roundw
          case rel => exact ⟨k + 1, by omega, by go_num, hF, HS⟩
          case measure => simp [intOf]; omega
    · obtain rfl : k = 33 := by omega
      have HR := Lib.hid (hno.out (goes_no hG.out))
      go_wp2
      go_ret
      exact RetV.mk (x := .bool false) (by rw [HR.out]) rfl hF
end Go.Proofs.YtfglidaicjjpfaaGreatDoor
end

section
namespace Go.Proofs.YtfglidaicjjpfaaGreatDoor
open Go.RowKit

theorem goes_M {M : Nat} (p : List Int) (a : Option Addr) (c : Nat) (w : World) (hL : Rd w.heap a M 1 (ivals .u8 p)) (hb : ∀ x ∈ p, 0 ≤ x ∧ x < 256) (h1 : 1 ≤ p.length) (h20 : p.length < 20) (hM : M = p.length) :
    Calls Tryz.prog 51 #[.slice a M c] w (RetV w (.bool (goesB p))) := by
  subst hM; exact goes_any p a c w hL hb h1 h20
theorem entryOf_M {M : Nat} (l : List Int) (a : Option Addr) (c : Nat) (w : World) (hL : Rd w.heap a 20 1 (ivals .u8 l)) (hb : ∀ x ∈ l, 0 ≤ x ∧ x < 256) (hM : M = 20) :
    Calls Tryz.prog 52 #[.slice a M c] w (RetEnt w (entD l)) := by
  subst hM; exact entryOf_any l a c w hL hb
/-- The message of bytes, as the document tells it. -/
def RetMsg (w : World) (r : Except Int (Bool × List En)) (e : Ending) (w' : World) : Prop := match r with
  | .error k => e = .returned (.tuple #[.agg #[.bool false, .slice none 0 0], .int .i64 k]) ∧ Fr (fun _ => False) w w'
  | .ok p => ∃ a c ob, e = .returned (.tuple #[.agg #[.bool p.1, .slice a p.2.length c], .int .i64 0]) ∧ Ownd w'.heap 87 5 a p.2.length c (p.2.flatMap En.cells) ob ∧ Fr (fun _ => False) w w' ∧ (∀ g, ob = some g → w.heap.size ≤ g) ∧ p.2.length ≤ 25
theorem RetMsg.err {w w' : World} {r : Except Int (Bool × List En)} {k : Int} {e : Ending} (hr : r = .error k) (he : e = .returned (.tuple #[.agg #[.bool false, .slice none 0 0], .int .i64 k])) (hF : Fr (fun _ => False) w w') : RetMsg w r e w' := by subst hr; exact ⟨he, hF⟩
theorem RetMsg.ok {w w' : World} {r : Except Int (Bool × List En)} {ask : Bool} {es : List En} {n : Nat} {a : Option Addr} {c : Nat} {ob : Option Nat} {e : Ending} (hr : r = .ok (ask, es)) (hn : n = es.length) (he : e = .returned (.tuple #[.agg #[.bool ask, .slice a n c], .int .i64 0])) (hO : Ownd w'.heap 87 5 a n c (es.flatMap En.cells) ob) (hF : Fr (fun _ => False) w w') (hN : ∀ g, ob = some g → w.heap.size ≤ g) (h25 : n ≤ 25) : RetMsg w r e w' := by
  subst hr; subst hn; exact ⟨a, c, ob, he, hO, hF, hN, h25⟩
theorem put2 {w : World} {g : Nat} {E : TypeId} {c0 c1 : Value} (h : Blk w.heap g E [c0, c1]) (u0 u1 : Value) :
    Blk ((w.setCell ⟨g, 0, none⟩ u0).setCell ⟨g, 1, none⟩ u1).heap g E [u0, u1] ∧ Fr (fun k => k = g) w ((w.setCell ⟨g, 0, none⟩ u0).setCell ⟨g, 1, none⟩ u1) :=
  ⟨(h.set 0 u0).set 1 u1, ((Fr.refl (fun k => k = g) w).setCell (p := ⟨g, 0, none⟩) (fun _ => rfl) u0).setCell (p := ⟨g, 1, none⟩) (fun _ => rfl) u1⟩
/-- So far the head is right. -/
def HeadS (b : List Int) (i : Nat) : Prop := ∀ i', i' < i → ¬ headB b i'
theorem headS_step {b : List Int} {i : Nat} (h : HeadS b i) (hn : ¬ headB b i) : HeadS b (i + 1) := fun i' hi' => by
  rcases Nat.lt_succ_iff_lt_or_eq.1 hi' with q | q
  · exact h i' q
  · rw [q]; exact hn
theorem headS_end {b : List Int} {i : Nat} (h : HeadS b i) (he : 4 ≤ i ∨ b.length ≤ i) : ¬ headG b := fun ⟨i', h1, h2, h3⟩ => h i' (by omega) h3
theorem headS_bad {b : List Int} {i : Nat} (h4 : i < 4) (hl : i < b.length) (hn : headB b i) : headG b := ⟨i, h4, hl, hn⟩
theorem msgG_step {n j : Nat} {rest : List Int} {acc : List En} (hr : rest ≠ []) (hj : j < n) : msgG (n - j) rest acc = if acc.length = 25 then .error 3 else if rest.length < 20 then (if goesB rest = true then .error 6 else .error 3) else match entD (rest.take 20) with
    | none => .error 3
    | some e => msgG (n - (j + 1)) (rest.drop 20) (acc ++ [e]) := by
  rw [show n - j = (n - (j + 1)) + 1 by omega]
  conv => lhs; unfold msgG
  rw [if_neg hr]
  rfl
/-- What is told, by what is left. -/
def MsgL (b : List Int) (R : Except Int (Bool × List En)) (q j : Nat) (acc : List En) : Prop := q = 4 + 20 * j ∧ acc.length = j ∧ j ≤ 25 ∧ R = match msgG (b.length - j) (b.drop q) acc with
  | .error k => .error k
  | .ok l => .ok (decide (nth b 0 = 1), l)
theorem MsgL.fin {b : List Int} {R : Except Int (Bool × List En)} {q j : Nat} {acc : List En} (h : MsgL b R q j acc) (hq : b.length ≤ q) : R = .ok (decide (nth b 0 = 1), acc) := by
  have := h.2.2.2
  rw [List.drop_of_length_le hq, msgG_end] at this
  exact this
theorem MsgL.go {b : List Int} {R : Except Int (Bool × List En)} {q j : Nat} {acc : List En} (h : MsgL b R q j acc) (hq : q < b.length) : R = match (if acc.length = 25 then .error 3 else if (b.drop q).length < 20 then (if goesB (b.drop q) = true then .error 6 else .error 3) else match entD ((b.drop q).take 20) with
    | none => .error 3
    | some e => msgG (b.length - (j + 1)) ((b.drop q).drop 20) (acc ++ [e]) : Except Int (List En)) with
  | .error k => .error k
  | .ok l => .ok (decide (nth b 0 = 1), l) := by
  have h1 := h.2.2.2
  have h2 := h.1
  rw [msgG_step (by rw [ne_eq, List.drop_eq_nil_iff]; omega) (by omega)] at h1
  exact h1
theorem MsgL.full {b : List Int} {R : Except Int (Bool × List En)} {q j : Nat} {acc : List En} (h : MsgL b R q j acc) (hq : q < b.length) (hj : j = 25) : R = .error 3 := by
  have h1 := h.go hq
  rw [if_pos (by rw [h.2.1]; exact hj)] at h1
  exact h1
theorem MsgL.goes {b : List Int} {R : Except Int (Bool × List En)} {q j : Nat} {acc : List En} (h : MsgL b R q j acc) (hq : q < b.length) (hj : j ≠ 25) (hl : b.length < q + 20) : R = if goesB (b.drop q) = true then .error 6 else .error 3 := by
  have h1 := h.go hq
  rw [if_neg (by rw [h.2.1]; exact hj), if_pos (by rw [List.length_drop]; omega)] at h1
  rw [h1]
  by_cases hg : goesB (b.drop q) = true
  · rw [if_pos hg, if_pos hg]
  · rw [if_neg hg, if_neg hg]
theorem MsgL.none {b : List Int} {R : Except Int (Bool × List En)} {q j : Nat} {acc : List En} (h : MsgL b R q j acc) (hq : q < b.length) (hj : j ≠ 25) (hl : q + 20 ≤ b.length) (hn : entD ((b.drop q).take 20) = Option.none) : R = .error 3 := by
  have h1 := h.go hq
  rw [if_neg (by rw [h.2.1]; exact hj), if_neg (by rw [List.length_drop]; omega), hn] at h1
  exact h1
theorem MsgL.next {b : List Int} {R : Except Int (Bool × List En)} {q j : Nat} {acc : List En} (h : MsgL b R q j acc) (hq : q < b.length) (hj : j ≠ 25) (hl : q + 20 ≤ b.length) {e : En} (hn : entD ((b.drop q).take 20) = some e) : MsgL b R (q + 20) (j + 1) (acc ++ [e]) := by
  have h1 := h.go hq
  rw [if_neg (by rw [h.2.1]; exact hj), if_neg (by rw [List.length_drop]; omega), hn] at h1
  have h2 := h.1
  have h3 := h.2.1
  have h4 := h.2.2.1
  refine ⟨by omega, by rw [List.length_append, h3]; rfl, by omega, ?_⟩
  rw [h1, List.drop_drop]

set_option maxRecDepth 100000 in
set_option maxHeartbeats 8000000 in
theorem messageOf_any {N : Nat} (b : List Int) (a : Option Addr) (c : Nat) (w : World) (hL : Rd w.heap a N 1 (ivals .u8 b)) (hb : ∀ x ∈ b, 0 ≤ x ∧ x < 256) (hc : b.length ≤ c) (hll : b.length ≤ 9223372036854775000) (hN : N = b.length) :
    Calls Tryz.prog 18 #[.slice a N c] w (RetMsg w (decD b)) := by
  subst hN
  have HC := Lib.hid (show ∀ (W : World), Fr (fun _ => False) w W → Rd W.heap a b.length 1 (ivals .u8 b) from fun W f => hL.fr f (fun _ _ _ h => h))
  have HB := Lib.hid hb
  obtain ⟨R, hR⟩ : ∃ R, R = decD b := ⟨_, rfl⟩
  have HR := Lib.hid hR
  rw [← hR]
  have hB0 := (Blk.made w 26 [.bool false, .slice none 0 0]).alloc (.cells #[.int .u8 2, .int .u8 2, .int .u8 0, .int .u8 0] 5)
  have hH0 : Blk ((w.alloc (.cells #[.bool false, .slice none 0 0] 26)).alloc (.cells #[.int .u8 2, .int .u8 2, .int .u8 0, .int .u8 0] 5)).heap (w.heap.size + 1) 5 (ivals .u8 [2, 2, 0, 0]) := by
    have := Blk.made (w.alloc (.cells #[.bool false, .slice none 0 0] 26)) 5 (ivals .u8 [2, 2, 0, 0])
    rwa [show (w.alloc (.cells #[.bool false, .slice none 0 0] 26)).heap.size = w.heap.size + 1 by simp] at this
  have hF0 := ((Fr.refl (fun _ => False) w).alloc (.cells #[.bool false, .slice none 0 0] 26)).alloc (.cells #[.int .u8 2, .int .u8 2, .int .u8 0, .int .u8 0] 5)
  clear hL hb hR
  go_enter Tryz.func18, Tryz.ntmps18
  go_upto_block 0 with (fail)
  go_cut [5] (fun s5 wx => Blk wx.heap w.heap.size 26 [.bool false, .slice none 0 0] ∧ Fr (fun _ => False) w wx ∧ ¬ headG b)
  case first =>
    go_wp2
    go_loopw [5] (fun s5 wx => ∃ i : Nat, i ≤ 4 ∧ s5 = .int .i64 i ∧ Blk wx.heap w.heap.size 26 [.bool false, .slice none 0 0] ∧ Blk wx.heap (w.heap.size + 1) 5 (ivals .u8 [2, 2, 0, 0]) ∧ Fr (fun _ => False) w wx ∧ HeadS b i) (fun s _ => 4 - (intOf s).toNat)
    case atStart => exact ⟨0, by omega, rfl, hB0, hH0, hF0, fun _ h => absurd h (Nat.not_lt_zero _)⟩
    case round =>
      clear hB0 hH0 hF0
      obtain ⟨i, hi, rfl, hB, hH, hF, hS⟩ := hrel
      by_cases hgo : i < 4 ∧ i < b.length
      · obtain ⟨hg4, hgl⟩ := hgo
        have t1 : decide ((i : Int) < 4) = true := decide_eq_true (by omega)
        have t2 : decide (i < b.length) = true := decide_eq_true hgl
        obtain ⟨g, o, rfl, hg, hcc⟩ := u8s_pos (HC.out wr hF) (by omega)
        have d0 := hcc wr rfl i hgl
        have dz := hcc wr rfl 0 (by omega)
        have e0 := hH.cell i
        rw [ivals_get .u8 _ i (by simpa using hg4)] at e0
        have hhl := hH.lt
        have hq : headB b i ↔ nth b i ≠ nth ([2, 2, 0, 0] : List Int) i ∧ (0 < i ∨ nth b 0 ≠ 1) := Iff.rfl
        have HQ := Lib.hid hq
        have hB' := put2 hB (.bool false) (.slice none 0 0)
        have f0 := hB.frozen 0
        have f1 := hB.frozen 1
        have m0 := hB.cell 0
        have m1 := hB.cell 1
        have ml := hB.lt
        simp only [List.getElem?_cons_succ, List.getElem?_cons_zero] at m0 m1
        have HB' := Lib.hid hB'
        have HBB := Lib.hid hB
        have HHH := Lib.hid hH
        obtain ⟨y, hy⟩ : ∃ y, y = nth b i := ⟨_, rfl⟩
        obtain ⟨x, hx⟩ : ∃ x, x = nth ([2, 2, 0, 0] : List Int) i := ⟨_, rfl⟩
        obtain ⟨z, hz⟩ : ∃ z, z = nth b 0 := ⟨_, rfl⟩
        have HQ' := Lib.hid (show headB b i ↔ y ≠ x ∧ (0 < i ∨ z ≠ 1) by rw [hy, hx, hz]; exact HQ.out)
        rw [← hy] at d0
        rw [← hx] at e0
        rw [← hz] at dz
        simp only [Nat.add_zero] at dz
        clear hcc hq HQ hB hH hB'
        -- what the test tells
        have q : ((y != x) = false) ∨ ((y != x) = true ∧ decide (0 < i) = true) ∨ ((z != x) = true ∧ i = 0 ∧ y = z ∧ (z != 1) = true) ∨ ((z != x) = true ∧ i = 0 ∧ y = z ∧ (z != 1) = false) := by
          by_cases h : y = x
          · exact .inl (by simp [h])
          · by_cases hp : 0 < i
            · exact .inr (.inl ⟨by simp [h], decide_eq_true hp⟩)
            · have hi0 : i = 0 := by omega
              have hyz : y = z := by rw [hy, hz, hi0]
              by_cases h1 : z = 1
              · exact .inr (.inr (.inr ⟨by rw [← hyz]; simp [h], hi0, hyz, by simp [h1]⟩))
              · exact .inr (.inr (.inl ⟨by rw [← hyz]; simp [h], hi0, hyz, by simp [h1]⟩))
        clear hy hx hz
        rcases q with q1 | ⟨q1, q2⟩ | ⟨q1, rfl, rfl, q2⟩ | ⟨q1, rfl, rfl, q2⟩
        · have HS := headS_step hS (fun h => by have := (HQ'.out.1 h).1; simp at q1; exact this q1)
          clear HQ'
          go_wp2
          go_quiet (fail)
          go_wp2
          go_roundw
          case rel => exact ⟨i + 1, by omega, by go_num, HBB.out.fr ((Fr.refl (fun _ => False) _).drewN nq) (fun h => h), HHH.out.fr ((Fr.refl (fun _ => False) _).drewN nq) (fun h => h), hF.drewN nq, HS⟩
          case measure => simp [intOf]; omega
        · have HX := Lib.hid (HR.out.trans (decD_bad (headS_bad hg4 hgl (HQ'.out.2 ⟨by simpa using q1, .inl (of_decide_eq_true q2)⟩))))
          clear HQ'
          go_wp2
          go_quiet (fail)
          have hp := put2 (HBB.out.fr ((Fr.refl (fun _ => False) _).drewN nq) (fun h => h)) (.bool false) (.slice none 0 0)
          have y0 := hp.1.cell 0
          have y1 := hp.1.cell 1
          simp only [List.getElem?_cons_succ, List.getElem?_cons_zero] at y0 y1
          have HP := Lib.hid hp.2
          clear hp
          go_wp2
          refine bodyPost_ret (v := .tuple #[.agg #[.bool false, .slice none 0 0], .int .i64 3]) (by simp [results, Tryz.results18, go_sem, y0, y1]) rfl ?_
          exact RetMsg.err HX.out rfl ((hF.drewN nq).trans' HP.out (fun k hk e => by omega))
        · have HX := Lib.hid (HR.out.trans (decD_bad (headS_bad hg4 hgl (HQ'.out.2 ⟨by simpa using q1, .inr (by simpa using q2)⟩))))
          clear HQ'
          go_wp2
          go_quiet (fail)
          have hp := put2 (HBB.out.fr ((Fr.refl (fun _ => False) _).drewN nq) (fun h => h)) (.bool false) (.slice none 0 0)
          have y0 := hp.1.cell 0
          have y1 := hp.1.cell 1
          simp only [List.getElem?_cons_succ, List.getElem?_cons_zero] at y0 y1
          have HP := Lib.hid hp.2
          clear hp
          go_wp2
          refine bodyPost_ret (v := .tuple #[.agg #[.bool false, .slice none 0 0], .int .i64 3]) (by simp [results, Tryz.results18, go_sem, y0, y1]) rfl ?_
          exact RetMsg.err HX.out rfl ((hF.drewN nq).trans' HP.out (fun k hk e => by omega))
        · have HS := headS_step hS (fun h => by have := (HQ'.out.1 h).2; simp at q2; omega)
          clear HQ'
          go_wp2
          go_quiet (fail)
          go_wp2
          go_roundw
          case rel => exact ⟨0 + 1, by omega, by go_num, HBB.out.fr ((Fr.refl (fun _ => False) _).drewN nq) (fun h => h), HHH.out.fr ((Fr.refl (fun _ => False) _).drewN nq) (fun h => h), hF.drewN nq, HS⟩
          case measure => simp [intOf]
      · have HG := headS_end hS (by omega)
        have q : decide ((i : Int) < 4) = false ∨ (decide ((i : Int) < 4) = true ∧ decide (i < b.length) = false) := by
          by_cases h : i < 4
          · exact .inr ⟨decide_eq_true (by omega), decide_eq_false (by omega)⟩
          · exact .inl (decide_eq_false (by omega))
        clear hgo
        rcases q with q | ⟨q1, q2⟩
        all_goals
          go_wp2
          go_meet
          case rel => exact ⟨hB, hF, HG⟩
  case rest =>
    obtain ⟨hB, hF, hG⟩ := hcut
    have f0 := hB.frozen 0
    have f1 := hB.frozen 1
    have m0 := hB.cell 0
    have m1 := hB.cell 1
    have ml := hB.lt
    simp only [List.getElem?_cons_succ, List.getElem?_cons_zero] at m0 m1
    have HG := Lib.hid hG
    clear hG hB0 hH0 hF0
    by_cases hl4 : b.length < 4
    · have HX := Lib.hid (HR.out.trans (decD_short HG.out hl4))
      have HB' := Lib.hid (put2 hB (.bool false) (.slice none 0 0))
      have t1 : decide ((b.length : Int) < 4) = true := decide_eq_true (by omega)
      have y0 := HB'.out.1.cell 0
      have y1 := HB'.out.1.cell 1
      simp only [List.getElem?_cons_succ, List.getElem?_cons_zero] at y0 y1
      clear hB
      go_wp2
      refine bodyPost_ret (v := .tuple #[.agg #[.bool false, .slice none 0 0], .int .i64 6]) (by simp [results, Tryz.results18, go_sem, y0, y1]) rfl ?_
      exact RetMsg.err HX.out rfl (hF.trans' (HB'.out.2) (fun k hk e => by omega))
    · obtain ⟨g, o, rfl, hg, hcc⟩ := u8s_pos (HC.out w (Fr.refl _ _)) (by omega)
      have d0 := (hF.cell (p := ⟨g, o + 0, none⟩) hg (fun h => h)).trans (hcc w rfl 0 (by omega))
      rw [Nat.add_zero] at d0
      have hgwc := Nat.lt_of_lt_of_le hg hF.size
      have hM0 : MsgL b R 4 0 [] := ⟨rfl, rfl, by omega, HR.out.trans (decD_msg HG.out (by omega))⟩
      obtain ⟨ask, hask⟩ : ∃ ask : Bool, ask = decide (nth b 0 = 1) := ⟨_, rfl⟩
      have hbe : (nth b 0 == 1) = ask := by rw [hask]; rfl
      have HASK := Lib.hid hask
      have t1 : decide ((b.length : Int) < 4) = false := decide_eq_false (by omega)
      have hBm := Blk.made wc 26 [.bool ask, .slice none 0 0]
      have hFm := hF.alloc (.cells #[.bool ask, .slice none 0 0] 26)
      have hBr := hB.alloc (.cells #[.bool ask, .slice none 0 0] 26)
      have hws : w.heap.size < wc.heap.size := hB.lt
      obtain ⟨z, hz⟩ : ∃ z, z = nth b 0 := ⟨_, rfl⟩
      rw [← hz] at d0 hbe
      clear hcc hB hask hz
      go_wp2
      go_loopw [7] (fun s7 wr => ∃ (q j : Nat) (acc : List En) (am : Option Addr) (cm : Nat) (obm : Option Nat), s7 = .int .i64 q ∧ 4 ≤ q ∧ q ≤ b.length + 20 ∧ j ≤ 25 ∧ Blk wr.heap w.heap.size 26 [.bool false, .slice none 0 0] ∧ Blk wr.heap wc.heap.size 26 [.bool ask, .slice am j cm] ∧ Ownd wr.heap 87 5 am j cm (acc.flatMap En.cells) obm ∧ (∀ g, obm = some g → wc.heap.size < g) ∧ Fr (fun _ => False) w wr ∧ MsgL b R q j acc) (fun s _ => b.length + 20 - (intOf s).toNat)
      case atStart => exact ⟨4, 0, [], none, 0, none, rfl, by omega, by omega, by omega, hBr, hBm, Ownd.nil _ _ _, (fun _ h => nomatch h), hFm, hM0⟩
      case round =>
        clear hBr hBm hFm hM0 f0 f1 m0 m1 ml d0 hbe
        obtain ⟨q, j, acc, am, cm, obm, rfl, hq4, hql, hj25, hB, hM, hO, hN, hF, hL⟩ := hrel
        have hgr := Nat.lt_of_lt_of_le hg hF.size
        have n0 := hM.cell 0
        have n1 := hM.cell 1
        have nl := hM.lt
        simp only [List.getElem?_cons_succ, List.getElem?_cons_zero] at n0 n1
        by_cases hqb : q < b.length
        · have s1 : decide (q < b.length) = true := decide_eq_true hqb
          by_cases hj : j = 25
          · have HX := Lib.hid (hL.full hqb hj)
            have s2 : ((j : Int) == 25) = true := by simp [hj]
            have f0 := hB.frozen 0
            have f1 := hB.frozen 1
            have m0 := hB.cell 0
            have m1 := hB.cell 1
            have ml := hB.lt
            have hp := put2 hB (.bool false) (.slice none 0 0)
            have y0 := hp.1.cell 0
            have y1 := hp.1.cell 1
            simp only [List.getElem?_cons_succ, List.getElem?_cons_zero] at m0 m1 y0 y1
            have HP := Lib.hid hp.2
            clear hp
            clear hj
            go_wp2
            refine bodyPost_ret (v := .tuple #[.agg #[.bool false, .slice none 0 0], .int .i64 3]) (by simp [results, Tryz.results18, go_sem, y0, y1]) rfl ?_
            exact RetMsg.err HX.out rfl (hF.trans' HP.out (fun k hk e => by omega))
          · have s2 : ((j : Int) == 25) = false := by simp; omega
            have hrest := rd_sub (HC.out wr hF) q (b.length - q) (by omega)
            rw [List.take_of_length_le (by simp)] at hrest
            have hcq : ¬ c = q := by omega
            by_cases hlen : b.length < q + 20
            · have s3 : decide ((b.length : Int) < (q : Int) + 20) = true := decide_eq_true (by omega)
              have hX := hL.goes hqb hj hlen
              have hcall := goes_M (M := b.length - q) (b.drop q) (some ⟨g, o + q, none⟩) (c - q) wr hrest (fun x hx => HB.out x (List.mem_of_mem_drop hx)) (by rw [List.length_drop]; omega) (by rw [List.length_drop]; omega) (by rw [List.length_drop])
              obtain ⟨G, hG⟩ : ∃ G, G = goesB (b.drop q) := ⟨_, rfl⟩
              rw [← hG] at hX hcall
              clear hG hj hrest
              go_wp2_with (fail)
              refine hcall.mono ?_
              rintro e5 w5 ⟨rfl, hF5⟩
              have hB5 := hB.fr hF5 (fun h => h)
              have hFx := hF.trans hF5
              have f0 := hB5.frozen 0
              have f1 := hB5.frozen 1
              have m0 := hB5.cell 0
              have m1 := hB5.cell 1
              have ml := hB5.lt
              have hp := put2 hB5 (.bool false) (.slice none 0 0)
              have y0 := hp.1.cell 0
              have y1 := hp.1.cell 1
              simp only [List.getElem?_cons_succ, List.getElem?_cons_zero] at m0 m1 y0 y1
              have HP := Lib.hid hp.2
              clear hp
              clear hcall
              cases G with
              | true =>
                have HX := Lib.hid (show R = .error 6 from hX)
                clear hX
                go_wp2
                refine bodyPost_ret (v := .tuple #[.agg #[.bool false, .slice none 0 0], .int .i64 6]) (by simp [results, Tryz.results18, go_sem, y0, y1]) rfl ?_
                exact RetMsg.err HX.out rfl (hFx.trans' HP.out (fun k hk e => by omega))
              | false =>
                have HX := Lib.hid (show R = .error 3 from hX)
                clear hX
                go_wp2
                refine bodyPost_ret (v := .tuple #[.agg #[.bool false, .slice none 0 0], .int .i64 3]) (by simp [results, Tryz.results18, go_sem, y0, y1]) rfl ?_
                exact RetMsg.err HX.out rfl (hFx.trans' HP.out (fun k hk e => by omega))
            · have s3 : decide ((b.length : Int) < (q : Int) + 20) = false := decide_eq_false (by omega)
              have hent := rd_sub (HC.out wr hF) q 20 (by omega)
              have hcall := entryOf_M (M := 20) ((b.drop q).take 20) (some ⟨g, o + q, none⟩) (c - q) wr hent (fun x hx => HB.out x (List.mem_of_mem_drop (List.mem_of_mem_take hx))) rfl
              have HN := Lib.hid (fun h => hL.none hqb hj (by omega) h)
              have HE := Lib.hid (fun e (h : entD ((b.drop q).take 20) = some e) => hL.next hqb hj (by omega) h)
              obtain ⟨r, hr⟩ : ∃ r, r = entD ((b.drop q).take 20) := ⟨_, rfl⟩
              rw [← hr] at HN HE hcall
              clear hr hrest hent hL
              go_wp2_with (fail)
              refine hcall.mono ?_
              rintro e5 w5 ⟨en, rfl, hF5, hen, -⟩
              obtain ⟨ea, ek, et, ep, em⟩ := en
              have hFb := (Fr.refl (fun _ => False) w5).alloc (.cells #[.int .u32 ea, .int .i64 ek, .int .i64 et, .int .u32 ep, .int .i64 em] 87)
              have hF5b := hF5.trans hFb
              have hFx := hF.trans hF5b
              have hBx := Blk.made w5 87 [.int .u32 ea, .int .i64 ek, .int .i64 et, .int .u32 ep, .int .i64 em]
              have hB5 := hB.fr hF5b (fun h => h)
              have hM5 := hM.fr hF5b (fun h => h)
              have hO5 := hO.fr hF5b (fun _ _ h => h)
              have x0 := hBx.cell 0
              have x1 := hBx.cell 1
              have x2 := hBx.cell 2
              have x3 := hBx.cell 3
              have x4 := hBx.cell 4
              have xl := hBx.lt
              have n0' := hM5.cell 0
              have n1' := hM5.cell 1
              have nl' := hM5.lt
              have nf1 := hM5.frozen 1
              simp only [List.getElem?_cons_succ, List.getElem?_cons_zero] at x0 x1 x2 x3 x4 n0' n1'
              have hs5 := hF5.size
              clear hcall n0 n1
              cases r with
              | none =>
                have HX := Lib.hid (HN.out rfl)
                have f0 := hB5.frozen 0
                have f1 := hB5.frozen 1
                have m0 := hB5.cell 0
                have m1 := hB5.cell 1
                have ml := hB5.lt
                have hp := put2 hB5 (.bool false) (.slice none 0 0)
                have y0 := hp.1.cell 0
                have y1 := hp.1.cell 1
                simp only [List.getElem?_cons_succ, List.getElem?_cons_zero] at m0 m1 y0 y1
                have HP := Lib.hid hp.2
                clear hp
                clear HN HE hen
                simp only [Option.isSome_none]
                go_wp2
                refine bodyPost_ret (v := .tuple #[.agg #[.bool false, .slice none 0 0], .int .i64 3]) (by simp [results, Tryz.results18, go_sem, y0, y1]) rfl ?_
                exact RetMsg.err HX.out rfl (hFx.trans' HP.out (fun k hk e => by omega))
              | some y =>
                obtain rfl := hen y rfl
                have HL := Lib.hid (HE.out _ rfl)
                have hj24 : j ≤ 24 := by omega
                have hFc := hFb.alloc (.cells #[.int .u32 ea, .int .i64 ek, .int .i64 et, .int .u32 ep, .int .i64 em] 87)
                have hF5c := hF5.trans hFc
                have hO6 := hO.fr hF5c (fun _ _ h => h)
                have hrd := rd_lit1 w5 (.cells #[.int .u32 ea, .int .i64 ek, .int .i64 et, .int .u32 ep, .int .i64 em] 87) 87 [.int .u32 ea, .int .i64 ek, .int .i64 et, .int .u32 ep, .int .i64 em]
                have HB6 := Lib.hid (hB.fr hF5c (fun h => h))
                have HM6 := Lib.hid (hM.fr hF5c (fun h => h))
                have HF6 := Lib.hid (hF.trans hF5c)
                simp only [Option.isSome_some]
                clear HN HE hen hO hO5 hB hM hF hB5 hM5 hFx hF5c hF5b hFb hFc hBx
                go_wp2_with (go_loud (at_builtin; refine wpList_app rfl _ _ 24 rfl Tryz.underlying24 infoEn rfl (by decide) rfl rfl hO6 hrd (by simp [Value.oneCell']) (by omega) (by omega) ?_))
                intro a8 c8 w8 ob8 v1 v2 v3
                have hoblt := hO6.lt
                have hB8 := HB6.out.fr v2 (fun h => by have := hN _ h; omega)
                have hM8 := HM6.out.fr v2 (fun h => by have := hN _ h; omega)
                have hN8 : ∀ g, ob8 = some g → wc.heap.size < g := fun g hg' => by
                  rcases v3 with h | ⟨g', h, h'⟩
                  · exact hN g (by rw [← h, hg'])
                  · rw [hg'] at h; cases h
                    have := HF6.out.size
                    have := HM6.out.lt
                    omega
                have hF8 : Fr (fun _ => False) w w8 := HF6.out.trans' v2 (fun k hk e => by have := hN k e; omega)
                have k1 := hM8.cell 1
                have k2 := hM8.frozen 1
                have k3 := hM8.lt
                simp only [List.getElem?_cons_succ, List.getElem?_cons_zero] at k1
                have HM9 := Lib.hid (hM8.set 1 (.slice a8 (j + 1) c8))
                have HB9 := Lib.hid (hB8.other (p := ⟨wc.heap.size, 1, none⟩) (by simp; omega) (.slice a8 (j + 1) c8))
                have HF9 := Lib.hid (hF8.setCell (p := ⟨wc.heap.size, 1, none⟩) (fun h => by have h2 : wc.heap.size < w.heap.size := h; omega) (.slice a8 (j + 1) c8))
                have HO9 := Lib.hid (show Ownd _ _ 5 a8 (j + 1) c8 ((acc ++ [(⟨ea, ek, et, ep, em⟩ : En)]).flatMap En.cells) ob8 from by
                  have h := v1.other (p := ⟨wc.heap.size, 1, none⟩) (fun h => by have h2 : ob8 = some wc.heap.size := h; have := hN8 _ h2; omega) (.slice a8 (j + 1) c8)
                  simpa using h)
                clear v1 v2 v3 hO6 hrd hB8 hM8 hF8 x0 x1 x2 x3 x4 xl n0' n1' nl' nf1
                go_wp2
                go_roundw
                case rel => exact ⟨q + 20, j + 1, acc ++ [⟨ea, ek, et, ep, em⟩], a8, c8, ob8, by go_num, by omega, by omega, by omega, HB9.out, HM9.out, HO9.out, hN8, HF9.out, HL.out⟩
                case measure => simp [intOf]; omega
        · have s1 : decide (q < b.length) = false := decide_eq_false hqb
          have HX := Lib.hid (hL.fin (by omega))
          have hla : acc.length = j := hL.2.1
          have HLA := Lib.hid hla.symm
          have f0 := hB.frozen 0
          have f1 := hB.frozen 1
          have m0 := hB.cell 0
          have m1 := hB.cell 1
          have ml := hB.lt
          have hp := put2 hB (.bool ask) (.slice am j cm)
          have y0 := hp.1.cell 0
          have y1 := hp.1.cell 1
          simp only [List.getElem?_cons_succ, List.getElem?_cons_zero] at m0 m1 y0 y1
          have HP := Lib.hid hp.2
          have HO := Lib.hid (hO.fr hp.2 (fun g hg h => by have := hN g hg; omega))
          clear hp hla hO hL
          go_wp2
          refine bodyPost_ret (v := .tuple #[.agg #[.bool ask, .slice am j cm], .int .i64 0]) (by simp [results, Tryz.results18, go_sem, y0, y1]) rfl ?_
          exact RetMsg.ok (by rw [HX.out, ← HASK.out]) HLA.out rfl HO.out (hF.trans' HP.out (fun k hk e => by omega)) (fun g hg => by have := hN g hg; omega) hj25
end Go.Proofs.YtfglidaicjjpfaaGreatDoor
end
