import Derived.Test.YtbmeeglehbaggaaGaoChk2
import Derived.Deep.CutBlock
import Derived.Deep.CutRange
import Derived.Deep.DeepCutAuto
namespace Go.Proofs.Ytbmeeglehbaggaa
open Go.RowKit

theorem Links.pre {H : Array Obj} {a : Option Addr} {l : List Lk} (h : Links H a l) (k : Nat) (hk : k ≤ l.length) : Links H a (l.take k) := by
  have hll : (l.take k).length = k := by rw [List.length_take]; omega
  refine ⟨by rw [flat_len _ 3 Lk.cells_len, hll], ?_⟩
  rcases h.at' with h1 | ⟨b, off, h1, h2, h3⟩
  · left
    have : l.length * 3 = 0 := by rw [← flat_len Lk.cells 3 Lk.cells_len l, h1]; rfl
    have h0 : l = [] := List.eq_nil_of_length_eq_zero (by omega)
    subst h0; simp
  · right
    refine ⟨b, off, h1, h2, fun w hw i hi => ?_⟩
    have hi' : i < (l.take k).length * 3 := by rw [← flat_len Lk.cells 3 Lk.cells_len]; exact hi
    have hlen := flat_len Lk.cells 3 Lk.cells_len l
    rw [h3 w hw i (by omega)]
    have e : (l.flatMap Lk.cells)[i]? = ((l.take k).flatMap Lk.cells ++ (l.drop k).flatMap Lk.cells)[i]? := by rw [← List.flatMap_append, List.take_append_drop]
    rw [e, List.getElem?_append_left (by rw [flat_len _ 3 Lk.cells_len]; omega)]
theorem infoBoolG : (Try.prog.info? 4).map (fun i => (i.zero, i.size, i.bytes)) = some (some (.bool false), 1, 1) := by kernel_rfl
theorem doneS_len (n : Nat) (W : Nat → Nat → Int) (D : List Bool) (i : Nat) : (doneS n W D i).length = D.length := by unfold doneS; exact List.length_set
theorem doneF_len (n : Nat) (W : Nat → Nat → Int) : ∀ (l : List Nat) (D : List Bool), (l.foldl (doneS n W) D).length = D.length
  | [], _ => rfl
  | x :: l, D => by rw [List.foldl_cons, doneF_len n W l, doneS_len]
theorem doneN_len (n : Nat) (W : Nat → Nat → Int) : ∀ m, (doneN n W m).length = n
  | 0 => by simp [doneN]
  | m + 1 => by show ((List.range n).foldl (doneS n W) (doneN n W m)).length = n; rw [doneF_len, doneN_len n W m]
theorem done_next (n : Nat) (W : Nat → Nat → Int) (D : List Bool) (i : Nat) : (List.range (i + 1)).foldl (doneS n W) D = doneS n W ((List.range i).foldl (doneS n W) D) i := by rw [List.range_succ, List.foldl_append]; rfl

set_option maxRecDepth 100000 in
set_option maxHeartbeats 8000000 in
theorem gaoCheck_any (n : Int) (l : List Lk) (a : Option Addr) (c : Nat) (w : World) (hL : Links w.heap a l) (hl : l.length ≤ 9223372036854775806) (hc : l.length ≤ c) :
    Calls Try.prog 50 #[.int .i64 n, .slice a l.length c] w (RetV w (errO (gaoErr n l))) := by
  have HL := Lib.hid hL
  obtain ⟨L, hLn⟩ : ∃ L, L = l.length := ⟨_, rfl⟩
  have HN := Lib.hid hLn
  rw [← hLn] at hl hc ⊢
  clear hL hLn
  go_enter Try.func50, Try.ntmps50
  by_cases hb : n < 1 ∨ 8 < n
  · have hX := Lib.hid (show gaoErr n l = some 1 from if_pos hb)
    go_wp2
    all_goals go_ret
    all_goals exact RetV.mk (x := errv 1) (by rw [hX.out]; rfl) rfl (Fr.refl _ _)
  · have hX := Lib.hid (fun e (h : dealErr n [] l = some e) => show gaoErr n l = some e by unfold gaoErr; rw [if_neg hb, h])
    have hX2 := Lib.hid (fun (h : dealErr n [] l = none) => show gaoErr n l = if false ∈ doneN n.toNat (at2 (tabR n.toNat l)) n.toNat then some 3 else none by unfold gaoErr; rw [if_neg hb, h])
    have n1 : 1 ≤ n := by omega
    have n8 : n ≤ 8 := by omega
    have H0 : Hid (dealErr n [] l = dealErr n (l.take 0) (l.drop 0)) := Lib.hid rfl
    clear hb
    go_wp2
    go_loopw [20] (fun s wr => ∃ (k : Nat), k ≤ L ∧ s = .int .i64 k ∧ Fr (fun _ => False) w wr ∧ Hid (dealErr n [] l = dealErr n (l.take k) (l.drop k))) (fun s _ => L - (intOf s).toNat)
    case atStart => exact ⟨0, by omega, rfl, Fr.refl _ _, H0⟩
    case round =>
      clear H0
      obtain ⟨k, hk, rfl, hF, hE⟩ := hrel
      by_cases hlt : k < L
      · have hkl : k < l.length := by have := HN.out; omega
        obtain ⟨b, off, rfl, hbb, hcs⟩ := Recs.pos HL.out Lk.cells_len (by omega) (by omega)
        have dd := fun (j : Nat) (hj : j < 3) => (hF.cell (p := ⟨b, off + (k * 3 + j), none⟩) hbb (fun h => h)).trans (hcs w rfl k j hkl hj)
        have d0 := dd 0 (by omega)
        have d1 := dd 1 (by omega)
        have d2 := dd 2 (by omega)
        have hbw := Nat.lt_of_lt_of_le hbb hF.size
        have HD := Lib.hid (show l.drop k = nth l k :: l.drop (k + 1) from drop_nth l k hkl)
        have HT := Lib.hid (take_succ_nth l k hkl)
        generalize nth l k = x at *
        obtain ⟨xa, xb, xc⟩ := x
        simp only [Lk.cells, List.getElem?_cons_zero, List.getElem?_cons_succ, ← Nat.add_assoc, Nat.add_zero] at d0 d1 d2
        clear hcs dd hkl
        by_cases hbad : Lk.badD n ⟨xa, xb, xc⟩
        · have hX1 := Lib.hid (hX.out 1 (by rw [hE.out, HD.out]; exact if_pos hbad))
          have hbad2 : xa < 0 ∨ n ≤ xa ∨ xb < 0 ∨ n ≤ xb ∨ xc < 1 ∨ 3 < xc := hbad
          clear hbad
          go_wp2
          all_goals go_ret
          all_goals exact RetV.mk (x := errv 1) (by rw [hX1.out]; rfl) rfl (hF.alloc _)
        · have HB := Lib.hid hbad
          obtain ⟨b1, b2, b3, b4, b5, b6⟩ : 0 ≤ xa ∧ xa < n ∧ 0 ≤ xb ∧ xb < n ∧ 1 ≤ xc ∧ xc ≤ 3 := by
            have h : ¬ (xa < 0 ∨ n ≤ xa ∨ xb < 0 ∨ n ≤ xb ∨ xc < 1 ∨ 3 < xc) := hbad
            omega
          clear hbad
          by_cases hab : xa = xb
          · have hX1 := Lib.hid (hX.out 3 (by rw [hE.out, HD.out]; rw [dealErr_cons, if_neg HB.out]; exact if_pos hab))
            have heq : (xa == xb) = true := by simp [hab]
            clear hab
            go_wp2
            go_ret
            exact RetV.mk (x := errv 3) (by rw [hX1.out]; rfl) rfl (hF.alloc _)
          · have heq : (xa == xb) = false := by simp [hab]
            have HAB := Lib.hid hab
            have hct := conTwin_any ⟨xa, xb, xc⟩ (l.take k) (some ⟨b, off, none⟩) c wr.heap.size (wr.alloc (.cells #[.int .i64 xa, .int .i64 xb, .int .i64 xc] 132)) (Links.pre (HL.out.fr (hF.alloc _) (fun _ _ _ h => h)) k (by have := HN.out; omega)) (n := k) (by rw [List.length_take]; have := HN.out; omega) (by omega) (Blk.made wr 132 [.int .i64 xa, .int .i64 xb, .int .i64 xc])
            have HTW := Lib.hid (show dealErr n (l.take k) (l.drop k) = if ∃ y ∈ l.take k, twinB ⟨xa, xb, xc⟩ y = true then some 5 else dealErr n (l.take (k + 1)) (l.drop (k + 1)) by rw [HD.out, dealErr_cons, if_neg HB.out, if_neg HAB.out, HT.out])
            obtain ⟨B, hB⟩ : ∃ B, B = decide (∃ y ∈ l.take k, twinB ⟨xa, xb, xc⟩ y = true) := ⟨_, rfl⟩
            rw [← hB] at hct
            have HBB := Lib.hid hB
            clear hab hB
            go_wp2_with (fail)
            refine hct.mono ?_
            rintro e1 w1 ⟨rfl, hF1⟩
            have hF01 := (hF.alloc (.cells #[.int .i64 xa, .int .i64 xb, .int .i64 xc] 132)).trans hF1
            clear hct hF1
            cases B with
            | true =>
              have hX1 := Lib.hid (hX.out 5 (by rw [hE.out, HTW.out, if_pos (of_decide_eq_true HBB.out.symm)]))
              go_wp2
              go_ret
              exact RetV.mk (x := errv 5) (by rw [hX1.out]; rfl) rfl hF01
            | false =>
              have hE2 := Lib.hid (show dealErr n [] l = dealErr n (l.take (k + 1)) (l.drop (k + 1)) by rw [hE.out, HTW.out, if_neg (of_decide_eq_false HBB.out.symm)])
              clear hE HTW HBB HT HD
              go_wp2
              go_roundw
              case rel => exact ⟨k + 1, by omega, by go_num, hF01, hE2⟩
              case measure => simp [intOf]; omega
      · obtain rfl : k = L := by omega
        have HE : Hid (dealErr n [] l = none) := Lib.hid (by have := hE.out; rw [HN.out, List.take_length, List.drop_length] at this; exact this)
        have HOK : Hid (DealOk n l) := Lib.hid (by obtain ⟨h1, -, h3⟩ := dealErr_ok l [] HE.out; exact ⟨h1, h3⟩)
        have HX := Lib.hid (hX2.out HE.out)
        obtain ⟨N, rfl⟩ := Int.eq_ofNat_of_zero_le (show 0 ≤ n by omega)
        rw [Int.toNat_natCast] at HX
        have ht := table_any N l a c wr (HL.out.fr hF (fun _ _ _ h => h)) (by have := HN.out; omega) (by omega) HOK.out
        rw [← HN.out] at ht
        have HSQ := Lib.hid (tabR_sq HOK.out)
        clear hE hX hX2 HE
        go_wp2_with (fail)
        refine ht.mono ?_
        rintro e2 w2 ⟨aw, cw, obw, G, C, rfl, hM, hF2⟩
        have hF02 := hF.trans hF2
        clear ht hF2 hF
        generalize tabR N l = T at *
        have hsw2 := hF02.size
        have hBw := Blk.made w2 96 [.slice aw N cw]
        have hF02a := hF02.alloc (.cells #[.slice aw N cw] 96)
        have hMa := hM.alloc (.cells #[.slice aw N cw] 96)
        clear hM hF02
        go_wp2_with (at_make; refine wpList_mk rfl _ _ 135 rfl Try.underlying135 infoBoolG rfl N rfl rfl rfl rfl (by omega) (by omega) ?_)
        intro w3 hB3 hF3 hs3
        have hs2 : w2.heap.size + 1 ≤ w3.heap.size := by have := hF3.size; simpa using this
        obtain ⟨w4, hw4⟩ : ∃ y, y = w3.alloc (.cells #[.slice (some ⟨w2.heap.size + 1, 0, none⟩) N N] 135) := ⟨_, rfl⟩
        have hF34 : Fr (fun _ => False) w3 w4 := hw4 ▸ ((Fr.refl (fun _ => False) w3).alloc _)
        have hBd : Blk w4.heap w3.heap.size 135 [.slice (some ⟨w2.heap.size + 1, 0, none⟩) N N] := by rw [hw4]; exact Blk.made w3 135 _
        have hBg : Blk w4.heap (w2.heap.size + 1) 4 (bvals (doneN N (at2 T) 0)) := (Blk.eq (by simpa using hB3) (by unfold doneN bvals; rw [List.map_replicate])).fr hF34 (fun h => h)
        have hBw4 := (hBw.fr hF3 (fun h => h)).fr hF34 (fun h => h)
        have hM4 := (hMa.fr hF3 (fun _ _ _ h => h)).fr hF34 (fun _ _ _ h => h)
        have hF04 := (hF02a.trans hF3).trans hF34
        have hGne : ∀ k, k = w2.heap.size + 1 → (∀ i, i < T.length → G i ≠ k) ∧ obw ≠ some k := fun k hk => by
          subst hk
          refine ⟨fun i hi h => ?_, fun h => ?_⟩
          · have := (hMa.row i hi).lt _ rfl; rw [World.size_alloc] at this; omega
          · have := hMa.top.lt _ h; rw [World.size_alloc] at this; omega
        have hs4 := hF34.size
        clear hB3 hF3 hF34 hMa hF02a hBw
        have hbg : w2.heap.size < w2.heap.size + 1 := by omega
        have hgdw : w.heap.size ≤ w2.heap.size + 1 := by omega
        generalize w2.heap.size + 1 = gd at *
        generalize w2.heap.size = bw at *
        generalize hbd : w3.heap.size = bd at *
        have hNn : N ≤ 8 := by omega
        go_wp2
        rw [← hw4]
        clear hbd hw4
        go_loopw [75] (fun s75 wx => ∃ m : Nat, m ≤ N ∧ s75 = .int .i64 m ∧ Fr (fun k => k = gd) w4 wx ∧ Blk wx.heap gd 4 (bvals (doneN N (at2 T) m))) (fun s _ => N - (intOf s).toNat)
        case atStart => exact ⟨0, by omega, rfl, Fr.refl _ _, hBg⟩
        case round =>
          clear hBg
          obtain ⟨m, hm, rfl, hFm, hBm⟩ := hrel
          by_cases hmN : m < N
          · go_wp2
            go_loopw [78] (fun s78 wy => ∃ i : Nat, i ≤ N ∧ s78 = .int .i64 i ∧ Fr (fun k => k = gd) w4 wy ∧ Blk wy.heap gd 4 (bvals ((List.range i).foldl (doneS N (at2 T)) (doneN N (at2 T) m)))) (fun s _ => N - (intOf s).toNat)
            case atStart => exact ⟨0, by omega, rfl, hFm, hBm⟩
            case round =>
              clear hBm hFm
              obtain ⟨i, hi, rfl, hFi, hBi⟩ := hrel
              by_cases hiN : i < N
              · have HDL := Lib.hid (show ((List.range i).foldl (doneS N (at2 T)) (doneN N (at2 T) m)).length = N by rw [doneF_len, doneN_len])
                have HNX := Lib.hid (done_next N (at2 T) (doneN N (at2 T) m) i)
                generalize (List.range i).foldl (doneS N (at2 T)) (doneN N (at2 T) m) = D at *
                obtain ⟨wb, hwb⟩ : ∃ y, y = wr.alloc (.cells #[.int .i64 i] 3) := ⟨_, rfl⟩
                have hFb : Fr (fun _ => False) wr wb := hwb ▸ ((Fr.refl (fun _ => False) wr).alloc _)
                have hBi9 : Blk wb.heap wr.heap.size 3 [.int .i64 i] := by rw [hwb]; exact Blk.made wr 3 _
                have hBgb := hBi.fr hFb (fun h => h)
                have hBdb := (hBd.fr hFi (by omega)).fr hFb (fun h => h)
                have hBwb := (hBw4.fr hFi (by omega)).fr hFb (fun h => h)
                have hMb := (hM4.fr' hFi hGne).fr hFb (fun _ _ _ h => h)
                have hFib := hFi.trans (hFb.none _)
                have hsi := hFi.size
                have b9 : wr.heap.size ≠ gd := by omega
                have gcell := (hBgb.cell i).trans (bvals_get D i (by rw [HDL.out]; exact hiN))
                have gfz := hBgb.frozen i
                have glt := hBgb.lt
                have dlt := hBdb.lt
                have ilt := hBi9.lt
                have dcell := hBdb.cell 0
                have icell := hBi9.cell 0
                simp only [List.getElem?_cons_zero] at dcell icell
                have qd : ∀ c : Cls (fun _ => False) wb, c.wo.cell? ⟨bd, 0, none⟩ = some (.slice (some ⟨gd, 0, none⟩) N N) := fun c => (c.fr.cell (p := ⟨bd, 0, none⟩) dlt (fun h => h)).trans dcell
                have qi : ∀ c : Cls (fun _ => False) wb, c.wo.cell? ⟨wr.heap.size, 0, none⟩ = some (.int .i64 i) := fun c => (c.fr.cell (p := ⟨wr.heap.size, 0, none⟩) ilt (fun h => h)).trans icell
                have HV : Hid (doneS N (at2 T) D i = D.set i (nth D i || !((List.range N).any (openB (at2 T) D i)))) := Lib.hid rfl
                have HST := Lib.hid (fun v : Bool => hBgb.set i (.bool v))
                generalize nth D i = z at *
                go_upto_region 21 with (fail)
                rw [← hwb]
                clear hwb
                cases z with
                | true =>
                  (refine wp_region_mix (fun w' => ∃ c : Cls (fun _ => False) wb, w' = c.wo) 13 (by kernel_rfl) (by kernel_rfl) (⟨⟨_, (Fr.refl _ _).drew⟩, rfl⟩) ?_; simp only [List.take_succ_cons, List.take_zero, List.drop_succ_cons, List.drop_zero])
                  (refine wpMix_lateN 2 (⟨⟨_, (Fr.refl _ _).drew⟩, rfl⟩) (by kernel_rfl) ?_; simp only [List.take_succ_cons, List.take_zero, List.drop_succ_cons, List.drop_zero]; (repeat (go_big_quiet_step (fail))); refine wpQuiet_nil ?_)
                  (refine wpMix_earlyN 6 (by kernel_rfl) (by kernel_rfl) ?_; simp only [List.take_succ_cons, List.take_zero, List.drop_succ_cons, List.drop_zero]; (repeat (go_big_quiet_step (fail))); refine wpQuiet_nil ?_)
                  refine wpMix_eff (by kernel_rfl) ?_
                  go_wp2
                  refine ⟨⟨⟨_, (Fr.refl _ _).drew⟩, rfl⟩, ?_⟩
                  (refine wpMix_lateN 1 (⟨⟨_, (Fr.refl _ _).drew⟩, rfl⟩) (by kernel_rfl) ?_; simp only [List.take_succ_cons, List.take_zero, List.drop_succ_cons, List.drop_zero]; (repeat (go_big_quiet_step (fail))); refine wpQuiet_nil ?_)
                  refine wpMix_eff (by kernel_rfl) ?_
                  go_wp2
                  refine ⟨⟨⟨_, (Fr.refl _ _).drew⟩, rfl⟩, ?_⟩
                  (refine wpMix_lateN 2 (⟨⟨_, (Fr.refl _ _).drew⟩, rfl⟩) (by kernel_rfl) ?_; simp only [List.take_succ_cons, List.take_zero, List.drop_succ_cons, List.drop_zero]; (repeat (go_big_quiet_step (fail))); refine wpQuiet_nil ?_)
                  refine wpMix_nil ?_
                  have hFn : Fr (fun k => k = gd) w4 (wb.setCell ⟨gd, i, none⟩ (.bool true)) := hFib.setCell (fun _ => rfl) _
                  have HB1 : Hid (Blk (wb.setCell ⟨gd, i, none⟩ (.bool true)).heap gd 4 (bvals (doneS N (at2 T) D i))) := Lib.hid (by rw [HV.out]; exact (HST.out true).eq (by simp [bvals, List.map_set]))
                  have HFn := Lib.hid hFn
                  clear hFn
                  go_wp2
                  go_roundw
                  case rel => exact ⟨i + 1, hiN, by go_num, HFn.out.drew, by rw [HNX.out]; exact HB1.out⟩
                  case measure => simp [intOf]; omega
                | false =>
                  (refine wp_region_mix (fun w' => ∃ c : Cls (fun _ => False) wb, w' = c.wo) 13 (by kernel_rfl) (by kernel_rfl) (⟨⟨_, (Fr.refl _ _).drew⟩, rfl⟩) ?_; simp only [List.take_succ_cons, List.take_zero, List.drop_succ_cons, List.drop_zero])
                  (refine wpMix_lateN 2 (⟨⟨_, (Fr.refl _ _).drew⟩, rfl⟩) (by kernel_rfl) ?_; simp only [List.take_succ_cons, List.take_zero, List.drop_succ_cons, List.drop_zero]; (repeat (go_big_quiet_step (fail))); refine wpQuiet_nil ?_)
                  (refine wpMix_earlyN 6 (by kernel_rfl) (by kernel_rfl) ?_; simp only [List.take_succ_cons, List.take_zero, List.drop_succ_cons, List.drop_zero]; (repeat (go_big_quiet_step (fail))); refine wpQuiet_nil ?_)
                  refine wpMix_eff (by kernel_rfl) ?_
                  have hnd := nodes_any N wb.drew hNn
                  go_wp2_with (fail)
                  refine hnd.mono ?_
                  rintro e5 w5 ⟨a5, c5, ob5, rfl, hO5, hF5, hN5⟩
                  have hF5' : Fr (fun _ => False) wb w5 := (Fr.refl _ _).drew.trans hF5
                  have hBg5 := hBgb.fr hF5' (fun h => h)
                  have hBd5 := hBdb.fr hF5' (fun h => h)
                  have hBw5 := hBwb.fr hF5' (fun h => h)
                  have hBi5 := hBi9.fr hF5' (fun h => h)
                  have hM5 := hMb.fr hF5' (fun _ _ _ h => h)
                  have hF45 := hFib.trans (hF5'.none _)
                  have gfz5 := hBg5.frozen i
                  have glt5 := hBg5.lt
                  have gcell5 := (hF5'.cell (p := ⟨gd, i, none⟩) glt (fun h => h)).trans gcell
                  have hco := conOpen_any (openB (at2 T) D i) a5 c5 bw wr.heap.size bd w5 (by unfold Ints; rw [iotaL_len]; exact hO5.rd) hNn (fun k hk => chk2_any w5 hBw5 hBi5 hBd5 hM5 HSQ.out hBg5 HDL.out hiN hk hNn)
                  have HST5 := Lib.hid (fun v : Bool => hBg5.set i (.bool v))
                  obtain ⟨B, hB⟩ : ∃ B, B = (List.range N).any (openB (at2 T) D i) := ⟨_, rfl⟩
                  rw [← hB] at hco HV
                  clear hnd hO5 hF5 hN5 hBg5 hBd5 hBw5 hBi5 hM5 hBgb hBdb hBwb hBi9 hMb qd qi gcell gfz HST hB
                  go_wp2
                  refine ⟨⟨⟨_, hF5'⟩, rfl⟩, ?_⟩
                  (refine wpMix_lateN 1 (⟨⟨_, (Fr.refl _ _).drew⟩, rfl⟩) (by kernel_rfl) ?_; simp only [List.take_succ_cons, List.take_zero, List.drop_succ_cons, List.drop_zero]; (repeat (go_big_quiet_step (fail))); refine wpQuiet_nil ?_)
                  refine wpMix_eff (by kernel_rfl) ?_
                  go_wp2_with (fail)
                  refine hco.mono ?_
                  rintro e6 w6 ⟨rfl, rfl⟩
                  clear hco
                  go_wp2
                  refine ⟨⟨⟨_, hF5'⟩, rfl⟩, ?_⟩
                  (refine wpMix_lateN 2 (⟨⟨_, (Fr.refl _ _).drew⟩, rfl⟩) (by kernel_rfl) ?_; simp only [List.take_succ_cons, List.take_zero, List.drop_succ_cons, List.drop_zero]; (repeat (go_big_quiet_step (fail))); refine wpQuiet_nil ?_)
                  refine wpMix_nil ?_
                  have hFn : Fr (fun k => k = gd) w4 (w5.setCell ⟨gd, i, none⟩ (.bool (!B))) := hF45.setCell (fun _ => rfl) _
                  have HB1 : Hid (Blk (w5.setCell ⟨gd, i, none⟩ (.bool (!B))).heap gd 4 (bvals (doneS N (at2 T) D i))) := Lib.hid (by rw [HV.out]; exact (HST5.out (!B)).eq (by simp [bvals, List.map_set]))
                  have HFn := Lib.hid hFn
                  clear hFn
                  go_wp2
                  go_roundw
                  case rel => exact ⟨i + 1, hiN, by go_num, HFn.out, by rw [HNX.out]; exact HB1.out⟩
                  case measure => simp [intOf]; omega
              · obtain rfl : i = N := by omega
                go_wp2
                go_roundw
                case rel => exact ⟨m + 1, hmN, by go_num, hFi, hBi⟩
                case measure => simp [intOf]; omega
          · obtain rfl : m = N := by omega
            have hbdx := hBd.fr hFm (by omega)
            have hcf := conFalse_any (n := m) (doneN m (at2 T) m) gd m wr hBm (doneN_len _ _ _) hNn
            have d0 := hbdx.cell 0
            simp only [List.getElem?_cons_zero] at d0
            have dlt := hbdx.lt
            obtain ⟨B, hB⟩ : ∃ B, B = decide (false ∈ doneN m (at2 T) m) := ⟨_, rfl⟩
            rw [← hB] at hcf
            have HBB := Lib.hid hB
            have hFe : Fr (fun _ => False) w wr := hF04.trans' hFm (fun i hi h => by have h : i = gd := h; omega)
            clear hB hBm hFm
            go_wp2_with (fail)
            refine hcf.mono ?_
            rintro e5 w5 ⟨rfl, rfl⟩
            clear hcf
            cases B with
            | true =>
              have HX1 := Lib.hid (show gaoErr m l = some 3 by rw [HX.out, if_pos (of_decide_eq_true HBB.out.symm)])
              go_wp2
              go_ret
              exact RetV.mk (x := errv 3) (by rw [HX1.out]; rfl) rfl hFe
            | false =>
              have HX1 := Lib.hid (show gaoErr m l = none by rw [HX.out, if_neg (of_decide_eq_false HBB.out.symm)])
              go_wp2
              go_ret
              exact RetV.mk (x := .nilIface) (by rw [HX1.out]; rfl) rfl hFe
end Go.Proofs.Ytbmeeglehbaggaa
