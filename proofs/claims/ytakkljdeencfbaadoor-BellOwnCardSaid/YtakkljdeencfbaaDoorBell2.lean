import Derived.Test.YtakkljdeencfbaaDoorBell
namespace Go.Proofs.YtakkljdeencfbaaDoor
open Go.RowKit

set_option maxRecDepth 100000 in
set_option maxHeartbeats 3000000 in
theorem round_any (n : Int) (l : List Lk) (a : Option Addr) (c : Nat) (to : Int) (d : List Int) (da : Option Addr) (dc : Nat) (w : World) (hL : Links w.heap a l) (hl : l.length ≤ 9223372036854775807) (hw : ∀ x ∈ l, (Lit.int .i64 x.a).wf = true ∧ (Lit.int .i64 x.b).wf = true ∧ (Lit.int .i64 x.c).wf = true) (hD : Ints w.heap da d) (hdl : d.length ≤ 9223372036854775807) :
    Calls Tryd.prog 15 #[.int .i64 n, .slice a l.length c, .int .i64 to, .slice da d.length dc] w (RetIs w n.toNat (roundE n l to d)) := by
  obtain ⟨RE, hRE⟩ : ∃ RE, RE = roundE n l to d := ⟨_, rfl⟩
  rw [← hRE]
  have HRE := Lib.hid hRE
  clear hRE
  go_enter Tryd.func15, Tryd.ntmps15
  go_wp2_with (go_at_call 26; refine (gcheck_any n l a c _ hL hl hw).mono ?_)
  intro e1 w1 R1
  obtain ⟨rfl, hF1⟩ := R1
  cases hg : graphErr n l with
  | some k =>
    have hX := Lib.hid (show RE = .error k from HRE.out.trans (by simp only [roundE, hg]))
    clear hg
    rw [show errO (some k) = errv k from rfl]
    go_wp2
    go_ret2
    exact RetIs.err hX.out rfl hF1
  | none =>
    obtain ⟨hn, hok, hlen⟩ := graph_ok hg
    have HX := Lib.hid (show RE = if n < 1 ∨ 8 < n ∨ to < 0 ∨ n ≤ to then .error 1 else if (d.length : Int) ≠ n then .error 3 else if ∃ x ∈ d, badD x then .error 1 else .ok (l.foldl (bellF d) (startL n.toNat to.toNat)) from HRE.out.trans (by simp only [roundE, hg]))
    have HOK := Lib.hid hok
    clear hg hok hw HRE
    rw [show errO none = .nilIface from rfl]
    go_wp2_with (go_at_call 33; refine (start_any n to _).mono ?_)
    intro e2 w2 R2
    by_cases hto : to < 0 ∨ n ≤ to
    · have hX := Lib.hid (show RE = .error 1 from HX.out.trans (if_pos (by omega)))
      rw [show startE n to = .error 1 from if_pos (by omega)] at R2
      obtain ⟨rfl, hF2⟩ := R2
      clear hto
      go_wp2
      go_ret2
      exact RetIs.err hX.out rfl (hF1.trans hF2)
    · have hno : ¬ (n < 1 ∨ 8 < n ∨ to < 0 ∨ n ≤ to) := by omega
      have HX2 := Lib.hid (HX.out.trans (if_neg hno))
      rw [show startE n to = .ok _ from if_neg hno] at R2
      obtain ⟨a2, c2, ob2, rfl, hO2, hF2, hN2⟩ := R2
      have hF02 := hF1.trans hF2
      have hN02 : ∀ g, ob2 = some g → w.heap.size ≤ g := fun g h => Nat.le_trans hF1.size (hN2 g h)
      clear hN2 hF2 hF1 HX hno
      by_cases hdn : (d.length : Int) = n
      · subst hdn
        have HX3 := Lib.hid (HX2.out.trans (if_neg (by simp)))
        clear HX2
        simp only [Int.toNat_natCast] at hO2
        obtain ⟨T, rfl⟩ : ∃ T : Nat, to = T := ⟨to.toNat, by omega⟩
        have hT : T < d.length := by omega
        have hd8 : 1 ≤ d.length ∧ d.length ≤ 8 := by omega
        clear hto hn
        have hne : ((d.length : Int) != (d.length : Int)) = false := by simp
        go_wp2
        go_loopw [40] (fun s wr => ∃ k : Nat, k ≤ d.length ∧ s = .int .i64 k ∧ wr = w2 ∧ Hid (∀ x ∈ d.take k, ¬ badD x)) (fun s _ => d.length - (intOf s).toNat)
        case atStart => exact ⟨0, by omega, rfl, rfl, fun x hx => absurd hx (by simp)⟩
        case round =>
          obtain ⟨k, hk, rfl, rfl, hB⟩ := hrel
          by_cases hkl : k < d.length
          · obtain ⟨b, off, rfl, hb, hc⟩ := Ints.pos hD (by omega)
            have c0 := (hF02.cell (p := ⟨b, off + k, none⟩) hb (fun h => h)).trans (hc w rfl k hkl)
            have htk : d.take (k + 1) = d.take k ++ [nth d k] := take_succ_nth d k hkl
            have hmem := nth_mem d k hkl
            have HT := Lib.hid htk
            have HM := Lib.hid hmem
            clear hc htk hmem
            generalize nth d k = x at *
            by_cases hx : x < 0 ∨ 16 < x
            · have hX := Lib.hid (show RE = .error 1 from HX3.out.trans (if_pos ⟨x, HM.out, hx⟩))
              go_wp2
              all_goals go_ret2
              all_goals exact RetIs.err hX.out rfl hF02
            · have h1 : ¬ x < 0 := by omega
              have h2 : ¬ 16 < x := by omega
              have hB' : Hid (∀ y ∈ d.take (k + 1), ¬ badD y) := fun y hy => by
                rw [HT.out] at hy
                rcases List.mem_append.1 hy with hy | hy
                · exact hB.out y hy
                · rw [List.mem_singleton.1 hy]; exact hx
              clear hx
              go_wp2
              go_roundw
              case rel => exact ⟨k + 1, by omega, by go_num, trivial, hB'⟩
              case measure => simp [intOf]; omega
          · obtain rfl : k = d.length := by omega
            have hB0 : ∀ x ∈ d, ¬ badD x := by
              have := hB.out
              rwa [List.take_length] at this
            have hX := Lib.hid (show RE = .ok (l.foldl (bellF d) (startL d.length T)) from HX3.out.trans (if_neg (fun ⟨x, hx, h⟩ => hB0 x hx h)))
            have hdB : ∀ i, i < d.length → 0 ≤ nth d i := fun i hi => by
              have := hB0 _ (nth_mem d i hi)
              unfold badD at this
              omega
            have hdB2 : ∀ i, i < d.length → nth d i ≤ 16 := fun i hi => by
              have := hB0 _ (nth_mem d i hi)
              unfold badD at this
              omega
            have HD := Lib.hid hdB
            have HD2 := Lib.hid hdB2
            clear hB0 hdB hdB2 hB HX3 hk
            go_wp2
            go_loopw [52] (fun s wx => ∃ k : Nat, k ≤ l.length ∧ s = .int .i64 k ∧ Own wx.heap 3 1 a2 d.length c2 (ivals .i64 ((l.take k).foldl (bellF d) (startL d.length T))) ob2 ∧ Fr (fun _ => False) w wx) (fun s _ => l.length - (intOf s).toNat)
            case atStart => exact ⟨0, by omega, rfl, hO2, hF02⟩
            case round =>
              clear hO2 hF02
              obtain ⟨k, hk, rfl, hO, hF⟩ := hrel
              by_cases hkl : k < l.length
              · have hol : ((l.take k).foldl (bellF d) (startL d.length T)).length = d.length := by rw [bells_len, startL_len]
                have hfold : (l.take (k + 1)).foldl (bellF d) (startL d.length T) = bellF d ((l.take k).foldl (bellF d) (startL d.length T)) (nth l k) := by rw [take_succ_nth l k hkl, List.foldl_append]; rfl
                generalize (l.take k).foldl (bellF d) (startL d.length T) = o at *
                obtain ⟨b, off, rfl, hb, hc⟩ := Recs.pos hL Lk.cells_len (by omega) (by omega)
                obtain ⟨x, hx⟩ : ∃ x, x = nth l k := ⟨_, rfl⟩
                have e0 : wr.cell? ⟨b, off + k * 3, none⟩ = some (.int .i64 x.a) := by rw [hx]; exact (hF.cell (p := ⟨b, off + k * 3, none⟩) hb (fun h => h)).trans (hc w rfl k 0 hkl (by omega))
                have e1 : wr.cell? ⟨b, off + k * 3 + 1, none⟩ = some (.int .i64 x.b) := by rw [hx]; exact (hF.cell (p := ⟨b, off + k * 3 + 1, none⟩) hb (fun h => h)).trans (hc w rfl k 1 hkl (by omega))
                have e2 : wr.cell? ⟨b, off + k * 3 + 2, none⟩ = some (.int .i64 x.c) := by rw [hx]; exact (hF.cell (p := ⟨b, off + k * 3 + 2, none⟩) hb (fun h => h)).trans (hc w rfl k 2 hkl (by omega))
                clear hc
                obtain ⟨hg1, hg2⟩ := HOK.out x (by rw [hx]; exact nth_mem l k hkl)
                rw [← hx] at hfold
                have HFO := Lib.hid hfold
                clear hfold hx
                obtain ⟨xa, xb, xc⟩ := x
                unfold Lk.bad at hg1
                simp only at e0 e1 e2 hg1 hg2
                obtain ⟨xa, rfl⟩ := Int.eq_ofNat_of_zero_le (show 0 ≤ xa by omega)
                obtain ⟨xb, rfl⟩ := Int.eq_ofNat_of_zero_le (show 0 ≤ xb by omega)
                have ha : xa < d.length := by omega
                have hb' : xb < d.length := by omega
                have hc1 : 1 ≤ xc := by omega
                have hc15 : xc ≤ 15 := by omega
                have hne1 : ¬ xa = xb := fun h => hg2 (by rw [h])
                have hne2 : ¬ xb = xa := fun h => hg2 (by rw [h])
                clear hg1 hg2
                obtain ⟨bd, od, rfl, hbd, hcd⟩ := Ints.pos hD (by omega)
                have da := (hF.cell (p := ⟨bd, od + xa, none⟩) hbd (fun h => h)).trans (hcd w rfl xa ha)
                have db := (hF.cell (p := ⟨bd, od + xb, none⟩) hbd (fun h => h)).trans (hcd w rfl xb hb')
                have ya := HD.out xa ha
                have yb := HD.out xb hb'
                have za := HD2.out xa ha
                have zb := HD2.out xb hb'
                obtain ⟨g, rfl, rfl, hg, hco, hfo⟩ := hO.pos (by omega)
                have oa := (hco xa (by omega)).trans (ivals_get .i64 o xa (by omega))
                have ob := (hco xb (by omega)).trans (ivals_get .i64 o xb (by omega))
                have fa := hfo xa
                have fb := hfo xb
                have hgn := hN02 g rfl
                have hset : ∀ u v : Int, Own ((wr.setCell ⟨g, xa, none⟩ (.int .i64 u)).setCell ⟨g, xb, none⟩ (.int .i64 v)).heap 3 1 (some ⟨g, 0, none⟩) d.length c2 (ivals .i64 ((o.set xa u).set xb v)) (some g) := fun u v => by
                  have := (hO.set rfl xa (.int .i64 u)).set rfl xb (.int .i64 v)
                  rwa [show ((ivals .i64 o).set xa (.int .i64 u)).set xb (.int .i64 v) = ivals .i64 ((o.set xa u).set xb v) by simp [ivals, List.map_set]] at this
                have HS := Lib.hid hset
                have lbd : bd < wr.heap.size := by have := hF.size; omega
                have lb : b < wr.heap.size := by have := hF.size; omega
                have hgd : ¬ bd = g := by omega
                have hbg : bellF d o ⟨xa, xb, xc⟩ = (o.set xa (imn (nth o xa) (xc + nth d xb))).set xb (imn (nth o xb) (xc + nth d xa)) := by simp [bellF]
                have HBG := Lib.hid hbg
                clear hset hcd hco hfo hO hbg hN02 hol
                generalize nth o xa = va at *
                generalize nth o xb = vb at *
                generalize nth d xa = pa at *
                generalize nth d xb = pb at *
                have HN := Lib.hid hgn
                clear hgn
                by_cases hm1 : va ≤ xc + pb
                · have HM1 := Lib.hid (show imn va (xc + pb) = va from if_pos hm1)
                  by_cases hm2 : vb ≤ xc + pa
                  · have HM2 := Lib.hid (show imn vb (xc + pa) = vb from if_pos hm2)
                    go_wp2
                    (refine wp_region_mix (fun _ => True) 17 (by kernel_rfl) (by kernel_rfl) (trivial) ?_; simp only [List.take_succ_cons, List.take_zero, List.drop_succ_cons, List.drop_zero])
                    (refine wpMix_earlyN 17 (by kernel_rfl) (by kernel_rfl) ?_; simp only [List.take_succ_cons, List.take_zero, List.drop_succ_cons, List.drop_zero]; (repeat (go_big_quiet_step (fail))); refine wpQuiet_nil ?_)
                    refine wpMix_nil ?_
                    go_wp2
                    (refine wp_region_mix (fun _ => True) 17 (by kernel_rfl) (by kernel_rfl) (trivial) ?_; simp only [List.take_succ_cons, List.take_zero, List.drop_succ_cons, List.drop_zero])
                    (refine wpMix_earlyN 17 (by kernel_rfl) (by kernel_rfl) ?_; simp only [List.take_succ_cons, List.take_zero, List.drop_succ_cons, List.drop_zero]; (repeat (go_big_quiet_step (fail))); refine wpQuiet_nil ?_)
                    refine wpMix_nil ?_
                    go_wp2
                    go_roundw
                    case rel => exact ⟨k + 1, by omega, by go_num, by rw [HFO.out, HBG.out, HM1.out, HM2.out]; exact (HS.out _ _).alloc _, (((hF.setCell (fun h => by have := HN.out; simp only at h; omega) _).setCell (fun h => by have := HN.out; simp only at h; omega) _).alloc _).drew.drew⟩
                    case measure => simp [intOf]; omega
                  · have HM2 := Lib.hid (show imn vb (xc + pa) = xc + pa from if_neg hm2)
                    go_wp2
                    (refine wp_region_mix (fun _ => True) 17 (by kernel_rfl) (by kernel_rfl) (trivial) ?_; simp only [List.take_succ_cons, List.take_zero, List.drop_succ_cons, List.drop_zero])
                    (refine wpMix_earlyN 17 (by kernel_rfl) (by kernel_rfl) ?_; simp only [List.take_succ_cons, List.take_zero, List.drop_succ_cons, List.drop_zero]; (repeat (go_big_quiet_step (fail))); refine wpQuiet_nil ?_)
                    refine wpMix_nil ?_
                    go_wp2
                    (refine wp_region_mix (fun _ => True) 17 (by kernel_rfl) (by kernel_rfl) (trivial) ?_; simp only [List.take_succ_cons, List.take_zero, List.drop_succ_cons, List.drop_zero])
                    (refine wpMix_earlyN 17 (by kernel_rfl) (by kernel_rfl) ?_; simp only [List.take_succ_cons, List.take_zero, List.drop_succ_cons, List.drop_zero]; (repeat (go_big_quiet_step (fail))); refine wpQuiet_nil ?_)
                    refine wpMix_nil ?_
                    go_wp2
                    go_roundw
                    case rel => exact ⟨k + 1, by omega, by go_num, by rw [HFO.out, HBG.out, HM1.out, HM2.out]; exact (HS.out _ _).alloc _, (((hF.setCell (fun h => by have := HN.out; simp only at h; omega) _).setCell (fun h => by have := HN.out; simp only at h; omega) _).alloc _).drew.drew⟩
                    case measure => simp [intOf]; omega
                · have HM1 := Lib.hid (show imn va (xc + pb) = xc + pb from if_neg hm1)
                  by_cases hm2 : vb ≤ xc + pa
                  · have HM2 := Lib.hid (show imn vb (xc + pa) = vb from if_pos hm2)
                    go_wp2
                    (refine wp_region_mix (fun _ => True) 17 (by kernel_rfl) (by kernel_rfl) (trivial) ?_; simp only [List.take_succ_cons, List.take_zero, List.drop_succ_cons, List.drop_zero])
                    (refine wpMix_earlyN 17 (by kernel_rfl) (by kernel_rfl) ?_; simp only [List.take_succ_cons, List.take_zero, List.drop_succ_cons, List.drop_zero]; (repeat (go_big_quiet_step (fail))); refine wpQuiet_nil ?_)
                    refine wpMix_nil ?_
                    go_wp2
                    (refine wp_region_mix (fun _ => True) 17 (by kernel_rfl) (by kernel_rfl) (trivial) ?_; simp only [List.take_succ_cons, List.take_zero, List.drop_succ_cons, List.drop_zero])
                    (refine wpMix_earlyN 17 (by kernel_rfl) (by kernel_rfl) ?_; simp only [List.take_succ_cons, List.take_zero, List.drop_succ_cons, List.drop_zero]; (repeat (go_big_quiet_step (fail))); refine wpQuiet_nil ?_)
                    refine wpMix_nil ?_
                    go_wp2
                    go_roundw
                    case rel => exact ⟨k + 1, by omega, by go_num, by rw [HFO.out, HBG.out, HM1.out, HM2.out]; exact (HS.out _ _).alloc _, (((hF.setCell (fun h => by have := HN.out; simp only at h; omega) _).setCell (fun h => by have := HN.out; simp only at h; omega) _).alloc _).drew.drew⟩
                    case measure => simp [intOf]; omega
                  · have HM2 := Lib.hid (show imn vb (xc + pa) = xc + pa from if_neg hm2)
                    go_wp2
                    (refine wp_region_mix (fun _ => True) 17 (by kernel_rfl) (by kernel_rfl) (trivial) ?_; simp only [List.take_succ_cons, List.take_zero, List.drop_succ_cons, List.drop_zero])
                    (refine wpMix_earlyN 17 (by kernel_rfl) (by kernel_rfl) ?_; simp only [List.take_succ_cons, List.take_zero, List.drop_succ_cons, List.drop_zero]; (repeat (go_big_quiet_step (fail))); refine wpQuiet_nil ?_)
                    refine wpMix_nil ?_
                    go_wp2
                    (refine wp_region_mix (fun _ => True) 17 (by kernel_rfl) (by kernel_rfl) (trivial) ?_; simp only [List.take_succ_cons, List.take_zero, List.drop_succ_cons, List.drop_zero])
                    (refine wpMix_earlyN 17 (by kernel_rfl) (by kernel_rfl) ?_; simp only [List.take_succ_cons, List.take_zero, List.drop_succ_cons, List.drop_zero]; (repeat (go_big_quiet_step (fail))); refine wpQuiet_nil ?_)
                    refine wpMix_nil ?_
                    go_wp2
                    go_roundw
                    case rel => exact ⟨k + 1, by omega, by go_num, by rw [HFO.out, HBG.out, HM1.out, HM2.out]; exact (HS.out _ _).alloc _, (((hF.setCell (fun h => by have := HN.out; simp only at h; omega) _).setCell (fun h => by have := HN.out; simp only at h; omega) _).alloc _).drew.drew⟩
                    case measure => simp [intOf]; omega
              · obtain rfl : k = l.length := by omega
                rw [List.take_length] at hO
                go_wp2
                go_ret2
                exact RetIs.ok hX.out rfl (by simpa using hO) hF hN02
      · have hX := Lib.hid (show RE = .error 3 from HX2.out.trans (if_pos hdn))
        have hne : ((d.length : Int) != n) = true := by simpa using hdn
        clear hdn
        go_wp2
        go_ret2
        exact RetIs.err hX.out rfl hF02
end Go.Proofs.YtakkljdeencfbaaDoor
