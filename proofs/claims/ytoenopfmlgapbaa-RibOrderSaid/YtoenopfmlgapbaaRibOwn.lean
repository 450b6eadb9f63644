import Derived.Test.YtoenopfmlgapbaaRibSteps
namespace Go.Proofs.Ytoenopfmlgapbaa
open Go.RowKit

set_option maxRecDepth 100000 in
set_option maxHeartbeats 4000000 in
theorem ribOwn_any (fs : List Int) (ns : List Nt) (ms : List Int) (af an am : Option Addr) (cf cn cm : Nat) (x : Int) (w : World) (hf : Ints w.heap af fs) (hn : Recs w.heap an 2 Nt.cells ns) (hm : Ints w.heap am ms)
    (hnw : ∀ x ∈ ns, Nt.wf x) (lf : fs.length ≤ 9223372036854775807) (ln : ns.length ≤ 9223372036854775807) (lm : ms.length ≤ 9223372036854775807) :
    Calls Try.prog 4 #[.slice af fs.length cf, .slice an ns.length cn, .slice am ms.length cm, .int .i64 x] w (RetV w (.bool true)) := by
  have k1 := IsRib.new' w (w.heap.size + 1) (by omega)
  go_enter Try.func4, Try.ntmps4
  go_wp2_with (go_at_call 13; refine (ribNew_any _).mono ?_; rintro e w' ⟨rfl, rfl⟩)
  go_wp2_with (go_at_call 14; refine (learn_any _ k1 ribOk_nil (by simp) 1 0 0 5 0 (by decide)).mono ?_)
  intro e1 w1 R1
  obtain ⟨rfl, k2, hF1⟩ := R1.okE learn_one
  have hs1 : w.heap.size + 1 ≤ w1.heap.size := by have := hF1.size; simpa using this
  have hFw1 : Fr (fun _ => False) w w1 := ((Fr.refl _ w).alloc _).trans' hF1 (fun q hq h => by omega)
  clear k1 R1
  go_wp2_with (go_at_call 15; refine (ribList_any _ k2 (by simp)).mono ?_)
  intro e2 w2 R2
  obtain ⟨a2, c2, ob2, rfl, hO2, hF2, hN2⟩ := R2
  have hFw2 := hFw1.trans hF2
  have k3 := k2.fr0 hF2
  have hs2 : w.heap.size + 1 ≤ w2.heap.size := Nat.le_trans hs1 hF2.size
  have hok1 : RibOk 0 [⟨1, 0, 0, 5, 0⟩] := (learn_ok ribOk_nil (by decide) learn_one).1
  clear hO2 hN2 hF1 hF2 k2 hs1 hFw1
  go_wp2
  go_loopw [10] (fun s10 wr => ∃ (k : Nat) (l : List Td), k ≤ least3 fs.length ns.length ms.length ∧ s10 = .int .i64 k ∧ IsRib wr.heap (w.heap.size + 1) w.heap.size 0 l ∧ RibOk 0 l ∧ Fr (fun _ => False) w wr ∧ w.heap.size + 1 ≤ wr.heap.size) (fun s _ => least3 fs.length ns.length ms.length - (intOf s).toNat)
  case atStart => exact ⟨0, _, by omega, rfl, k3, hok1, hFw2, hs2⟩
  case round =>
    obtain ⟨k, l, hk, rfl, hP, hok, hF, hs⟩ := hrel
    clear k3 hok1 hs2
    by_cases hkl : k < least3 fs.length ns.length ms.length
    · obtain ⟨k1, k2, k3⟩ := least3_lt.1 hkl
      obtain ⟨bf, of, rfl, hbf, hcf⟩ := Ints.pos hf (by omega)
      obtain ⟨bn, on, rfl, hbn, hcn⟩ := Recs.pos hn Nt.cells_len (by omega) (by omega)
      obtain ⟨bm, om, rfl, hbm, hcm⟩ := Ints.pos hm (by omega)
      have c0 := (hF.cell (p := ⟨bf, of + k, none⟩) hbf (fun h => h)).trans (hcf w rfl k k1)
      have c1 := (hF.cell (p := ⟨bn, on + (k * 2 + 0), none⟩) hbn (fun h => h)).trans (hcn w rfl k 0 k2 (by omega))
      have c2 := (hF.cell (p := ⟨bn, on + (k * 2 + 1), none⟩) hbn (fun h => h)).trans (hcn w rfl k 1 k2 (by omega))
      have c3 := (hF.cell (p := ⟨bm, om + k, none⟩) hbm (fun h => h)).trans (hcm w rfl k k3)
      have hx := hnw _ (nth_mem ns k k2)
      clear hcf hcn hcm
      generalize nth fs k = f at *
      generalize nth ms k = m at *
      generalize nth ns k = y at *
      obtain ⟨xa, xn⟩ := y
      simp only [Nt.cells, List.getElem?_cons_zero, List.getElem?_cons_succ, ← Nat.add_assoc, Nat.add_zero] at c1 c2
      have HK := Lib.hid (show k < least3 fs.length ns.length ms.length from hkl)
      clear hkl
      go_wp2
      (refine wp_region_mix (fun _ => True) 13 (by kernel_rfl) (by kernel_rfl) (trivial) ?_; simp only [List.take_succ_cons, List.take_zero, List.drop_succ_cons, List.drop_zero])
      (refine wpMix_earlyN 13 (by kernel_rfl) (by kernel_rfl) ?_; simp only [List.take_succ_cons, List.take_zero, List.drop_succ_cons, List.drop_zero]; (repeat (go_big_quiet_step (fail))); refine wpQuiet_nil ?_)
      refine wpMix_nil ?_
      have hPD : IsRib wr.drew.heap (w.heap.size + 1) w.heap.size 0 l := hP
      go_wp2_with (go_at_call 14; refine (learn_any wr.drew hPD hok hs f xa xn m 0 ⟨hx.1, hx.2.1⟩).mono ?_)
      intro e1 w1 R1
      cases hr : learnE 0 l f xa xn m 0 with
      | error q =>
        obtain ⟨rfl, hF1⟩ := R1.errE hr
        have hP1 := hPD.fr0 hF1
        have hs1 : w.heap.size + 1 ≤ w1.heap.size := Nat.le_trans hs hF1.size
        have hFa := hF.drew.trans hF1
        clear R1 hr
        go_wp2
        go_roundw
        case rel => exact ⟨k + 1, l, HK.out, by go_num, hP1, hok, hFa, hs1⟩
        case measure => have := HK.out; simp [intOf]; omega
      | ok l' =>
        obtain ⟨rfl, hP1, hF1⟩ := R1.okE hr
        have hok1 := (learn_ok hok ⟨hx.1, hx.2.1⟩ hr).1
        have hs1 : w.heap.size + 1 ≤ w1.heap.size := Nat.le_trans hs hF1.size
        have hFa := hF.drew.trans' hF1 (fun q hq h => by omega)
        clear R1 hr
        go_wp2
        go_roundw
        case rel => exact ⟨k + 1, l', HK.out, by go_num, hP1, hok1, hFa, hs1⟩
        case measure => have := HK.out; simp [intOf]; omega
    · have hend : ¬ (k < fs.length ∧ k < ns.length ∧ k < ms.length) := fun h => hkl (least3_lt.2 h)
      clear hkl hk hf hn hm
      have hend2 : fs.length ≤ k ∨ (k < fs.length ∧ ns.length ≤ k) ∨ (k < fs.length ∧ k < ns.length ∧ ms.length ≤ k) := by omega
      clear hend
      have hll := hok.len
      have hP0 := hP.fr0 ((Fr.refl (fun _ => False) wr).alloc (.cells #[] 34))
      have hO0 := Own.made wr 34 4 0 [] rfl (by decide)
      rcases hend2 with h1 | ⟨h1, h2⟩ | ⟨h1, h2, h3⟩
      all_goals
        go_wp2_with (go_at_call 15; refine (ribList_any _ hP0 hll).mono ?_)
        intro e4 w4 R4
        obtain ⟨a4, c4, ob4, rfl, hO4, hF4, hN4⟩ := R4
        have hP4 := hP0.fr0 hF4
        have hO5 := hO0.fr hF4 (fun _ _ h => h)
        have hone : ∀ u ∈ l.flatMap Td.hcells, u.oneCell' = true := fun u hu => by
          obtain ⟨y, _, hy⟩ := List.mem_flatMap.1 hu
          exact hd_one y u hy
        go_wp2_with (at_builtin; refine wpList_app rfl _ _ 31 rfl Try.underlying31 infoHd rfl (by decide) rfl rfl hO5 hO4.rd hone (by omega) (by omega) ?_)
        intro a6 c6 w6 ob6 z1 z2 z3
        have hF6 : Fr (fun _ => False) wr w6 := (((Fr.refl (fun _ => False) wr).alloc (.cells #[] 34)).trans hF4).trans' z2 (fun q hq h => by omega)
        have hP6 := hP.fr0 hF6
        clear hO5 hP4 hO4 z2 z3 hone
        go_wp2_with (go_at_call 15; refine (ribList_any _ hP6 hll).mono ?_)
        intro e7 w7 R7
        obtain ⟨a7, c7, ob7, rfl, hO7, hF7, hN7⟩ := R7
        have HZ1 := Lib.hid z1
        obtain ⟨XS, hXS⟩ : ∃ XS, XS = l.flatMap Td.hcells := ⟨_, rfl⟩
        rw [← hXS] at hO7
        have hXl : XS.length = l.length * 4 := by rw [hXS, flat_len _ _ Td.hcells_len]
        have HXL := Lib.hid hXl
        clear hXS hXl z1
        go_wp2
        go_loopw [13] (fun s13 wx => ∃ (i : Nat) (ys : List Value), i ≤ l.length ∧ s13 = .int .i64 i ∧ Own wx.heap 34 4 a7 l.length c7 ys ob7 ∧ Fr (fun _ => False) w6 wx) (fun s _ => l.length - (intOf s).toNat)
        case atStart => exact ⟨0, XS, by omega, rfl, hO7, hF7⟩
        case round =>
          clear hO7
          obtain ⟨i, ys, hi, rfl, hY, hFx⟩ := hrel
          by_cases hil : i < l.length
          · obtain ⟨g, rfl, rfl, hg, hc, hfz⟩ := hY.pos (by omega)
            have hlen := hY.len
            have d3 := hc (i * 4 + 3) (by omega)
            obtain ⟨u, hu⟩ : ∃ u, ys[i * 4 + 3]? = some u := ⟨_, List.getElem?_eq_getElem (by omega)⟩
            rw [hu] at d3
            have f3 := hfz (i * 4 + 3)
            have hset := hY.set rfl (i * 4 + 3) (.int .i64 x)
            have hgn := hN7 g rfl
            clear hc hfz hlen hu
            go_wp2
            go_roundw
            case rel => exact ⟨i + 1, _, by omega, by go_num, hset, hFx.setCell (fun h => by simp only at h; omega) _⟩
            case measure => simp [intOf]; omega
          · obtain rfl : i = l.length := by omega
            have hPx := hP6.fr0 hFx
            have hOx := HZ1.out.fr hFx (fun _ _ h => h)
            go_wp2_with (go_at_call 15; refine (ribList_any _ hPx hll).mono ?_)
            intro e8 w8 R8
            obtain ⟨a8, c8, ob8, rfl, hO8, hF8, hN8⟩ := R8
            have hr4 := rdHd hO8 rfl
            have hr5 := rdHd (hOx.fr hF8 (fun _ _ h => h)) rfl
            go_wp2_with (go_at_call 16; refine (sheard_any (l.map Td.hd) (l.map Td.hd) a8 a6 c8 c6 w8 hr4 hr5 (by rw [List.length_map]; omega) (by rw [List.length_map]; omega) (by rw [List.length_map]) (by rw [List.length_map])).mono ?_)
            intro e9 w9 R9
            obtain ⟨rfl, n9, rfl⟩ := R9
            go_wp2
            go_ret
            exact RetV.mk rfl rfl ((((hF.trans hF6).trans hFx).trans hF8).drewN n9)
end Go.Proofs.Ytoenopfmlgapbaa
