import Derived.Test.YtoenopfmlgapbaaRibOwn
import Derived.Deep.CutBlock
import Derived.Deep.DeepCutAuto
namespace Go.Proofs.Ytoenopfmlgapbaa
open Go.RowKit

theorem rAged_0 {l : List Td} (h : RibOk 0 l) : rAged 0 l = l := by
  have hx : ∀ x ∈ l, age1 0 x = some x := fun x hx => by
    obtain ⟨_, _, _, _, h5, h6, _, _, _, _⟩ := h.each x hx
    by_cases hm : x.m < 16
    · exact age1_live hm (by omega)
    · rw [age1_dead hm, if_pos (by omega)]
  unfold rAged
  clear h
  induction l with
  | nil => rfl
  | cons x l ih => rw [List.filterMap_cons, hx x (by simp)]; simp only; rw [ih (fun y hy => hx y (by simp [hy]))]
theorem loseE_0 {l : List Td} (h : RibOk 0 l) (f : Int) : (loseE 0 l f 0 = .error 1) ∨ (loseE 0 l f 0 = .ok (l.map (lose1 f 0))) := by
  unfold loseE
  by_cases hc : ckErr 0 f 0
  · exact .inl (if_pos hc)
  · right; rw [if_neg hc, rLost, rAged_0 h]
theorem lose1_same {f : Int} {x : Td} (h : x.f ≠ f) : lose1 f 0 x = x := if_neg (fun h' => h h'.1)
theorem lose1_lost {f : Int} {x : Td} (h : x.f = f) (h1 : x.m ≤ 16) : (lose1 f 0 x).m = 16 := by
  unfold lose1
  by_cases h2 : x.m < 16
  · rw [if_pos ⟨h, h2⟩]
  · rw [if_neg (fun h' => h2 h'.2)]; omega

set_option maxRecDepth 100000 in
set_option maxHeartbeats 4000000 in
theorem ribOrder_any (fs : List Int) (ns : List Nt) (ms : List Int) (af an am : Option Addr) (cf cn cm : Nat) (fr ot : Int) (w : World) (hf : Ints w.heap af fs) (hn : Recs w.heap an 2 Nt.cells ns) (hm : Ints w.heap am ms)
    (hnw : ∀ x ∈ ns, Nt.wf x) (lf : fs.length ≤ 9223372036854775807) (ln : ns.length ≤ 9223372036854775807) (lm : ms.length ≤ 9223372036854775807) :
    Calls Try.prog 7 #[.slice af fs.length cf, .slice an ns.length cn, .slice am ms.length cm, .int .i64 fr, .int .i64 ot] w (RetV w (.bool true)) := by
  go_enter Try.func7, Try.ntmps7
  go_wp2_with (go_at_call 17; refine (learnt_any _).mono ?_)
  intro e0 w0 R0
  obtain ⟨rfl, hF0⟩ := R0
  have k1 := IsRib.new' w0 (w0.heap.size + 1) (by omega)
  go_upto_block 0 with (go_at_call 13; refine (ribNew_any _).mono ?_; rintro e w' ⟨rfl, rfl⟩)
  go_cut [12] (fun s12 wx => ∃ l : List Td, s12 = .pointer (some ⟨w0.heap.size, 0, none⟩) ∧ IsRib wx.heap (w0.heap.size + 1) w0.heap.size 0 l ∧ RibOk 0 l ∧ Fr (fun _ => False) w0 wx ∧ w0.heap.size + 1 ≤ wx.heap.size)
  case first =>
    go_wp2
    go_loopw [13] (fun s13 wr => ∃ (k : Nat) (l : List Td), k ≤ least3 fs.length ns.length ms.length ∧ s13 = .int .i64 k ∧ IsRib wr.heap (w0.heap.size + 1) w0.heap.size 0 l ∧ RibOk 0 l ∧ Fr (fun _ => False) w0 wr ∧ w0.heap.size + 1 ≤ wr.heap.size) (fun s _ => least3 fs.length ns.length ms.length - (intOf s).toNat)
    case atStart => exact ⟨0, [], by omega, rfl, k1, ribOk_nil, (Fr.refl _ _).alloc _, by simp⟩
    case round =>
      obtain ⟨k, l, hk, rfl, hP, hok, hF, hs⟩ := hrel
      have hFw := hF0.trans hF
      clear k1
      by_cases hkl : k < least3 fs.length ns.length ms.length
      · obtain ⟨k1, k2, k3⟩ := least3_lt.1 hkl
        obtain ⟨bf, of, rfl, hbf, hcf⟩ := Ints.pos hf (by omega)
        obtain ⟨bn, on, rfl, hbn, hcn⟩ := Recs.pos hn Nt.cells_len (by omega) (by omega)
        obtain ⟨bm, om, rfl, hbm, hcm⟩ := Ints.pos hm (by omega)
        have c0 := (hFw.cell (p := ⟨bf, of + k, none⟩) hbf (fun h => h)).trans (hcf w rfl k k1)
        have c1 := (hFw.cell (p := ⟨bn, on + (k * 2 + 0), none⟩) hbn (fun h => h)).trans (hcn w rfl k 0 k2 (by omega))
        have c2 := (hFw.cell (p := ⟨bn, on + (k * 2 + 1), none⟩) hbn (fun h => h)).trans (hcn w rfl k 1 k2 (by omega))
        have c3 := (hFw.cell (p := ⟨bm, om + k, none⟩) hbm (fun h => h)).trans (hcm w rfl k k3)
        have hx := hnw _ (nth_mem ns k k2)
        clear hcf hcn hcm
        generalize nth fs k = f at *
        generalize nth ms k = m at *
        generalize nth ns k = y at *
        obtain ⟨xa, xn⟩ := y
        simp only [Nt.cells, List.getElem?_cons_zero, List.getElem?_cons_succ, ← Nat.add_assoc, Nat.add_zero] at c1 c2
        have HK := Lib.hid (show k < least3 fs.length ns.length ms.length from hkl)
        clear hkl
        go_wp2
        (refine wp_region_mix (fun _ => True) 13 (by kernel_rfl) (by kernel_rfl) (trivial) ?_; simp only [List.take_succ_cons, List.take_zero, List.drop_succ_cons, List.drop_zero])
        (refine wpMix_earlyN 13 (by kernel_rfl) (by kernel_rfl) ?_; simp only [List.take_succ_cons, List.take_zero, List.drop_succ_cons, List.drop_zero]; (repeat (go_big_quiet_step (fail))); refine wpQuiet_nil ?_)
        refine wpMix_nil ?_
        have hPD : IsRib wr.drew.heap (w0.heap.size + 1) w0.heap.size 0 l := hP
        go_wp2_with (go_at_call 14; refine (learn_any wr.drew hPD hok hs f xa xn m 0 ⟨hx.1, hx.2.1⟩).mono ?_)
        intro e1 w1 R1
        cases hr : learnE 0 l f xa xn m 0 with
        | error q =>
          obtain ⟨rfl, hF1⟩ := R1.errE hr
          have hP1 := hPD.fr0 hF1
          have hs1 : w0.heap.size + 1 ≤ w1.heap.size := Nat.le_trans hs hF1.size
          have hFa := hF.drew.trans hF1
          clear R1 hr
          go_wp2
          go_roundw
          case rel => exact ⟨k + 1, l, HK.out, by go_num, hP1, hok, hFa, hs1⟩
          case measure => have := HK.out; simp [intOf]; omega
        | ok l' =>
          obtain ⟨rfl, hP1, hF1⟩ := R1.okE hr
          have hok1 := (learn_ok hok ⟨hx.1, hx.2.1⟩ hr).1
          have hs1 : w0.heap.size + 1 ≤ w1.heap.size := Nat.le_trans hs hF1.size
          have hFa := hF.drew.trans' hF1 (fun q hq h => by omega)
          clear R1 hr
          go_wp2
          go_roundw
          case rel => exact ⟨k + 1, l', HK.out, by go_num, hP1, hok1, hFa, hs1⟩
          case measure => have := HK.out; simp [intOf]; omega
      · have hend : ¬ (k < fs.length ∧ k < ns.length ∧ k < ms.length) := fun h => hkl (least3_lt.2 h)
        clear hkl hk hf hn hm
        have hend2 : fs.length ≤ k ∨ (k < fs.length ∧ ns.length ≤ k) ∨ (k < fs.length ∧ k < ns.length ∧ ms.length ≤ k) := by omega
        clear hend
        rcases hend2 with h1 | ⟨h1, h2⟩ | ⟨h1, h2, h3⟩
        all_goals
          go_wp2
          go_meet
          case rel => exact ⟨l, rfl, hP, hok, hF, hs⟩
  case rest =>
    obtain ⟨l, rfl, hP, hok, hF, hs⟩ := hcut
    have hFw := hF0.trans hF
    have hll := hok.len
    clear hf hn hm k1
    go_wp2_with (go_at_call 15; refine (ribList_any _ hP hll).mono ?_)
    intro e4 w4 R4
    obtain ⟨a4, c4, ob4, rfl, hO4, hF4, hN4⟩ := R4
    have hP4 := hP.fr0 hF4
    have hs4 : w0.heap.size + 1 ≤ w4.heap.size := Nat.le_trans hs hF4.size
    go_wp2_with (go_at_call 19; refine (lose_E w4 hP4 hok hs4 fr 0).mono ?_)
    intro e5 w5 R5
    rcases loseE_0 hok fr with hls | hls
    · obtain ⟨rfl, hF5⟩ := R5.errE hls
      have hP5 := hP4.fr0 hF5
      clear hls R5
      go_wp2_with (go_at_call 15; refine (ribList_any _ hP5 hll).mono ?_)
      intro e6 w6 R6
      obtain ⟨a6, c6, ob6, rfl, hO6, hF6, hN6⟩ := R6
      have hr4 := rdHd hO6 rfl
      have hr5 := rdHd (hO4.fr (hF5.trans hF6) (fun _ _ h => h)) rfl
      go_wp2_with (go_at_call 16; refine (sheard_any (l.map Td.hd) (l.map Td.hd) a6 a4 c6 c4 w6 hr4 hr5 (by rw [List.length_map]; omega) (by rw [List.length_map]; omega) (by rw [List.length_map]) (by rw [List.length_map])).mono ?_)
      intro e9 w9 R9
      obtain ⟨rfl, n9, rfl⟩ := R9
      go_wp2
      go_ret
      exact RetV.mk rfl rfl ((((hFw.trans hF4).trans hF5).trans hF6).drewN n9)
    · obtain ⟨rfl, hP5, hF5⟩ := R5.okE hls
      have hs0 := hF0.size
      have hO5 := hO4.fr hF5 (fun g hg h => by have := hN4 g hg; omega)
      have hFw5 := (hFw.trans hF4).trans' hF5 (fun q hq h => by omega)
      have hLl : (l.map (lose1 fr 0)).length = l.length := List.length_map ..
      have hLn : ∀ i, i < l.length → nth (l.map (lose1 fr 0)) i = lose1 fr 0 (nth l i) := fun i hi => nth_map _ _ _ hi
      generalize l.map (lose1 fr 0) = L at *
      have HLL := Lib.hid hLl
      have HLN := Lib.hid hLn
      clear hls R5 hO4 hP4 hP hLl hLn
      go_wp2_with (go_at_call 15; refine (ribList_any _ hP5 (by rw [HLL.out]; exact hll)).mono ?_)
      intro e6 w6 R6
      rw [HLL.out] at R6
      obtain ⟨a6, c6, ob6, rfl, hO6, hF6, hN6⟩ := R6
      have hO7 := hO5.fr hF6 (fun _ _ h => h)
      have hFw6 := hFw5.trans hF6
      have hne : ((l.length : Int) != (l.length : Int)) = false := by simp
      clear hO5 hP5
      go_wp2
      go_loopw [18] (fun s18 wx => ∃ (i : Nat), i ≤ l.length ∧ s18 = .int .i64 i ∧ Fr (fun _ => False) w6 wx) (fun s _ => l.length - (intOf s).toNat)
      case atStart => exact ⟨0, by omega, rfl, Fr.refl _ _⟩
      case round =>
        obtain ⟨i, hi, rfl, hFx⟩ := hrel
        by_cases hil : i < l.length
        · obtain ⟨g4, rfl, rfl, hg4, hc4, -⟩ := hO7.pos (by omega)
          obtain ⟨g6, rfl, rfl, hg6, hc6, -⟩ := hO6.pos (by omega)
          have hp4 : ∀ j, j < 4 → wr.cell? ⟨g4, i * 4 + j, none⟩ = (Td.hcells (nth l i))[j]? := fun j hj => by
            rw [hFx.cell (p := ⟨g4, i * 4 + j, none⟩) hg4 (fun h => h), hc4 _ (by omega), flat_get _ 4 Td.hcells_len _ _ _ hil hj]
          have hp6 : ∀ q j, q < l.length → j < 4 → wr.cell? ⟨g6, q * 4 + j, none⟩ = (Td.hcells (lose1 fr 0 (nth l q)))[j]? := fun q j hq hj => by
            rw [hFx.cell (p := ⟨g6, q * 4 + j, none⟩) hg6 (fun h => h), hc6 _ (by omega), flat_get _ 4 Td.hcells_len _ _ _ (by rw [HLL.out]; exact hq) hj, HLN.out q hq]
          have d0 := hp4 0 (by omega)
          have d1 := hp4 1 (by omega)
          have d2 := hp4 2 (by omega)
          have d3 := hp4 3 (by omega)
          have f0 := hp6 i 0 hil (by omega)
          have f1 := hp6 i 1 hil (by omega)
          have f2 := hp6 i 2 hil (by omega)
          have f3 := hp6 i 3 hil (by omega)
          simp only [Td.hcells, List.getElem?_cons_zero, List.getElem?_cons_succ, Nat.add_zero] at d0 d1 d2 d3 f0 f1 f2 f3
          rw [(lose1_key fr 0 (nth l i)).1] at f0
          rw [(lose1_key fr 0 (nth l i)).2.1] at f1
          rw [(lose1_key fr 0 (nth l i)).2.2] at f2
          have hm16 := (hok.each _ (nth_mem l i hil)).m1
          have hsame : (nth l i).f ≠ fr → (lose1 fr 0 (nth l i)).m = (nth l i).m := fun h => by rw [lose1_same h]
          have hlost : (nth l i).f = fr → (lose1 fr 0 (nth l i)).m = 16 := fun h => lose1_lost h hm16
          have hprev : 0 < i → ∃ p : Td, wr.cell? ⟨g6, (i - 1) * 4, none⟩ = some (.int .i64 p.f) ∧ wr.cell? ⟨g6, (i - 1) * 4 + 1, none⟩ = some (.int .u32 p.a) ∧ wr.cell? ⟨g6, (i - 1) * 4 + 2, none⟩ = some (.int .i64 p.n) ∧ tdAhead p (nth l i).f (nth l i).a (nth l i).n := fun hi0 => by
            have p0 := hp6 (i - 1) 0 (by omega) (by omega)
            have p1 := hp6 (i - 1) 1 (by omega) (by omega)
            have p2 := hp6 (i - 1) 2 (by omega) (by omega)
            simp only [Td.hcells, List.getElem?_cons_zero, List.getElem?_cons_succ, Nat.add_zero] at p0 p1 p2
            refine ⟨_, p0, p1, p2, ?_⟩
            have hlt := List.pairwise_iff_getElem.1 hok.ord (i - 1) i (by omega) hil (by omega)
            have hk := lose1_key fr 0 (nth l (i - 1))
            rw [← nth_eq l (i - 1) (by omega), ← nth_eq l i hil] at hlt
            exact ltd_key hlt hk ⟨rfl, rfl, rfl⟩
          generalize (lose1 fr 0 (nth l i)).m = ym at *
          generalize nth l i = x at *
          obtain ⟨xf, xa, xn, xm, xt⟩ := x
          simp only at d0 d1 d2 d3 f0 f1 f2 f3 hsame hlost hprev
          have HPR := Lib.hid hprev
          clear hc4 hc6 hp4 hp6 hprev hm16
          have hq : ((xf == fr) = true ∧ (xf != fr) = false ∧ (ym != 16) = false) ∨ ((xf == fr) = false ∧ (xf != fr) = true ∧ ym = xm) := by
            by_cases h : xf = fr
            · left; exact ⟨by simp [h], by simp [h], by simp [hlost h]⟩
            · right; exact ⟨by simp [h], by simp [h], hsame h⟩
          have HQ := Lib.hid hq
          clear hsame hlost hq
          by_cases hi0 : 0 < i
          · obtain ⟨⟨pf, pa, pn, pm, pt⟩, p0, p1, p2, hp⟩ := HPR.out hi0
            simp only at p0 p1 p2
            have hpp : (decide (pf < xf) = true) ∨ (decide (pf < xf) = false ∧ (pf == xf) = true ∧ lessB pa pn xa xn = true) := by
              unfold tdAhead at hp
              simp only at hp
              by_cases h : pf < xf
              · exact .inl (decide_eq_true h)
              · rcases hp with h' | ⟨h', h''⟩
                · exact absurd h' h
                · exact .inr ⟨decide_eq_false h, by simp [h'], decide_eq_true h''⟩
            have HPP := Lib.hid hpp
            clear hp hpp
            rcases HQ.out with ⟨r0, r1, r2⟩ | ⟨r0, r1, rfl⟩
            all_goals
              go_wp2
              go_quiet (fail)
              rcases HPP.out with t0 | ⟨t0, t1, t2⟩
              · go_wp2
                (refine wp_region_mix (fun _ => True) 40 (by kernel_rfl) (by kernel_rfl) (trivial) ?_; simp only [List.take_succ_cons, List.take_zero, List.drop_succ_cons, List.drop_zero])
                (refine wpMix_earlyN 40 (by kernel_rfl) (by kernel_rfl) ?_; simp only [List.take_succ_cons, List.take_zero, List.drop_succ_cons, List.drop_zero]; (repeat (go_big_quiet_step (fail))); refine wpQuiet_nil ?_)
                refine wpMix_nil ?_
                go_wp2
                go_roundw
                case rel => exact ⟨i + 1, by omega, by go_num, (hFx.drewN nq).drew⟩
                case measure => simp [intOf]; omega
              · go_wp2
                (refine wp_region_mix (fun _ => True) 40 (by kernel_rfl) (by kernel_rfl) (trivial) ?_; simp only [List.take_succ_cons, List.take_zero, List.drop_succ_cons, List.drop_zero])
                (refine wpMix_earlyN 40 (by kernel_rfl) (by kernel_rfl) ?_; simp only [List.take_succ_cons, List.take_zero, List.drop_succ_cons, List.drop_zero]; (repeat (go_big_quiet_step (fail))); refine wpQuiet_nil ?_)
                refine wpMix_nil ?_
                go_wp2_with (go_at_call 20; refine (less_any pa pn xa xn _).mono ?_)
                intro e8 w8 R8
                rw [t2] at R8
                obtain ⟨rfl, hF8⟩ := R8
                go_wp2
                go_roundw
                case rel => exact ⟨i + 1, by omega, by go_num, (hFx.drewN nq).drew.trans hF8⟩
                case measure => simp [intOf]; omega
          · rcases HQ.out with ⟨r0, r1, r2⟩ | ⟨r0, r1, rfl⟩
            all_goals
              go_wp2
              go_quiet (fail)
              go_wp2
              (refine wp_region_mix (fun _ => True) 40 (by kernel_rfl) (by kernel_rfl) (trivial) ?_; simp only [List.take_succ_cons, List.take_zero, List.drop_succ_cons, List.drop_zero])
              (refine wpMix_earlyN 40 (by kernel_rfl) (by kernel_rfl) ?_; simp only [List.take_succ_cons, List.take_zero, List.drop_succ_cons, List.drop_zero]; (repeat (go_big_quiet_step (fail))); refine wpQuiet_nil ?_)
              refine wpMix_nil ?_
              go_wp2
              go_roundw
              case rel => exact ⟨i + 1, by omega, by go_num, (hFx.drewN nq).drew⟩
              case measure => simp [intOf]; omega
        · go_wp2
          go_ret
          exact RetV.mk rfl rfl (hFw6.trans hFx)
end Go.Proofs.Ytoenopfmlgapbaa
