/- GaoOwn's walk: who writes into a way that was told changes no other one, and nothing that is told later; at every n, deals and node. -/
import Derived.Test.YtbmeeglehbaggaaGaoUp
import Derived.Test.YtbmeeglehbaggaaIntsOwn
import Derived.Test.YtbmeeglehbaggaaSame
namespace Go.Proofs.Ytbmeeglehbaggaa
open Go.RowKit

set_option maxRecDepth 100000 in
set_option maxHeartbeats 1000000 in
/-- Two ways that are the same. -/
theorem way_same (t : Int) (p : List Int) (A A' : Option Addr) (C C' X : Nat) (w : World) (hx : Ints w.heap A p) (hy : Ints w.heap A' p) (hX : X = p.length) (hl : X ≤ 100) :
    Calls Try.prog 30 #[.agg #[.int .i64 t, .slice A X C], .agg #[.int .i64 t, .slice A' X C']] w (RetV w (.bool true)) := by
  have hF2 := ((Fr.refl (fun _ => False) w).alloc (.cells #[.int .i64 t, .slice A X C] 65)).alloc (.cells #[.int .i64 t, .slice A' X C'] 65)
  have hi := ints_any' p p A A' C C' ((w.alloc (.cells #[.int .i64 t, .slice A X C] 65)).alloc (.cells #[.int .i64 t, .slice A' X C'] 65)) (hx.fr hF2 (fun _ _ _ h => h)) (hy.fr hF2 (fun _ _ _ h => h)) (by omega) (by omega) hX hX
  rw [decide_eq_true rfl] at hi
  clear hx hy hX
  have e : (t == t) = true := by simp
  go_enter Try.func30, Try.ntmps30
  go_wp2_with (fail)
  refine hi.mono ?_
  intro e1 w1 R1
  obtain ⟨rfl, hF1⟩ := R1.v
  have x0 := (hF1.cell (p := ⟨w.heap.size, 0, none⟩) (by simp; omega) (fun h => h)).trans (show _ = some (Value.int .i64 t) by simp)
  have y0 := (hF1.cell (p := ⟨w.heap.size + 1, 0, none⟩) (by simp) (fun h => h)).trans (show _ = some (Value.int .i64 t) by simp)
  have hs := hF1.size
  rw [World.size_alloc, World.size_alloc] at hs
  have hFe := hF2.trans hF1
  clear hi R1 hF1
  go_wp2
  go_ret
  exact RetV.mk (x := .bool true) rfl rfl hFe
/-- The cells of a way in a block. -/
theorem WsB.cells {w : World} {base gw : Nat} {R : List WyR} (h : WsB base w.heap gw R) {i : Nat} (hi : i < R.length) : w.cell? ⟨gw, i * 2, none⟩ = some (.int .i64 (nth R i).t) ∧ w.cell? ⟨gw, i * 2 + 1, none⟩ = some (.slice (nth R i).A (nth R i).p.length (nth R i).C) :=
  ⟨(h.blk.cell (i * 2 + 0)).trans (flat_get WyR.cells 2 WyR.cells_len R i 0 hi (by omega)), (h.blk.cell (i * 2 + 1)).trans (flat_get WyR.cells 2 WyR.cells_len R i 1 hi (by omega))⟩
theorem WsB.row2 {H : Array Obj} {base gw : Nat} {R : List WyR} (h : WsB base H gw R) {i : Nat} (hi : i < R.length) : Ints H (nth R i).A (nth R i).p := by
  rcases h.row i hi with e | ⟨g, h1, h2, -⟩
  · rw [e]; exact Rd.nil _ _ _
  · exact h2.rd
set_option maxRecDepth 100000 in
set_option maxHeartbeats 2000000 in
/-- Two lists of ways that are the same. -/
theorem ways_same {N b1 b2 g1 g2 c1 c2 : Nat} (R R' : List WyR) (w : World) (h1 : WsB b1 w.heap g1 R) (h2 : WsB b2 w.heap g2 R') (e1 : R.length = N) (e2 : R'.length = N) (hm : R.map WyR.wy = R'.map WyR.wy) (hG : ∀ x ∈ R, x.p.length ≤ 100) (hN : N ≤ 8) :
    Calls Try.prog 31 #[.slice (some ⟨g1, 0, none⟩) N c1, .slice (some ⟨g2, 0, none⟩) N c2] w (RetV w (.bool true)) := by
  have H1 := Lib.hid h1
  have H2 := Lib.hid h2
  have E1 := Lib.hid e1
  have E2 := Lib.hid e2
  have HM := Lib.hid hm
  have HG := Lib.hid hG
  clear h1 h2 e1 e2 hm hG
  go_enter Try.func31, Try.ntmps31
  go_wp2
  go_loopw [5] (fun s5 wr => ∃ k : Nat, k ≤ N ∧ s5 = .int .i64 k ∧ Fr (fun _ => False) w wr) (fun s _ => N - (intOf s).toNat)
  case atStart => exact ⟨0, by omega, rfl, Fr.refl _ _⟩
  case round =>
    obtain ⟨k, hk, rfl, hF⟩ := hrel
    by_cases hkN : k < N
    · have hk1 : k < R.length := by rw [E1.out]; exact hkN
      have hk2 : k < R'.length := by rw [E2.out]; exact hkN
      obtain ⟨x0, x1⟩ := (H1.out.fr0 hF).cells hk1
      obtain ⟨y0, y1⟩ := (H2.out.fr0 hF).cells hk2
      have hix := (H1.out.fr0 hF).row2 hk1
      have hiy := (H2.out.fr0 hF).row2 hk2
      have hl1 := (H1.out.fr0 hF).blk.lt
      have hl2 := (H2.out.fr0 hF).blk.lt
      have hg := HG.out _ (nth_mem R k hk1)
      have he : (nth R k).wy = (nth R' k).wy := by
        have : nth (R.map WyR.wy) k = nth (R'.map WyR.wy) k := by rw [HM.out]
        rwa [nth_map _ _ _ hk1, nth_map _ _ _ hk2] at this
      generalize nth R k = x at *
      generalize nth R' k = y at *
      obtain ⟨xt, xp, xA, xC⟩ := x
      obtain ⟨yt, yp, yA, yC⟩ := y
      simp only [WyR.wy, Wy.mk.injEq] at he
      obtain ⟨rfl, rfl⟩ := he
      simp only at x0 x1 y0 y1 hix hiy hg
      obtain ⟨X, hX⟩ : ∃ X, X = xp.length := ⟨_, rfl⟩
      have hws := way_same xt xp xA yA xC yC X wr.drew hix hiy hX (by omega)
      rw [← hX] at x1 y1
      clear hix hiy hg hX hk1 hk2
      go_wp2
      (refine wp_region_mix (fun _ => True) 8 (by kernel_rfl) (by kernel_rfl) (trivial) ?_; simp only [List.take_succ_cons, List.take_zero, List.drop_succ_cons, List.drop_zero])
      (refine wpMix_earlyN 8 (by kernel_rfl) (by kernel_rfl) ?_; simp only [List.take_succ_cons, List.take_zero, List.drop_succ_cons, List.drop_zero]; (repeat (go_big_quiet_step (fail))); refine wpQuiet_nil ?_)
      refine wpMix_nil ?_
      go_wp2_with (fail)
      refine hws.mono ?_
      rintro e3 w3 ⟨rfl, hF3⟩
      have hFn : Fr (fun _ => False) w w3 := hF.drew.trans hF3
      clear hws hF3 hF
      go_wp2
      go_roundw
      case rel => exact ⟨k + 1, by omega, by go_num, hFn⟩
      case measure => simp [intOf]; omega
    · obtain rfl : k = N := by omega
      go_wp2
      go_ret
      exact RetV.mk (x := .bool true) rfl rfl hF
set_option maxHeartbeats 1000000 in
theorem ways_nil (w : World) : Calls Try.prog 31 #[.slice none 0 0, .slice none 0 0] w (RetV w (.bool true)) := by
  go_enter Try.func31, Try.ntmps31
  go_wp2
  go_loopw [5] (fun s5 wr => s5 = .int .i64 0 ∧ wr = w) (fun _ _ => 0)
  case atStart => exact ⟨rfl, rfl⟩
  case round =>
    obtain ⟨rfl, rfl⟩ := hrel
    go_wp2
    go_ret
    exact RetV.mk (x := .bool true) rfl rfl (Fr.refl _ _)
/-- The blocks of the even ways ahead of i. -/
def EvB (R : List WyR) (i : Nat) (k : Nat) : Prop := ∃ j, j < i ∧ j % 2 = 0 ∧ j < R.length ∧ (nth R j).A = some ⟨k, 0, none⟩
theorem EvB.mono {R : List WyR} {i i' k : Nat} (h : EvB R i k) (hi : i ≤ i') : EvB R i' k := by
  obtain ⟨j, h1, h2, h3, h4⟩ := h; exact ⟨j, by omega, h2, h3, h4⟩
/-- What the even ways' blocks hold is no matter to a way of its own. -/
theorem WsB.rowE {w w' : World} {base gw : Nat} {R : List WyR} (h : WsB base w.heap gw R) {i m : Nat} (hi : i < R.length) (f : Fr (EvB R m) w w') (hm : m ≤ i ∨ i % 2 = 1) : WRw base w'.heap (nth R i) := by
  refine (h.row i hi).fr f (fun g hg he => ?_)
  obtain ⟨j, h1, h2, h3, h4⟩ := he
  exact h.inj j i h3 hi (by omega) _ h4 hg
theorem WsB.blkE {w w' : World} {base gw : Nat} {R : List WyR} (h : WsB base w.heap gw R) {m : Nat} (f : Fr (EvB R m) w w') : Blk w'.heap gw 65 (R.flatMap WyR.cells) := by
  refine h.blk.fr f (fun he => ?_)
  obtain ⟨j, h1, h2, h3, h4⟩ := he
  rcases h.row j h3 with e | ⟨g, k1, k2, -⟩
  · rw [e] at h4; cases h4
  · rw [k1] at h4; cases h4
    rcases k2.is with ⟨_, _, _, e4⟩ | ⟨g2, cur, _, e4, k4, _⟩
    · cases e4
    · cases e4
      have := h.blk
      unfold Blk at this
      rw [k4] at this
      cases this
theorem WsB.lows {w : World} {base gw : Nat} {R : List WyR} (h : WsB base w.heap gw R) {m k : Nat} (he : EvB R m k) : base ≤ k ∧ k < w.heap.size := by
  obtain ⟨j, h1, h2, h3, h4⟩ := he
  rcases h.row j h3 with e | ⟨g, k1, k2, k3⟩
  · rw [e] at h4; cases h4
  · rw [k1] at h4; cases h4
    exact ⟨k3, k2.lt _ rfl⟩
theorem WsB.frB {w w' : World} {S : Nat → Prop} {base gw : Nat} {R : List WyR} (h : WsB base w.heap gw R) (f : Fr S w w') (hg : base ≤ gw) (hs : ∀ k, base ≤ k → ¬ S k) : WsB base w'.heap gw R :=
  ⟨h.blk.fr f (hs gw hg), fun i hi => (h.row i hi).fr f (fun g hgA => by
    rcases h.row i hi with e | ⟨g', k1, k2, k3⟩
    · rw [e] at hgA; cases hgA
    · rw [k1] at hgA; cases hgA; exact hs g k3), h.inj⟩
theorem WRw.ints {base : Nat} {H : Array Obj} {x : WyR} (h : WRw base H x) : Ints H x.A x.p := by
  rcases h with e | ⟨g, h1, h2, -⟩
  · rw [e]; exact Rd.nil _ _ _
  · exact h2.rd
theorem fin_good {n t : Nat} {W : Nat → Nat → Int} (ht : t < n) {l : List Wy} (h : FinG W t n l) : ∀ x ∈ l, x.p.length ≤ n := fun x hx => by
  obtain ⟨m, rfl, -⟩ := h
  rw [← micro_iter] at hx
  obtain ⟨g1, g2⟩ := good_micro ht _ x hx
  exact nodup_len _ g1 g2
set_option maxRecDepth 100000 in
set_option maxHeartbeats 4000000 in
theorem gaoOwn_any (n : Int) (l : List Lk) (tt x : Int) (a : Option Addr) (c : Nat) (w : World) (hL : Links w.heap a l) (hl : l.length ≤ 9223372036854775806) (hc : l.length ≤ c) :
    Calls Try.prog 7 #[.int .i64 n, .slice a l.length c, .int .i64 tt, .int .i64 x] w (RetV w (.bool true)) := by
  have HL := Lib.hid hL
  obtain ⟨L, hLn⟩ : ∃ L, L = l.length := ⟨_, rfl⟩
  have HN := Lib.hid hLn
  have hl' : L ≤ 9223372036854775806 := by omega
  have hc' : L ≤ c := by omega
  have hW := Lib.hid (fun W (h : Links W.heap a l) => ways_any n l tt a c W h hl hc)
  have hF1 := Lib.hid (fun W => by have := ways_any 1 [] 0 none 0 W (Rd.nil _ _ _) (by simp) (by simp); rw [ways_one] at this; exact this)
  rw [← hLn] at hW ⊢
  clear hL hLn hl hc
  cases hE : waysErr n l tt with
  | some e =>
    rw [hE] at hW
    have h1 := hW.out w HL.out
    clear hE
    go_enter Try.func7, Try.ntmps7
    go_wp2_with (fail)
    refine h1.mono ?_
    rintro e1 w1 ⟨rfl, k1⟩
    have h2 := hW.out w1 (HL.out.fr k1 (fun _ _ _ h => h))
    clear h1
    go_wp2_with (fail)
    refine h2.mono ?_
    rintro e2 w2 ⟨rfl, k2⟩
    have k02 := k1.trans k2
    have h3 := hF1.out w2
    clear h2 k1 k2
    go_wp2_with (fail)
    refine h3.mono ?_
    rintro e3 w3 ⟨gf, Rf, rfl, -, -, -, -, k3⟩
    simp only [Int.toNat_one]
    have k03 := k02.trans k3
    clear h3 k02 k3
    go_wp2
    (refine wp_region_mix (fun _ => True) 19 (by kernel_rfl) (by kernel_rfl) (trivial) ?_; simp only [List.take_succ_cons, List.take_zero, List.drop_succ_cons, List.drop_zero])
    (refine wpMix_earlyN 19 (by kernel_rfl) (by kernel_rfl) ?_; simp only [List.take_succ_cons, List.take_zero, List.drop_succ_cons, List.drop_zero]; (repeat (go_big_quiet_step (fail))); refine wpQuiet_nil ?_)
    refine wpMix_nil ?_
    go_wp2
    go_loopw [15] (fun s15 wr => s15 = .int .i64 0 ∧ Fr (fun _ => False) w wr) (fun _ _ => 0)
    case atStart => exact ⟨rfl, k03.drew⟩
    case round =>
      obtain ⟨rfl, k4⟩ := hrel
      go_wp2
      go_loopw [16] (fun s16 wr => s16 = .int .i64 1 ∧ Fr (fun _ => False) w wr) (fun _ _ => 0)
      case atStart => exact ⟨rfl, k4⟩
      case round =>
        clear k4
        obtain ⟨rfl, k5⟩ := hrel
        have h5 := hW.out wr (HL.out.fr k5 (fun _ _ _ h => h))
        go_wp2_with (fail)
        refine h5.mono ?_
        rintro e6 w6 ⟨rfl, k6⟩
        have k06 := k5.trans k6
        have h7 := ways_nil w6
        clear h5 k5 k6
        go_wp2_with (fail)
        refine h7.mono ?_
        rintro e7 w7 ⟨rfl, k7⟩
        have k07 := k06.trans k7
        clear h7 k06 k7
        go_wp2
        (refine wp_region_mix (fun _ => True) 6 (by kernel_rfl) (by kernel_rfl) (trivial) ?_; simp only [List.take_succ_cons, List.take_zero, List.drop_succ_cons, List.drop_zero])
        (refine wpMix_earlyN 6 (by kernel_rfl) (by kernel_rfl) ?_; simp only [List.take_succ_cons, List.take_zero, List.drop_succ_cons, List.drop_zero]; (repeat (go_big_quiet_step (fail))); refine wpQuiet_nil ?_)
        refine wpMix_nil ?_
        go_wp2
        go_ret
        exact RetV.mk (x := .bool true) rfl rfl k07.drew
  | none =>
    rw [hE] at hW
    obtain ⟨hg, t0, tn⟩ := waysErr_ok hE
    obtain ⟨N, rfl, n1, n8, -, -, r, -⟩ := gaoErr_ok hg
    obtain ⟨t, rfl⟩ := Int.eq_ofNat_of_zero_le t0
    have htN : t < N := by omega
    rw [Int.toNat_natCast, Int.toNat_natCast] at hW
    have h1 := hW.out w HL.out
    clear hE hg t0 tn
    go_enter Try.func7, Try.ntmps7
    go_wp2_with (fail)
    refine h1.mono ?_
    rintro e1 w1 ⟨g1, R1, rfl, hg1, hR1, hFin1, hS1, k1⟩
    have h2 := hW.out w1 (HL.out.fr k1 (fun _ _ _ h => h))
    have hs1 := k1.size
    clear h1
    go_wp2_with (fail)
    refine h2.mono ?_
    rintro e2 w2 ⟨g2, R2, rfl, hg2, hR2, hFin2, hS2, k2⟩
    have k02 := k1.trans k2
    have h3 := hF1.out w2
    have HLow := Lib.hid (fun m k (h : EvB R1 m k) => hS1.lows h)
    have hS1' := hS1.fr0 k2
    clear h2 hS1
    go_wp2_with (fail)
    refine h3.mono ?_
    rintro e3 w3 ⟨gf, Rf, rfl, -, -, -, -, k3⟩
    simp only [Int.toNat_one]
    have k03 := k02.trans k3
    have S1 := Lib.hid (hS1'.fr0 k3)
    have S2 := Lib.hid (hS2.fr0 k3)
    have HE12 : Hid (R1.map WyR.wy = R2.map WyR.wy) := Lib.hid (hFin1.eq hFin2)
    have HFin2 := Lib.hid hFin2
    have HR1 := Lib.hid hR1
    have HR2 := Lib.hid hR2
    have HG1 : Hid (∀ x ∈ R1, x.p.length ≤ 100) := Lib.hid (fun x hx => Nat.le_trans (fin_good htN hFin1 x.wy (List.mem_map.2 ⟨x, hx, rfl⟩)) (by omega))
    clear h3 k02 k3 k1 k2 hS1' hS2 hFin1 hFin2 hR1 hR2
    go_wp2
    (refine wp_region_mix (fun _ => True) 19 (by kernel_rfl) (by kernel_rfl) (trivial) ?_; simp only [List.take_succ_cons, List.take_zero, List.drop_succ_cons, List.drop_zero])
    (refine wpMix_earlyN 19 (by kernel_rfl) (by kernel_rfl) ?_; simp only [List.take_succ_cons, List.take_zero, List.drop_succ_cons, List.drop_zero]; (repeat (go_big_quiet_step (fail))); refine wpQuiet_nil ?_)
    refine wpMix_nil ?_
    go_wp2
    go_loopw [15] (fun s15 wr => ∃ i : Nat, i ≤ N + 1 ∧ i % 2 = 0 ∧ s15 = .int .i64 i ∧ Fr (EvB R1 i) w3 wr) (fun s15 _ => N + 2 - (intOf s15).toNat)
    case atStart => exact ⟨0, by omega, rfl, rfl, (Fr.refl _ _).drew⟩
    case round =>
      obtain ⟨i, hi, hi2, rfl, hF⟩ := hrel
      by_cases hiN : i < N
      · have hiR : i < R1.length := by rw [HR1.out]; exact hiN
        have hb := S1.out.blkE hF
        have y0 := (hb.cell (i * 2 + 0)).trans (flat_get WyR.cells 2 WyR.cells_len R1 i 0 hiR (by omega))
        have y1 := (hb.cell (i * 2 + 1)).trans (flat_get WyR.cells 2 WyR.cells_len R1 i 1 hiR (by omega))
        have ylt := hb.lt
        have hrow := S1.out.rowE hiR hF (.inl (Nat.le_refl _))
        have HEv : Hid (∀ g, (nth R1 i).A = some ⟨g, 0, none⟩ → EvB R1 (i + 2) g) := Lib.hid (fun g hg => ⟨i, by omega, hi2, hiR, hg⟩)
        have hF' := hF.mono (fun k _ h => EvB.mono h (show i ≤ i + 2 by omega))
        generalize nth R1 i = y at *
        obtain ⟨yt, yp, yA, yC⟩ := y
        simp only [WyR.cells, List.getElem?_cons_zero, List.getElem?_cons_succ, Nat.add_zero] at y0 y1
        obtain ⟨ob, hO, hob⟩ : ∃ ob, Ownd wr.heap 3 1 yA yp.length yC (ivals .i64 yp) ob ∧ ∀ g, ob = some g → yA = some ⟨g, 0, none⟩ := by
          rcases hrow with e | ⟨g, k1, k2, -⟩
          · cases e; exact ⟨none, Ownd.nil _ _ _, fun _ h => nomatch h⟩
          · exact ⟨some g, k2, fun g' h => by cases h; exact k1⟩
        have hsp := intsSpoil_any ob yA yC yp x wr rfl hO
        generalize yp.length = Y at *
        clear hb hrow hO hiR hF
        go_wp2_with (fail)
        refine hsp.mono ?_
        rintro e4 w4 ⟨rfl, hF4⟩
        have hFn : Fr (EvB R1 (i + 2)) w3 w4 := hF'.trans (hF4.mono (fun k _ h => HEv.out k (hob k h)))
        clear hsp hF' hF4
        go_wp2
        go_roundw
        case rel => exact ⟨i + 2, by omega, by omega, by go_num, hFn⟩
        case measure => simp [intOf]; omega
      · have S2' := Lib.hid (S2.out.frB hF hg2 (fun k hk h => by have := (HLow.out i k h).2; omega))
        have hb1 := Lib.hid (S1.out.blkE hF)
        have hrw1 := Lib.hid (fun j (hj : j < R1.length) (hj2 : j % 2 = 1) => S1.out.rowE hj hF (.inr hj2))
        have k05 : Fr (fun _ => False) w wr := k03.trans' hF (fun k hk h => by have := (HLow.out i k h).1; omega)
        clear S1 S2 hF k03
        obtain ⟨w5, hw5⟩ : ∃ y, y = wr := ⟨_, rfl⟩
        subst hw5
        go_wp2
        go_loopw [16] (fun s16 wx => ∃ j : Nat, j ≤ N + 1 ∧ j % 2 = 1 ∧ s16 = .int .i64 j ∧ Fr (fun _ => False) w5 wx) (fun s16 _ => N + 2 - (intOf s16).toNat)
        case atStart => exact ⟨1, by omega, rfl, rfl, Fr.refl _ _⟩
        case round =>
          obtain ⟨j, hj, hj2, rfl, hF⟩ := hrel
          by_cases hjN : j < N
          · have hj1 : j < R1.length := by rw [HR1.out]; exact hjN
            have hj3 : j < R2.length := by rw [HR2.out]; exact hjN
            have hb := hb1.out.fr hF (fun h => h)
            have x0 := (hb.cell (j * 2 + 0)).trans (flat_get WyR.cells 2 WyR.cells_len R1 j 0 hj1 (by omega))
            have x1 := (hb.cell (j * 2 + 1)).trans (flat_get WyR.cells 2 WyR.cells_len R1 j 1 hj1 (by omega))
            have xlt := hb.lt
            obtain ⟨y0, y1⟩ := (S2'.out.fr0 hF).cells hj3
            have ylt := (S2'.out.fr0 hF).blk.lt
            have hix := ((hrw1.out j hj1 hj2).fr hF (fun _ _ h => h)).ints
            have hiy := (S2'.out.fr0 hF).row2 hj3
            have hgx := HG1.out _ (nth_mem R1 j hj1)
            have he : (nth R1 j).wy = (nth R2 j).wy := by
              have : nth (R1.map WyR.wy) j = nth (R2.map WyR.wy) j := by rw [HE12.out]
              rwa [nth_map _ _ _ hj1, nth_map _ _ _ hj3] at this
            generalize nth R1 j = p at *
            generalize nth R2 j = q at *
            obtain ⟨xt, xp, xA, xC⟩ := p
            obtain ⟨yt, yp, yA, yC⟩ := q
            simp only [WyR.wy, Wy.mk.injEq] at he
            obtain ⟨rfl, rfl⟩ := he
            simp only [WyR.cells, List.getElem?_cons_zero, List.getElem?_cons_succ, Nat.add_zero] at x0 x1 y0 y1 hix hiy hgx
            obtain ⟨X, hX⟩ : ∃ X, X = xp.length := ⟨_, rfl⟩
            have hws := way_same xt xp xA yA xC yC X wr.drew hix hiy hX (by omega)
            rw [← hX] at x1 y1
            clear hix hiy hgx hX hj1 hj3 hb
            go_wp2
            (refine wp_region_mix (fun _ => True) 8 (by kernel_rfl) (by kernel_rfl) (trivial) ?_; simp only [List.take_succ_cons, List.take_zero, List.drop_succ_cons, List.drop_zero])
            (refine wpMix_earlyN 8 (by kernel_rfl) (by kernel_rfl) ?_; simp only [List.take_succ_cons, List.take_zero, List.drop_succ_cons, List.drop_zero]; (repeat (go_big_quiet_step (fail))); refine wpQuiet_nil ?_)
            refine wpMix_nil ?_
            go_wp2_with (fail)
            refine hws.mono ?_
            rintro e6 w6 ⟨rfl, hF6⟩
            have hFn : Fr (fun _ => False) w5 w6 := hF.drew.trans hF6
            clear hws hF6 hF
            go_wp2
            go_roundw
            case rel => exact ⟨j + 2, by omega, by omega, by go_num, hFn⟩
            case measure => simp [intOf]; omega
          · have hk := k05.trans hF
            have h6 := hW.out wr (HL.out.fr hk (fun _ _ _ h => h))
            have S26 := Lib.hid (S2'.out.fr0 hF)
            clear hF k05
            go_wp2_with (fail)
            refine h6.mono ?_
            rintro e6 w6 ⟨g6, R6, rfl, hg6, hR6, hFin6, hS6, k6⟩
            have k06 := hk.trans k6
            have h7 := ways_same (N := N) (c1 := N) (c2 := N) R6 R2 w6 hS6 (S26.out.fr0 k6) hR6 HR2.out (hFin6.eq HFin2.out) (fun x hx => Nat.le_trans (fin_good htN hFin6 x.wy (List.mem_map.2 ⟨x, hx, rfl⟩)) (by omega)) n8
            clear h6 k6 hS6 hFin6 hR6
            go_wp2_with (fail)
            refine h7.mono ?_
            rintro e7 w7 ⟨rfl, k7⟩
            have k07 := k06.trans k7
            clear h7 k06 k7
            go_wp2
            (refine wp_region_mix (fun _ => True) 6 (by kernel_rfl) (by kernel_rfl) (trivial) ?_; simp only [List.take_succ_cons, List.take_zero, List.drop_succ_cons, List.drop_zero])
            (refine wpMix_earlyN 6 (by kernel_rfl) (by kernel_rfl) ?_; simp only [List.take_succ_cons, List.take_zero, List.drop_succ_cons, List.drop_zero]; (repeat (go_big_quiet_step (fail))); refine wpQuiet_nil ?_)
            refine wpMix_nil ?_
            go_wp2
            go_ret
            exact RetV.mk (x := .bool true) rfl rfl k07.drew
end Go.Proofs.Ytbmeeglehbaggaa
