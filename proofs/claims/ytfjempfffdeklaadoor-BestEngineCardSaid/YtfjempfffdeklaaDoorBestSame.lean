import Derived.Test.YtfjempfffdeklaaDoorArgBest
import Derived.Test.YtfjempfffdeklaaDoorSame
namespace Go.Proofs.YtfjempfffdeklaaDoor
open Go.RowKit

/-- Ways that are handed in. -/
structure BestsR (H : Array Obj) (a : Option Addr) (l : List BestR) : Prop where
  top : Recs H a 4 BestR.cells l
  row : ∀ x ∈ l, Ints H x.A x.h
  len : ∀ x ∈ l, x.h.length ≤ 9223372036854775807
theorem BestsR.fr0 {S : Nat → Prop} {w w' : World} {a : Option Addr} {l : List BestR} (h : BestsR w.heap a l) (f : Fr S w w') (hs : ∀ k, k < w.heap.size → ¬ S k) : BestsR w'.heap a l :=
  ⟨h.top.fr0 f hs, fun x hx => (h.row x hx).fr0 f hs, h.len⟩
/-- Are two ways the same? -/
def bEq (x y : BestR) : Bool := decide (x.h = y.h ∧ x.a = y.a ∧ x.n = y.n ∧ x.m = y.m)
set_option maxRecDepth 100000 in
set_option maxHeartbeats 1000000 in
theorem sbest_any (x y : BestR) (w : World) (hx : Ints w.heap x.A x.h) (hy : Ints w.heap y.A y.h) (lx : x.h.length ≤ 9223372036854775807) (ly : y.h.length ≤ 9223372036854775807) :
    Calls Tryd.prog 27 #[.agg #[.int .u32 x.a, .int .i64 x.n, .int .i64 x.m, .slice x.A x.h.length x.C], .agg #[.int .u32 y.a, .int .i64 y.n, .int .i64 y.m, .slice y.A y.h.length y.C]] w (RetV w (.bool (bEq x y))) := by
  obtain ⟨xa, xn, xm, xh, xA, xC⟩ := x
  obtain ⟨ya, yn, ym, yh, yA, yC⟩ := y
  simp only at hx hy lx ly ⊢
  have hF := ((Fr.refl (fun _ => False) w).alloc (.cells #[.int .u32 xa, .int .i64 xn, .int .i64 xm, .slice xA xh.length xC] 40)).alloc (.cells #[.int .u32 ya, .int .i64 yn, .int .i64 ym, .slice yA yh.length yC] 40)
  have hx' := hx.fr0 hF (fun _ _ h => h)
  have hy' := hy.fr0 hF (fun _ _ h => h)
  have hbx := (Blk.made w 40 [.int .u32 xa, .int .i64 xn, .int .i64 xm, .slice xA xh.length xC]).alloc (.cells #[.int .u32 ya, .int .i64 yn, .int .i64 ym, .slice yA yh.length yC] 40)
  have hby := Blk.made (w.alloc (.cells #[.int .u32 xa, .int .i64 xn, .int .i64 xm, .slice xA xh.length xC] 40)) 40 [.int .u32 ya, .int .i64 yn, .int .i64 ym, .slice yA yh.length yC]
  obtain ⟨B, hB⟩ : ∃ B, B = bEq ⟨xa, xn, xm, xh, xA, xC⟩ ⟨ya, yn, ym, yh, yA, yC⟩ := ⟨_, rfl⟩
  rw [← hB]
  have HB := Lib.hid hB
  have HBX := Lib.hid hbx
  have HBY := Lib.hid hby
  clear hB hx hy hbx hby
  go_enter Tryd.func27, Tryd.ntmps27
  go_wp2_with (fail)
  refine (ints_any' xh yh _ _ _ _ _ hx' hy' lx ly rfl rfl).mono ?_
  rintro e1 w1 ⟨rfl, n1, rfl⟩
  have hF1 := hF.drewN n1
  by_cases hh : xh = yh
  · rw [decide_eq_true hh]
    by_cases hn : xa = ya ∧ xn = yn
    · have e1 : (xa == ya) = true := by simp [hn.1]
      have e2 : (xn == yn) = true := by simp [hn.2]
      by_cases hm : xm = ym
      · have e3 : (xm == ym) = true := by simp [hm]
        have HV := Lib.hid (HB.out.trans (show _ = true from decide_eq_true ⟨hh, hn.1, hn.2, hm⟩))
        clear hh hn hm
        go_wp2
        go_ret
        exact RetV.mk (show Value.bool true = _ by rw [HV.out]) rfl hF1
      · have e3 : (xm == ym) = false := by simp [hm]
        have HV := Lib.hid (HB.out.trans (show _ = false from decide_eq_false fun h => hm h.2.2.2))
        clear hh hn hm
        go_wp2
        go_ret
        exact RetV.mk (show Value.bool false = _ by rw [HV.out]) rfl hF1
    · have q : (xa == ya) = false ∨ ((xa == ya) = true ∧ (xn == yn) = false) := by
        simp only [beq_eq_false_iff_ne, beq_iff_eq, ne_eq]
        omega
      have HV := Lib.hid (HB.out.trans (show _ = false from decide_eq_false fun h => hn ⟨h.2.1, h.2.2.1⟩))
      clear hh hn
      rcases q with e1 | ⟨e1, e2⟩
      all_goals
        go_wp2
        go_ret
        exact RetV.mk (show Value.bool false = _ by rw [HV.out]) rfl hF1
  · rw [decide_eq_false hh]
    have HV := Lib.hid (HB.out.trans (show _ = false from decide_eq_false fun h => hh h.1))
    clear hh
    go_wp2
    go_ret
    exact RetV.mk (show Value.bool false = _ by rw [HV.out]) rfl hF1

set_option maxRecDepth 100000 in
set_option maxHeartbeats 1000000 in
theorem sbests_true {n k : Nat} (l m : List BestR) (a b : Option Addr) (c d : Nat) (w : World) (ha : BestsR w.heap a l) (hb : BestsR w.heap b m) (hE : Hid (∀ i, i < l.length → bEq (nth l i) (nth m i) = true)) (hlm : m.length = l.length) (hl : l.length ≤ 9223372036854775806) (hn : n = l.length) (hk : k = l.length) :
    Calls Tryd.prog 19 #[.slice a n c, .slice b k d] w (RetV w (.bool true)) := by
  subst hn
  subst hk
  have HA := Lib.hid ha
  have HBb := Lib.hid hb
  have HLM := Lib.hid hlm
  clear ha hb hlm
  go_enter Tryd.func19, Tryd.ntmps19
  go_wp2
  go_loopw [5] (fun i wr => ∃ k : Nat, k ≤ l.length ∧ i = .int .i64 k ∧ Fr (fun _ => False) w wr) (fun i _ => l.length - (intOf i).toNat)
  case atStart => exact ⟨0, by omega, rfl, Fr.refl _ _⟩
  case round =>
    obtain ⟨k, hk, rfl, hF⟩ := hrel
    by_cases hlt : k < l.length
    · have hA := HA.out.fr0 hF (fun _ _ h => h)
      have hB := HBb.out.fr0 hF (fun _ _ h => h)
      have hlm : k < m.length := by have := HLM.out; omega
      obtain ⟨g1, o1, rfl, q1, c1⟩ := Recs.pos hA.top BestR.cells_len (by omega) (by omega)
      obtain ⟨g2, o2, rfl, q2, c2⟩ := Recs.pos hB.top BestR.cells_len (by omega) (by omega)
      have d0 := c1 wr rfl k 0 hlt (by omega)
      have d1 := c1 wr rfl k 1 hlt (by omega)
      have d2 := c1 wr rfl k 2 hlt (by omega)
      have d3 := c1 wr rfl k 3 hlt (by omega)
      have f0 := c2 wr rfl k 0 hlm (by omega)
      have f1 := c2 wr rfl k 1 hlm (by omega)
      have f2 := c2 wr rfl k 2 hlm (by omega)
      have f3 := c2 wr rfl k 3 hlm (by omega)
      have hx := hA.row _ (nth_mem l k hlt)
      have hy := hB.row _ (nth_mem m k hlm)
      have lx := hA.len _ (nth_mem l k hlt)
      have ly := hB.len _ (nth_mem m k hlm)
      have he := hE.out k hlt
      obtain ⟨x, hxe⟩ : ∃ x, x = nth l k := ⟨_, rfl⟩
      obtain ⟨y, hye⟩ : ∃ y, y = nth m k := ⟨_, rfl⟩
      rw [← hxe] at d0 d1 d2 d3 hx lx he
      rw [← hye] at f0 f1 f2 f3 hy ly he
      simp only [BestR.cells, List.getElem?_cons_zero, List.getElem?_cons_succ, ← Nat.add_assoc, Nat.add_zero] at d0 d1 d2 d3 f0 f1 f2 f3
      have HEq := Lib.hid he
      clear c1 c2 hxe hye hA hB he
      go_wp2
      (refine wp_region_mix (fun _ => True) 8 (by kernel_rfl) (by kernel_rfl) (trivial) ?_; simp only [List.take_succ_cons, List.take_zero, List.drop_succ_cons, List.drop_zero])
      (refine wpMix_earlyN 8 (by kernel_rfl) (by kernel_rfl) ?_; simp only [List.take_succ_cons, List.take_zero, List.drop_succ_cons, List.drop_zero]; (repeat (go_big_quiet_step (fail))); refine wpQuiet_nil ?_)
      refine wpMix_nil ?_
      go_wp2_with (fail)
      refine (sbest_any x y wr.drew hx hy lx ly).mono ?_
      rintro e1 w1 ⟨rfl, hF1⟩
      rw [HEq.out]
      have hF01 := hF.drew.trans hF1
      go_wp2
      go_roundw
      case rel => exact ⟨k + 1, by omega, by go_num, hF01⟩
      case measure => simp [intOf]; omega
    · obtain rfl : k = l.length := by omega
      go_wp2
      go_ret
      exact RetV.mk rfl rfl hF
end Go.Proofs.YtfjempfffdeklaaDoor
