import Derived.Test.YtakkljdeencfbaaSpan5
import Derived.Test.YtakkljdeencfbaaLinkRow
import Derived.Deep.CutBlock
import Derived.Deep.CutRange
import Derived.Test.YtakkljdeencfbaaStepApp
namespace Go.Proofs.Ytakkljdeencfbaa
open Go.RowKit

/-- What came of the roots: an error, or a row of them. -/
def Got (w : World) (n : Int) (l : List Lk) (v er : Value) : Prop :=
  (∃ k, graphErr n l = some k ∧ er = errv k) ∨ (graphErr n l = none ∧ er = .nilIface ∧ ∃ a c ob bs, v = .slice a n.toNat c ∧ Own w.heap 3 1 a n.toNat c (ivals .i64 (bs.map Bl.r)) ob ∧ BsOk n.toNat bs ∧ Rooted l n.toNat bs ∧ Still l bs)
theorem RetRt.got {w w' : World} {n : Int} {l : List Lk} {e : Ending} (h : RetRt w n l (graphErr n l) e w') : ∃ v er, e = .returned (.tuple #[v, er]) ∧ Got w' n l v er ∧ Fr (fun _ => False) w w' := by
  cases hg : graphErr n l with
  | some k =>
    obtain ⟨rfl, hF⟩ := h.errE hg
    exact ⟨_, _, rfl, .inl ⟨k, hg, rfl⟩, hF⟩
  | none =>
    rw [hg] at h
    obtain ⟨a, c, ob, bs, rfl, hO, hF, h1, h2, h3⟩ := h
    exact ⟨_, _, rfl, .inr ⟨hg, rfl, a, c, ob, bs, rfl, hO, h1, h2, h3⟩, hF⟩

theorem roots_app {n : Int} {l : List Lk} {xa xb xc : Int} {a : Option Addr} {c : Nat} {w : World} (h : Rd w.heap a (l.length + 1) 3 (l.flatMap Lk.cells ++ [.int .i64 xa, .int .i64 xb, .int .i64 xc])) (hl : l.length + 1 ≤ 9223372036854775807) (hw : ∀ x ∈ l, (Lit.int .i64 x.a).wf = true ∧ (Lit.int .i64 x.b).wf = true ∧ (Lit.int .i64 x.c).wf = true) (hx : Lk.wf ⟨xa, xb, xc⟩) :
    Calls Try.prog 11 #[.int .i64 n, .slice a (l.length + 1) c] w (RetRt w n (l ++ [⟨xa, xb, xc⟩]) (graphErr n (l ++ [⟨xa, xb, xc⟩]))) := by
  have hlen : (l ++ [(⟨xa, xb, xc⟩ : Lk)]).length = l.length + 1 := by simp
  rw [← hlen]
  refine roots_any n _ a c w ?_ (by rw [hlen]; exact hl) (fun y hy => ?_)
  · unfold Links Recs
    rw [hlen, List.flatMap_append]
    simpa using h
  · rcases List.mem_append.1 hy with hy | hy
    · exact hw y hy
    · rw [List.mem_singleton.1 hy]; exact hx

theorem rv_get (bs : List Bl) (i : Nat) (h : i < bs.length) : (ivals .i64 (bs.map Bl.r))[i]? = some (.int .i64 (nth bs i).r) := by
  rw [ivals_get _ _ i (by simpa using h), nth_map _ _ i h]
theorem made1 (w : World) (o : Obj) (E : TypeId) (sz n : Nat) (cs : List Value) (hl : cs.length = n * sz) (hn : n ≤ maxLen) :
    Own ((w.alloc o).alloc (.cells cs.toArray E)).heap E sz (some ⟨w.heap.size + 1, 0, none⟩) n n cs (some (w.heap.size + 1)) := by
  have := Own.made (w.alloc o) E sz n cs hl hn
  rwa [show (w.alloc o).heap.size = w.heap.size + 1 by simp] at this
theorem lit_after {w w' : World} {o : Obj} {T : TypeId} {xs : List Value} (z : Fr (fun k => some w.heap.size = some k) ((w.alloc o).alloc (.cells xs.toArray T)).drew w') : Rd w'.heap (some ⟨w.heap.size + 1, 0, none⟩) 1 xs.length xs :=
  ((rd_lit1 w o T xs).fr ((Fr.refl (fun _ => False) _).drew) (fun _ _ _ h => h)).fr z (fun b off h hS => by simp only [Option.some.injEq, Addr.mk.injEq] at h hS; omega)
theorem lit_before {w w' : World} {o : Obj} {T : TypeId} {xs : List Value} (z : Fr (fun k => some (w.heap.size + 1) = some k) ((w.alloc (.cells xs.toArray T)).alloc o).drew w') : Rd w'.heap (some ⟨w.heap.size, 0, none⟩) 1 xs.length xs :=
  ((rd_lit w T xs).fr (((Fr.refl (fun _ => False) _).alloc o).drew) (fun _ _ _ h => h)).fr z (fun b off h hS => by simp only [Option.some.injEq, Addr.mk.injEq] at h hS; omega)
set_option maxRecDepth 100000 in
set_option maxHeartbeats 1500000 in
theorem spanMore_any (n : Int) (l : List Lk) (a : Option Addr) (c : Nat) (x : Lk) (aa bb : Int) (w : World) (hL : Links w.heap a l) (hl : l.length * 24 ≤ 140737488351232) (hw : ∀ x ∈ l, (Lit.int .i64 x.a).wf = true ∧ (Lit.int .i64 x.b).wf = true ∧ (Lit.int .i64 x.c).wf = true) (hx : Lk.wf x) :
    Calls Try.prog 4 #[.int .i64 n, .slice a l.length c, .agg #[.int .i64 x.a, .int .i64 x.b, .int .i64 x.c], .int .i64 aa, .int .i64 bb] w (RetV w (.bool true)) := by
  go_enter Try.func4, Try.ntmps4
  go_wp2_with (go_at_call 11; refine (roots_any 1 [] none 0 _ (Rd.nil _ _ _) (by simp) (by simp)).mono ?_)
  intro e1 w1 R1
  obtain ⟨a1, c1, ob1, bs1, rfl, -, hF1, -, -, -⟩ := R1.okE (n := 1) rfl
  have hFw1 := ((Fr.refl (fun _ => False) w).alloc (.cells #[.int .i64 x.a, .int .i64 x.b, .int .i64 x.c] 29)).trans hF1
  have hL1 := hL.fr hFw1 (fun _ _ _ h => h)
  go_wp2_with (go_at_call 11; refine (roots_any n l a c _ hL1 (by omega) hw).mono ?_)
  intro e2 w2 R2
  obtain ⟨v2, r2, rfl, hG2, hF2⟩ := R2.got
  go_wp2
  obtain ⟨xa, xb, xc⟩ := x
  have y0 := ((hF2.cell (p := ⟨w.heap.size, 0, none⟩) (Nat.lt_of_lt_of_le (by simp) hF1.size) (fun h => h)).trans (hF1.cell (p := ⟨w.heap.size, 0, none⟩) (by simp) (fun h => h))).trans (show _ = some (Value.int .i64 xa) by simp)
  have y1 := ((hF2.cell (p := ⟨w.heap.size, 1, none⟩) (Nat.lt_of_lt_of_le (by simp) hF1.size) (fun h => h)).trans (hF1.cell (p := ⟨w.heap.size, 1, none⟩) (by simp) (fun h => h))).trans (show _ = some (Value.int .i64 xb) by simp)
  have y2 := ((hF2.cell (p := ⟨w.heap.size, 2, none⟩) (Nat.lt_of_lt_of_le (by simp) hF1.size) (fun h => h)).trans (hF1.cell (p := ⟨w.heap.size, 2, none⟩) (by simp) (fun h => h))).trans (show _ = some (Value.int .i64 xc) by simp)
  have hws : w.heap.size < w2.heap.size := by
    have h1 := hF1.size
    have h2 := hF2.size
    simp at h1
    omega
  have hrl := (hL1.fr hF2 (fun _ _ _ h => h)).fr ((Fr.refl (fun _ => False) w2).drew) (fun _ _ _ h => h)
  have hFd := (Fr.refl (fun _ => False) w2).drew
  have hFw2 := hFw1.trans hF2
  clear hL hL1 R1 R2 hF1 hF2 hFw1
  go_region_law (first
    | (refine step_app rfl (.tmp 29) (.tmp 30) 22 rfl Try.underlying22 infoLk rfl (by decide) rfl rfl (by first | exact Own.made _ 29 3 0 [] rfl (by decide) | exact made1 _ _ 29 3 0 [] rfl (by decide) | exact (Own.made _ 29 3 0 [] rfl (by decide)).alloc _) (by first | exact hrl.fr ((Fr.refl (fun _ => False) _).alloc _) (fun _ _ _ h => h) | exact hrl.fr (((Fr.refl (fun _ => False) _).alloc _).alloc _) (fun _ _ _ h => h)) (lk_one l) (by omega) (by omega) ?_; intro a4 c4 w4 ob4 z1 z2 z3
       rw [Nat.zero_add, List.nil_append] at z1
       have hF4 : Fr (fun _ => False) w2 w4 := (by first | exact (hFd.alloc _).trans' z2 (fun q hq h => by simp only [Option.some.injEq] at h; omega) | exact ((hFd.alloc _).alloc _).trans' z2 (fun q hq h => by simp only [Option.some.injEq] at h; omega))
       have x0 := (hF4.cell (p := ⟨w.heap.size, 0, none⟩) hws (fun h => h)).trans y0
       have x1 := (hF4.cell (p := ⟨w.heap.size, 1, none⟩) hws (fun h => h)).trans y1
       have x2 := (hF4.cell (p := ⟨w.heap.size, 2, none⟩) hws (fun h => h)).trans y2
       have hrx : (∀ T (xs : List Value), Rd (w4.alloc (.cells xs.toArray T)).heap (some ⟨w4.heap.size, 0, none⟩) 1 xs.length xs) := (fun T xs => rd_lit w4 T xs))
    | (go_simp; go_at_call 11; refine (roots_app hL6 (by omega) hw hx).mono ?_; intro e7 w7 R7; obtain ⟨v7, r7, rfl, hG7, hF7⟩ := R7.got)
    | (refine step_app rfl (.tmp 31) (.tmp 33) 22 rfl Try.underlying22 infoLk rfl (by decide) rfl rfl (by first | exact z1 | exact z1.alloc _) (by first | exact hrx _ [.int .i64 xa, .int .i64 xb, .int .i64 xc] | exact lit_after (xs := [.int .i64 xa, .int .i64 xb, .int .i64 xc]) z2 | exact lit_before (xs := [.int .i64 xa, .int .i64 xb, .int .i64 xc]) z2) (by simp [Value.oneCell']) (by omega) (by omega) ?_; intro a6 c6 w6 ob6 u1 u2 u3
       have hL6 := u1.rd
       have hF6 : Fr (fun _ => False) w2 w6 := (by first | exact Fr.app (hF4.alloc _) u2 (fun g h => by rcases z3 with z3 | ⟨g', z3, z4⟩ <;> rw [z3] at h <;> cases h <;> simp at * <;> omega) | exact Fr.app hF4 u2 (fun g h => by rcases z3 with z3 | ⟨g', z3, z4⟩ <;> rw [z3] at h <;> cases h <;> simp at * <;> omega))))
  all_goals
    have hF27 := hF6.trans hF7
    have hF07 := hFw2.trans hF27
    rcases hG7 with ⟨k7, hg7, rfl⟩ | ⟨hg7, rfl, a7, c7, ob7, cs, rfl, hO7, hcb, hcr, hcs⟩
    · rcases hG2 with ⟨k2, hg2, rfl⟩ | ⟨hg2, rfl, a2, c2, ob2, bs, rfl, hO2, hbb, hbr, hbs⟩
      · clear hg7 hg2 hL6 u1 u2 u3 z1 z2 z3 hrx x0 x1 x2 y0 y1 y2 hrl
        go_wp2
        go_ret
        exact RetV.mk rfl rfl hF07
      · clear hg7 hg2 hL6 u1 u2 u3 z1 z2 z3 hrx x0 x1 x2 y0 y1 y2 hrl hO2 hbb hbr hbs
        go_wp2
        go_ret
        exact RetV.mk rfl rfl hF07
    · rcases hG2 with ⟨k2, hg2, rfl⟩ | ⟨hg2, rfl, a2, c2, ob2, bs, rfl, hO2, hbb, hbr, hbs⟩
      · clear hg7 hg2 hL6 u1 u2 u3 z1 z2 z3 hrx x0 x1 x2 y0 y1 y2 hrl hO7 hcb hcr hcs
        go_wp2
        go_ret
        exact RetV.mk rfl rfl hF07
      · obtain ⟨hn, hlk, -⟩ := graph_ok hg7
        have hxx := hlk ⟨xa, xb, xc⟩ (by simp)
        have hrg : ∀ y ∈ l ++ [(⟨xa, xb, xc⟩ : Lk)], (0 ≤ y.a ∧ y.a < n) ∧ (0 ≤ y.b ∧ y.b < n) := fun y hy => by
          have := (hlk y hy).1
          unfold Lk.bad at this
          omega
        have hxr := hrg ⟨xa, xb, xc⟩ (by simp)
        simp only at hxr
        obtain ⟨N, rfl⟩ : ∃ N : Nat, n = N := ⟨n.toNat, by omega⟩
        obtain ⟨XA, rfl⟩ : ∃ k : Nat, xa = k := ⟨xa.toNat, by omega⟩
        obtain ⟨XB, rfl⟩ : ∃ k : Nat, xb = k := ⟨xb.toNat, by omega⟩
        have hXA : XA < N := by omega
        have hXB : XB < N := by omega
        simp only [Int.toNat_natCast] at hO7 hO2 hcb hbb hcr hbr
        have q0 := (hF27.cell (p := ⟨w.heap.size, 0, none⟩) hws (fun h => h)).trans y0
        have q1 := (hF27.cell (p := ⟨w.heap.size, 1, none⟩) hws (fun h => h)).trans y1
        have hO2' := hO2.fr hF27 (fun _ _ h => h)
        have HX := Lib.hid (hcs ⟨XA, XB, xc⟩ (by simp))
        have HM := fun (a b : Nat) (ha : a < N) (hb : b < N) => Lib.hid (span_more (fun y hy => List.mem_append_left _ hy) hrg hbb hbr hcb hcs ha hb)
        have hlb := hbb.len
        have hlc := hcb.len
        clear hg7 hg2 hL6 u1 u2 u3 z1 z2 z3 hrx x0 x1 x2 y0 y1 y2 hrl hcr hcs hbr hbs hbb hcb hO2 hlk hxx hrg hxr hn hws hF4 hF6 hF7 hF27 hFw2 hFd R7
        by_cases ha0 : aa < 0
        · go_wp2
          go_ret
          exact RetV.mk rfl rfl hF07
        · by_cases ha1 : aa < N
          · by_cases hb0 : bb < 0
            · go_wp2
              go_ret
              exact RetV.mk rfl rfl hF07
            · by_cases hb1 : bb < N
              · obtain ⟨A, rfl⟩ : ∃ k : Nat, aa = k := ⟨aa.toNat, by omega⟩
                obtain ⟨B, rfl⟩ : ∃ k : Nat, bb = k := ⟨bb.toNat, by omega⟩
                have hA : A < N := by omega
                have hB : B < N := by omega
                obtain ⟨g7, rfl, -, -, hc7, -⟩ := hO7.pos (by omega)
                obtain ⟨g2, rfl, -, -, hc2, -⟩ := hO2'.pos (by omega)
                have k1 := (hc7 A (by omega)).trans (rv_get cs A (by omega))
                have k2 := (hc7 B (by omega)).trans (rv_get cs B (by omega))
                have k3 := (hc7 XA (by omega)).trans (rv_get cs XA (by omega))
                have k4 := (hc7 XB (by omega)).trans (rv_get cs XB (by omega))
                have k5 := (hc2 A (by omega)).trans (rv_get bs A (by omega))
                have k6 := (hc2 B (by omega)).trans (rv_get bs B (by omega))
                obtain ⟨m1, m2⟩ := (HM A B hA hB).out
                have m3 := HX.out
                simp only [Int.toNat_natCast] at m3
                clear HM HX hc7 hc2 hO7 hO2' hlb hlc
                generalize (nth cs A).r = qa at *
                generalize (nth cs B).r = qb at *
                generalize (nth cs XA).r = qx at *
                generalize (nth cs XB).r = qy at *
                generalize (nth bs A).r = ra at *
                generalize (nth bs B).r = rb at *
                subst m3
                have d1 : decide (qa ≤ ra) = true := by simpa using m1
                have d3 : (qx == qx) = true := by simp
                by_cases hr : ra = rb
                · obtain rfl := m2 hr
                  subst hr
                  have d2 : (ra != ra) = false := by simp
                  have d4 : (qa == qa) = true := by simp
                  clear m1 m2
                  go_wp2
                  (refine wp_region_mix (fun _ => True) 42 (by kernel_rfl) (by kernel_rfl) (trivial) ?_; simp only [List.take_succ_cons, List.take_zero, List.drop_succ_cons, List.drop_zero])
                  (refine wpMix_earlyN 42 (by kernel_rfl) (by kernel_rfl) ?_; simp only [List.take_succ_cons, List.take_zero, List.drop_succ_cons, List.drop_zero]; (repeat (go_big_quiet_step (fail))); refine wpQuiet_nil ?_)
                  refine wpMix_nil ?_
                  go_wp2
                  go_ret
                  exact RetV.mk rfl rfl hF07.drew
                · have d2 : (ra != rb) = true := by simpa using hr
                  clear m1 m2 hr
                  go_wp2
                  (refine wp_region_mix (fun _ => True) 42 (by kernel_rfl) (by kernel_rfl) (trivial) ?_; simp only [List.take_succ_cons, List.take_zero, List.drop_succ_cons, List.drop_zero])
                  (refine wpMix_earlyN 42 (by kernel_rfl) (by kernel_rfl) ?_; simp only [List.take_succ_cons, List.take_zero, List.drop_succ_cons, List.drop_zero]; (repeat (go_big_quiet_step (fail))); refine wpQuiet_nil ?_)
                  refine wpMix_nil ?_
                  go_wp2
                  go_ret
                  exact RetV.mk rfl rfl hF07.drew
              · go_wp2
                go_ret
                exact RetV.mk rfl rfl hF07
          · go_wp2
            go_ret
            exact RetV.mk rfl rfl hF07
end Go.Proofs.Ytakkljdeencfbaa
