import Derived.Test.YtakkljdeencfbaaSpf
import Derived.Test.YtakkljdeencfbaaSpfLaw
import Derived.Test.YtakkljdeencfbaaSpan3
import Derived.Test.YtakkljdeencfbaaLinkRow
import Derived.Test.YtakkljdeencfbaaStepApp
namespace Go.Proofs.Ytakkljdeencfbaa
open Go.RowKit

/-- What came of the distances: an error, or a row of them. -/
def GotF (w : World) (n : Int) (l : List Lk) (s : Int) (v er : Value) : Prop :=
  (∃ k, farErr n l s = some k ∧ er = errv k) ∨ (farErr n l s = none ∧ er = .nilIface ∧ ∃ a c ob far, v = .slice a n.toNat c ∧ Own w.heap 3 1 a n.toNat c (ivals .i64 far) ob ∧ IsFar n.toNat (costF n.toNat l) s.toNat far)
theorem RetFar.got {w w' : World} {n : Int} {l : List Lk} {s : Int} {e : Ending} (h : RetFar w n l s (farErr n l s) e w') : ∃ v er, e = .returned (.tuple #[v, er]) ∧ GotF w' n l s v er ∧ Fr (fun _ => False) w w' := by
  cases hg : farErr n l s with
  | some k =>
    rw [hg] at h
    obtain ⟨rfl, hF⟩ := h
    exact ⟨_, _, rfl, .inl ⟨k, hg, rfl⟩, hF⟩
  | none =>
    rw [hg] at h
    obtain ⟨far, hf, a, c, ob, rfl, hO, hF, -⟩ := h
    exact ⟨_, _, rfl, .inr ⟨hg, rfl, a, c, ob, far, rfl, hO, hf⟩, hF⟩
theorem RetFar.one {w w' : World} {e : Ending} (h : RetFar w 2 [⟨0, 1, 3⟩] 0 (farErr 2 [⟨0, 1, 3⟩] 0) e w') : ∃ g c, e = .returned (.tuple #[.slice (some ⟨g, 0, none⟩) 2 c, .nilIface]) ∧ w'.cell? ⟨g, 1, none⟩ = some (.int .i64 3) ∧ g < w'.heap.size ∧ Fr (fun _ => False) w w' := by
  rw [show farErr 2 [⟨0, 1, 3⟩] 0 = none from rfl] at h
  obtain ⟨far, hf, a, c, ob, rfl, hO, hF, -⟩ := h
  obtain rfl := far_one hf
  obtain ⟨g, rfl, -, hg, hc, -⟩ := hO.pos (by decide)
  exact ⟨g, c, rfl, hc 1 (by decide), hg, hF⟩
theorem farErr_ok {n : Int} {l : List Lk} {s : Int} (h : farErr n l s = none) : graphErr n l = none ∧ 0 ≤ s ∧ s < n := by
  unfold farErr at h
  split at h
  · cases h
  · rename_i hg
    split at h
    · cases h
    · exact ⟨hg, by omega, by omega⟩

theorem far_app {n s : Int} {l : List Lk} {xa xb xc : Int} {a : Option Addr} {c : Nat} {w : World} (h : Rd w.heap a (l.length + 1) 3 (l.flatMap Lk.cells ++ [.int .i64 xa, .int .i64 xb, .int .i64 xc])) (hl : l.length + 1 ≤ 9223372036854775807) (hw : ∀ x ∈ l, (Lit.int .i64 x.a).wf = true ∧ (Lit.int .i64 x.b).wf = true ∧ (Lit.int .i64 x.c).wf = true) (hx : Lk.wf ⟨xa, xb, xc⟩) :
    Calls Try.prog 18 #[.int .i64 n, .slice a (l.length + 1) c, .int .i64 s] w (RetFar w n (l ++ [⟨xa, xb, xc⟩]) s (farErr n (l ++ [⟨xa, xb, xc⟩]) s)) := by
  have hlen : (l ++ [(⟨xa, xb, xc⟩ : Lk)]).length = l.length + 1 := by simp
  rw [← hlen]
  refine far_any n _ a c s w ?_ (by rw [hlen]; exact hl) (fun y hy => ?_)
  · unfold Links Recs
    rw [hlen, List.flatMap_append]
    simpa using h
  · rcases List.mem_append.1 hy with hy | hy
    · exact hw y hy
    · rw [List.mem_singleton.1 hy]; exact hx
theorem made1 (w : World) (o : Obj) (E : TypeId) (sz n : Nat) (cs : List Value) (hl : cs.length = n * sz) (hn : n ≤ maxLen) :
    Own ((w.alloc o).alloc (.cells cs.toArray E)).heap E sz (some ⟨w.heap.size + 1, 0, none⟩) n n cs (some (w.heap.size + 1)) := by
  have := Own.made (w.alloc o) E sz n cs hl hn
  rwa [show (w.alloc o).heap.size = w.heap.size + 1 by simp] at this
theorem lit_after {w w' : World} {o : Obj} {T : TypeId} {xs : List Value} (z : Fr (fun k => some w.heap.size = some k) ((w.alloc o).alloc (.cells xs.toArray T)).drew w') : Rd w'.heap (some ⟨w.heap.size + 1, 0, none⟩) 1 xs.length xs :=
  ((rd_lit1 w o T xs).fr ((Fr.refl (fun _ => False) _).drew) (fun _ _ _ h => h)).fr z (fun b off h hS => by simp only [Option.some.injEq, Addr.mk.injEq] at h hS; omega)
theorem lit_before {w w' : World} {o : Obj} {T : TypeId} {xs : List Value} (z : Fr (fun k => some (w.heap.size + 1) = some k) ((w.alloc (.cells xs.toArray T)).alloc o).drew w') : Rd w'.heap (some ⟨w.heap.size, 0, none⟩) 1 xs.length xs :=
  ((rd_lit w T xs).fr (((Fr.refl (fun _ => False) _).alloc o).drew) (fun _ _ _ h => h)).fr z (fun b off h hS => by simp only [Option.some.injEq, Addr.mk.injEq] at h hS; omega)
set_option maxRecDepth 100000 in
set_option maxHeartbeats 1500000 in
theorem spfMore_any (n : Int) (l : List Lk) (a : Option Addr) (c : Nat) (x : Lk) (aa bb : Int) (w : World) (hL : Links w.heap a l) (hl : l.length * 24 ≤ 140737488351232) (hw : ∀ x ∈ l, (Lit.int .i64 x.a).wf = true ∧ (Lit.int .i64 x.b).wf = true ∧ (Lit.int .i64 x.c).wf = true) (hx : Lk.wf x) :
    Calls Try.prog 6 #[.int .i64 n, .slice a l.length c, .agg #[.int .i64 x.a, .int .i64 x.b, .int .i64 x.c], .int .i64 aa, .int .i64 bb] w (RetV w (.bool true)) := by
  have hone : Links (((w.alloc (.cells #[.int .i64 x.a, .int .i64 x.b, .int .i64 x.c] 29)).alloc (.cells #[.int .i64 0, .int .i64 1, .int .i64 3] 29)).heap) (some ⟨w.heap.size + 1, 0, none⟩) [⟨0, 1, 3⟩] := rd_lit1 w _ 29 [.int .i64 0, .int .i64 1, .int .i64 3]
  have hwone : ∀ x ∈ [(⟨0, 1, 3⟩ : Lk)], (Lit.int .i64 x.a).wf = true ∧ (Lit.int .i64 x.b).wf = true ∧ (Lit.int .i64 x.c).wf = true := fun x hx => by rw [List.mem_singleton.1 hx]; exact ⟨rfl, rfl, rfl⟩
  go_enter Try.func6, Try.ntmps6
  go_wp2_with (fail)
  refine (far_any 2 [⟨0, 1, 3⟩] _ 1 0 _ hone (by decide) hwone).mono ?_
  intro e1 w1 R1
  obtain ⟨g1, c1, rfl, hc1, hg1, hF1⟩ := R1.one
  have hFw1 := (((Fr.refl (fun _ => False) w).alloc (.cells #[.int .i64 x.a, .int .i64 x.b, .int .i64 x.c] 29)).alloc (.cells #[.int .i64 0, .int .i64 1, .int .i64 3] 29)).trans hF1
  have hL1 := hL.fr hFw1 (fun _ _ _ h => h)
  clear hone
  go_wp2_with (fail)
  refine (far_any n l a c aa _ hL1 (by omega) hw).mono ?_
  intro e2 w2 R2
  obtain ⟨v2, r2, rfl, hG2, hF2⟩ := R2.got
  have hc2 := (hF2.cell (p := ⟨g1, 1, none⟩) hg1 (fun h => h)).trans hc1
  clear hc1
  go_wp2
  obtain ⟨xa, xb, xc⟩ := x
  have y0 := ((hF2.cell (p := ⟨w.heap.size, 0, none⟩) (Nat.lt_of_lt_of_le (by simp; omega) hF1.size) (fun h => h)).trans (hF1.cell (p := ⟨w.heap.size, 0, none⟩) (by simp; omega) (fun h => h))).trans (show _ = some (Value.int .i64 xa) by simp)
  have y1 := ((hF2.cell (p := ⟨w.heap.size, 1, none⟩) (Nat.lt_of_lt_of_le (by simp; omega) hF1.size) (fun h => h)).trans (hF1.cell (p := ⟨w.heap.size, 1, none⟩) (by simp; omega) (fun h => h))).trans (show _ = some (Value.int .i64 xb) by simp)
  have y2 := ((hF2.cell (p := ⟨w.heap.size, 2, none⟩) (Nat.lt_of_lt_of_le (by simp; omega) hF1.size) (fun h => h)).trans (hF1.cell (p := ⟨w.heap.size, 2, none⟩) (by simp; omega) (fun h => h))).trans (show _ = some (Value.int .i64 xc) by simp)
  have hws : w.heap.size < w2.heap.size := by
    have h1 := hF1.size
    have h2 := hF2.size
    simp at h1
    omega
  have hrl := (hL1.fr hF2 (fun _ _ _ h => h)).fr ((Fr.refl (fun _ => False) w2).drew) (fun _ _ _ h => h)
  have hFd := (Fr.refl (fun _ => False) w2).drew
  have hFw2 := hFw1.trans hF2
  clear hL hL1 R1 R2 hF1 hF2 hFw1 hc2 hg1
  go_region_law (first
    | (refine step_app rfl (.tmp 45) (.tmp 46) 22 rfl Try.underlying22 infoLk rfl (by decide) rfl rfl (by first | exact Own.made _ 29 3 0 [] rfl (by decide) | exact made1 _ _ 29 3 0 [] rfl (by decide) | exact (Own.made _ 29 3 0 [] rfl (by decide)).alloc _) (by first | exact hrl.fr ((Fr.refl (fun _ => False) _).alloc _) (fun _ _ _ h => h) | exact hrl.fr (((Fr.refl (fun _ => False) _).alloc _).alloc _) (fun _ _ _ h => h)) (lk_one l) (by omega) (by omega) ?_; intro a4 c4 w4 ob4 z1 z2 z3
       rw [Nat.zero_add, List.nil_append] at z1
       have hF4 : Fr (fun _ => False) w2 w4 := (by first | exact (hFd.alloc _).trans' z2 (fun q hq h => by simp only [Option.some.injEq] at h; omega) | exact ((hFd.alloc _).alloc _).trans' z2 (fun q hq h => by simp only [Option.some.injEq] at h; omega))
       have x0 := (hF4.cell (p := ⟨w.heap.size, 0, none⟩) hws (fun h => h)).trans y0
       have x1 := (hF4.cell (p := ⟨w.heap.size, 1, none⟩) hws (fun h => h)).trans y1
       have x2 := (hF4.cell (p := ⟨w.heap.size, 2, none⟩) hws (fun h => h)).trans y2
       have hrx : (∀ T (xs : List Value), Rd (w4.alloc (.cells xs.toArray T)).heap (some ⟨w4.heap.size, 0, none⟩) 1 xs.length xs) := (fun T xs => rd_lit w4 T xs))
    | (go_simp; go_at_call 18; refine (far_app hL6 (by omega) hw hx).mono ?_; intro e7 w7 R7; obtain ⟨v7, r7, rfl, hG7, hF7⟩ := R7.got)
    | (refine step_app rfl (.tmp 47) (.tmp 49) 22 rfl Try.underlying22 infoLk rfl (by decide) rfl rfl (by first | exact z1 | exact z1.alloc _) (by first | exact hrx _ [.int .i64 xa, .int .i64 xb, .int .i64 xc] | exact lit_after (xs := [.int .i64 xa, .int .i64 xb, .int .i64 xc]) z2 | exact lit_before (xs := [.int .i64 xa, .int .i64 xb, .int .i64 xc]) z2) (by simp [Value.oneCell']) (by omega) (by omega) ?_; intro a6 c6 w6 ob6 u1 u2 u3
       have hL6 := u1.rd
       have hF6 : Fr (fun _ => False) w2 w6 := (by first | exact Fr.app (hF4.alloc _) u2 (fun g h => by rcases z3 with z3 | ⟨g', z3, z4⟩ <;> rw [z3] at h <;> cases h <;> simp at * <;> omega) | exact Fr.app hF4 u2 (fun g h => by rcases z3 with z3 | ⟨g', z3, z4⟩ <;> rw [z3] at h <;> cases h <;> simp at * <;> omega))))
  all_goals
    have hF27 := hF6.trans hF7
    have hF07 := hFw2.trans hF27
    rcases hG7 with ⟨k7, hg7, rfl⟩ | ⟨hg7, rfl, a7, c7, ob7, far', rfl, hO7, hf7⟩
    · rcases hG2 with ⟨k2, hg2, rfl⟩ | ⟨hg2, rfl, a2, c2, ob2, far, rfl, hO2, hf2⟩
      · clear hg7 hg2 hL6 u1 u2 u3 z1 z2 z3 hrx x0 x1 x2 y0 y1 y2 hrl
        go_wp2
        go_ret
        exact RetV.mk rfl rfl hF07
      · clear hg7 hg2 hL6 u1 u2 u3 z1 z2 z3 hrx x0 x1 x2 y0 y1 y2 hrl hO2 hf2
        go_wp2
        go_ret
        exact RetV.mk rfl rfl hF07
    · rcases hG2 with ⟨k2, hg2, rfl⟩ | ⟨hg2, rfl, a2, c2, ob2, far, rfl, hO2, hf2⟩
      · clear hg7 hg2 hL6 u1 u2 u3 z1 z2 z3 hrx x0 x1 x2 y0 y1 y2 hrl hO7 hf7
        go_wp2
        go_ret
        exact RetV.mk rfl rfl hF07
      · obtain ⟨hg7', has⟩ := farErr_ok hg7
        obtain ⟨hn, hlk, -⟩ := graph_ok hg7'
        have hxb := (hlk ⟨xa, xb, xc⟩ (by simp)).1
        simp only [Lk.bad] at hxb
        obtain ⟨N, rfl⟩ : ∃ N : Nat, n = N := ⟨n.toNat, by omega⟩
        obtain ⟨XA, rfl⟩ : ∃ k : Nat, xa = k := ⟨xa.toNat, by omega⟩
        obtain ⟨XB, rfl⟩ : ∃ k : Nat, xb = k := ⟨xb.toNat, by omega⟩
        obtain ⟨AA, rfl⟩ : ∃ k : Nat, aa = k := ⟨aa.toNat, by omega⟩
        obtain ⟨hcm, hc1, hc2⟩ := cost_more hg7'
        have hXA : XA < N := by omega
        have hXB : XB < N := by omega
        simp only [Int.toNat_natCast] at hO7 hO2 hf7 hf2 hc1 hc2
        have q0 := (hF27.cell (p := ⟨w.heap.size, 0, none⟩) hws (fun h => h)).trans y0
        have q1 := (hF27.cell (p := ⟨w.heap.size, 1, none⟩) hws (fun h => h)).trans y1
        have q2 := (hF27.cell (p := ⟨w.heap.size, 2, none⟩) hws (fun h => h)).trans y2
        have hO2' := hO2.fr hF27 (fun _ _ h => h)
        have hl7 := hf7.len
        have hl2 := hf2.len
        have HM := fun (b : Nat) (hb : b < N) => Lib.hid (hf2.le hf7 hcm hb)
        have t1 := hf7.tri XB XA hXB hXA
        have t2 := hf7.tri XA XB hXA hXB
        have e1 : costF N (l ++ [⟨XA, XB, xc⟩]) XB XA = xc := hc2
        have e2 : costF N (l ++ [⟨XA, XB, xc⟩]) XA XB = xc := hc1
        rw [e1] at t1
        rw [e2] at t2
        have bA := hf7.bd XA hXA
        have bB := hf7.bd XB hXB
        clear hg7 hg7' hg2 hL6 u1 u2 u3 z1 z2 z3 hrx x0 x1 x2 y0 y1 y2 hrl hf7 hf2 hO2 hcm hc1 hc2 e1 e2 hlk hws hF4 hF6 hF7 hF27 hFw2 hFd R7 hn has
        by_cases hb0 : bb < 0
        · go_wp2
          go_ret
          exact RetV.mk rfl rfl hF07
        · by_cases hb1 : bb < N
          · obtain ⟨B, rfl⟩ : ∃ k : Nat, bb = k := ⟨bb.toNat, by omega⟩
            have hB : B < N := by omega
            obtain ⟨g7, rfl, -, -, hc7, -⟩ := hO7.pos (by omega)
            obtain ⟨g2, rfl, -, -, hc2, -⟩ := hO2'.pos (by omega)
            have k1 := (hc7 B (by omega)).trans (ivals_get .i64 far' B (by omega))
            have k2 := (hc2 B (by omega)).trans (ivals_get .i64 far B (by omega))
            have k3 := (hc7 XA (by omega)).trans (ivals_get .i64 far' XA (by omega))
            have k4 := (hc7 XB (by omega)).trans (ivals_get .i64 far' XB (by omega))
            have m1 := (HM B hB).out
            clear HM hc7 hc2 hO7 hO2' hl7 hl2
            generalize nth far' B = fb at *
            generalize nth far B = db at *
            generalize nth far' XA = fa at *
            generalize nth far' XB = fb' at *
            have d1 : decide (fb ≤ db) = true := by simpa using m1
            have d2 : decide (fa ≤ fb' + xc) = true := by simpa using t1
            have d3 : decide (fb' ≤ fa + xc) = true := by simpa using t2
            have s1 : 0 ≤ fb' + xc := by omega
            have s2 : 0 ≤ fa + xc := by omega
            have xc1 : 1 ≤ xc ∧ xc ≤ 15 := by omega
            clear m1 t1 t2 hb0 hb1 hxb
            go_wp2
            (refine wp_region_mix (fun _ => True) 39 (by kernel_rfl) (by kernel_rfl) (trivial) ?_; simp only [List.take_succ_cons, List.take_zero, List.drop_succ_cons, List.drop_zero])
            (refine wpMix_earlyN 39 (by kernel_rfl) (by kernel_rfl) ?_; simp only [List.take_succ_cons, List.take_zero, List.drop_succ_cons, List.drop_zero]; (repeat (go_big_quiet_step (fail))); refine wpQuiet_nil ?_)
            refine wpMix_nil ?_
            go_wp2
            go_ret
            exact RetV.mk rfl rfl hF07.drew
          · go_wp2
            go_ret
            exact RetV.mk rfl rfl hF07
end Go.Proofs.Ytakkljdeencfbaa
