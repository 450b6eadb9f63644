import Derived.Test.YtfjempfffdeklaaDoorViewed
import Derived.Test.YtfjempfffdeklaaDoorBestSame
import Derived.Test.YtfjempfffdeklaaDoorOwn1
import Derived.Test.YtfjempfffdeklaaDoorTold
namespace Go.Proofs.YtfjempfffdeklaaDoor
open Go.RowKit

theorem infoBest : (Tryd.prog.info? 40).map (fun i => (i.zero, i.size, i.bytes)) = some (some (.agg #[.int .u32 0, .int .i64 0, .int .i64 0, .slice none 0 0]), 4, 48) := by kernel_rfl
/-- A way without where its list lies. -/
def _root_.Go.BestR.bare (x : BestR) : BestR := ⟨x.a, x.n, x.m, x.h, none, 0⟩
theorem viewErrL_bare : ∀ (l : List BestR) (s : List Nt), viewErrL s (l.map BestR.bare) = viewErrL s l
  | [], _ => rfl
  | b :: l, s => by
    rw [List.map_cons]
    unfold viewErrL
    rw [show viewErr1 s b.bare = viewErr1 s b from rfl]
    cases viewErr1 s b with
    | some k => rfl
    | none => exact viewErrL_bare l _
theorem viewErr_bare (to : Int) (l : List BestR) : viewErr to (l.map BestR.bare) = viewErr to l := by unfold viewErr; rw [viewErrL_bare]
theorem viewOut_bare (to : Int) (p : Bool) (l : List BestR) : viewOut to p (l.map BestR.bare) = viewOut to p l := by
  unfold viewOut
  rw [List.flatMap_map]
  rfl
theorem bare_nth {L l : List BestR} (h : L.map BestR.bare = l.map BestR.bare) {i : Nat} (hi : i < L.length) : bEq (nth L i) (nth l i) = true := by
  have hl : L.length = l.length := by have := congrArg List.length h; simpa using this
  have h1 : nth (L.map BestR.bare) i = nth (l.map BestR.bare) i := by rw [h]
  rw [nth_map _ _ _ hi, nth_map _ _ _ (by omega)] at h1
  unfold BestR.bare at h1
  simp only [BestR.mk.injEq] at h1
  exact decide_eq_true ⟨h1.2.2.2.1, h1.1, h1.2.1, h1.2.2.1⟩
/-- How many entries are told. -/
def vLen (r : Option Int) (to : Int) (p : Bool) (l : List BestR) : Nat := match r with
  | none => (viewOut to p l).length
  | some _ => 0
theorem vLen_bare (r : Option Int) (to : Int) (p : Bool) {L l : List BestR} (h : L.map BestR.bare = l.map BestR.bare) : vLen r to p L = vLen r to p l := by
  unfold vLen
  cases r with
  | some k => rfl
  | none => simp only; rw [← viewOut_bare to p L, h, viewOut_bare]
theorem RetView.uni {w w' : World} {to : Int} {poison : Bool} {l : List BestR} {r : Option Int} {e : Ending} (h : RetView w to poison l r e w') : ∃ a c ob xs, e = .returned (.tuple #[.slice a (vLen r to poison l) c, errT r]) ∧ Own w'.heap 43 5 a (vLen r to poison l) c xs ob ∧ Fr (fun _ => False) w w' ∧ (∀ g, ob = some g → w.heap.size ≤ g) := by
  cases r with
  | some k =>
    obtain ⟨rfl, hF⟩ := h
    exact ⟨none, 0, none, [], rfl, Own.nil _ _ _, hF, fun g h => nomatch h⟩
  | none =>
    obtain ⟨a, c, ob, rfl, hO, hF, hN⟩ := h
    exact ⟨a, c, ob, _, rfl, hO, hF, hN⟩
theorem _root_.Go.Own.capMax {H : Array Obj} {E : TypeId} {sz : Nat} {a : Option Addr} {n cap : Nat} {xs : List Value} {ob : Option Nat} (h : Own H E sz a n cap xs ob) : cap ≤ maxLen := by
  rcases h.is with ⟨_, _, h1, _⟩ | ⟨_, _, _, _, _, _, h1, _⟩
  · rw [h1]; exact Nat.zero_le _
  · exact h1
/-- Ways of the call's own. -/
structure OB (H : Array Obj) (base : Nat) (a : Option Addr) (n c : Nat) (ob : Option Nat) (L : List BestR) : Prop where
  len : L.length = n
  top : Own H 40 4 a n c (L.flatMap BestR.cells) ob
  row : ∀ x ∈ L, ∃ g, base ≤ g ∧ ob ≠ some g ∧ Own H 3 1 x.A x.h.length x.C (ivals .i64 x.h) (some g)
  wf : ∀ x ∈ L, BestR.wf x
  new : ∀ g, ob = some g → base ≤ g
theorem OB.nil (H : Array Obj) (base : Nat) : OB H base none 0 0 none [] := ⟨rfl, Own.nil _ _ _, (fun _ h => nomatch h), (fun _ h => nomatch h), (fun _ h => nomatch h)⟩
theorem OB.bests {H : Array Obj} {base : Nat} {a : Option Addr} {n c : Nat} {ob : Option Nat} {L : List BestR} (h : OB H base a n c ob L) : Bests H a L :=
  ⟨by have := h.top.rd; rwa [← h.len] at this, h.wf, fun x hx => by obtain ⟨g, _, _, h1⟩ := h.row x hx; exact h1.rd⟩
theorem OB.push {w w1 w' : World} {base : Nat} {a a' : Option Addr} {n c c' : Nat} {ob ob' : Option Nat} {L : List BestR} {x : BestR} {g : Nat} {o : Obj} (h : OB w.heap base a n c ob L) (hF : Fr (fun _ => False) w w1) (hg : w.heap.size ≤ g) (hx : Own w1.heap 3 1 x.A x.h.length x.C (ivals .i64 x.h) (some g)) (hb : base ≤ w.heap.size) (hw : BestR.wf x)
    (z1 : Own w'.heap 40 4 a' (n + 1) c' (L.flatMap BestR.cells ++ BestR.cells x) ob') (z2 : Fr (fun k => ob = some k) (w1.alloc o) w') (z3 : ob' = ob ∨ ∃ g, ob' = some g ∧ w1.heap.size + 1 ≤ g) : OB w'.heap base a' (n + 1) c' ob' (L ++ [x]) := by
  have hol := h.top.lt
  have hsz := hF.size
  have hF1 : Fr (fun k => ob = some k) w w' := ((hF.alloc o).none _).trans z2
  have hgl := hx.lt g rfl
  refine ⟨by rw [List.length_append, h.len]; rfl, by rw [List.flatMap_append]; simpa using z1, fun y hy => ?_, fun y hy => ?_, ?_⟩
  · rcases List.mem_append.1 hy with hy | hy
    · obtain ⟨k, h1, h2, h3⟩ := h.row y hy
      have hk := h3.lt k rfl
      refine ⟨k, h1, ?_, h3.fr hF1 (fun q hq h => by cases hq; exact h2 h)⟩
      rcases z3 with z3 | ⟨g', z3, z4⟩
      · rw [z3]; exact h2
      · rw [z3]; intro e; cases e; omega
    · rw [List.mem_singleton] at hy
      subst hy
      refine ⟨g, by omega, ?_, (hx.alloc o).fr z2 (fun q hq h => by cases hq; have := hol _ h; omega)⟩
      rcases z3 with z3 | ⟨g', z3, z4⟩
      · rw [z3]; intro e; have := hol _ e; omega
      · rw [z3]; intro e; cases e; omega
  · rcases List.mem_append.1 hy with hy | hy
    · exact h.wf y hy
    · rw [List.mem_singleton] at hy; subst hy; exact hw
  · exact app_new h.new z3 (by omega)
theorem OB.fr0 {S : Nat → Prop} {w w' : World} {base : Nat} {a : Option Addr} {n c : Nat} {ob : Option Nat} {L : List BestR} (h : OB w.heap base a n c ob L) (f : Fr S w w') (hs : ∀ k, k < w.heap.size → ¬ S k) : OB w'.heap base a n c ob L :=
  ⟨h.len, h.top.fr f (fun g hg => hs g (h.top.lt g hg)), fun x hx => by obtain ⟨g, h1, h2, h3⟩ := h.row x hx; exact ⟨g, h1, h2, h3.fr f (fun q hq => hs q (h3.lt q hq))⟩, h.wf, h.new⟩
theorem Bests.r {H : Array Obj} {a : Option Addr} {l : List BestR} (h : Bests H a l) : BestsR H a l :=
  ⟨h.top, h.row, fun x hx => by
    have hw := h.wf x hx
    have h1 : x.h.length ≤ x.C := hw.2.2.1
    have h2 : x.C ≤ 9223372036854775807 := hw.2.2.2.1
    omega⟩

abbrev zB : BestR := ⟨0, 0, 1, [], none, 0⟩
theorem zB_wf : BestR.wf zB :=
  ⟨⟨(by decide : (0 : Int) ≤ 0), (by decide : (0 : Int) < 4294967296), (by decide : (Lit.int .i64 0).wf = true)⟩, (by decide : (Lit.int .i64 1).wf = true), Nat.le_refl 0, (by decide : 0 ≤ maxLen), (fun z hz => nomatch hz), fun _ => rfl⟩
theorem zB_ok : viewErr 0 [zB] = none := by
  have h1 : netErr 0 0 = none := by decide
  have h2 : viewErr1 [] zB = none := by
    unfold viewErr1
    simp only [h1]
    rw [if_neg (by decide), if_neg (by simp)]
  unfold viewErr
  rw [if_neg (by decide)]
  unfold viewErrL
  rw [h2]
  rfl

set_option maxRecDepth 100000 in
set_option maxHeartbeats 4000000 in
theorem viewOwn_any (l : List BestR) (al : Option Addr) (c : Nat) (to x : Int) (poison : Bool) (w : World) (hg : Hd w) (hL : Bests w.heap al l) (hl : l.length * 48 ≤ 140737488351232) (hh : Hid (∀ q ∈ l, q.h.length * 8 ≤ 140737488351232)) :
    Calls Tryd.prog 4 #[.slice al l.length c, .int .i64 to, .bool poison, .int .i64 x] w (RetV w (.bool true)) := by
  have HL := Lib.hid hL
  clear hL
  go_enter Tryd.func4, Tryd.ntmps4
  go_wp2
  go_loopw [10, 9] (fun s10 s9 wr => ∃ (k : Nat) (L : List BestR) (ao : Option Addr) (co : Nat) (ob : Option Nat), k ≤ l.length ∧ s10 = .int .i64 k ∧ s9 = .slice ao k co ∧ OB wr.heap w.heap.size ao k co ob L ∧ Fr (fun _ => False) w wr ∧ Hid (L.map BestR.bare = (l.take k).map BestR.bare)) (fun s _ _ => l.length - (intOf s).toNat)
  case atStart => exact ⟨0, [], none, 0, none, by omega, rfl, rfl, OB.nil _ _, Fr.refl _ _, Lib.hid rfl⟩
  case round =>
    obtain ⟨k, L, ao, co, ob, hk, rfl, rfl, hO, hF, hB⟩ := hrel
    by_cases hkl : k < l.length
    · have hLr := HL.out.fr0 hF (fun _ _ h => h)
      obtain ⟨b, off, rfl, hbb, hc⟩ := Recs.pos hLr.top BestR.cells_len (by omega) (by omega)
      have dd := fun (cl : Cls (fun _ => False) wr) (j : Nat) (hj : j < 4) => (cl.fr.cell (p := ⟨b, off + (k * 4 + j), none⟩) hbb (fun h => h)).trans (hc wr rfl k j hkl hj)
      have d3 := hc wr rfl k 3 hkl (by omega)
      have d0 := fun cl => dd cl 0 (by omega)
      have d1 := fun cl => dd cl 1 (by omega)
      have d2 := fun cl => dd cl 2 (by omega)
      have hxm := nth_mem l k hkl
      have hwf := hLr.wf _ hxm
      have hrow := hLr.row _ hxm
      have hsz := hh.out _ hxm
      have htk := take_succ_nth l k hkl
      obtain ⟨y, hy⟩ : ∃ x, x = nth l k := ⟨_, rfl⟩
      rw [← hy] at d0 d1 d2 d3 hwf hrow htk hsz
      obtain ⟨xa, xn, xm, xh, xA, xC⟩ := y
      simp only [BestR.cells, List.getElem?_cons_zero, List.getElem?_cons_succ, ← Nat.add_assoc, Nat.add_zero] at d0 d1 d2 d3
      simp only at hsz
      have HTK := Lib.hid htk
      have HWF := Lib.hid hwf
      have hws := hF.size
      clear hc dd hxm hwf htk hy hLr
      go_wp2
      (refine wp_region_mix (fun w' => ∃ c : Cls (fun _ => False) wr, w' = c.wo) 19 (by kernel_rfl) (by kernel_rfl) (⟨⟨_, (Fr.refl _ _).drew⟩, rfl⟩) ?_; simp only [List.take_succ_cons, List.take_zero, List.drop_succ_cons, List.drop_zero])
      (refine wpMix_lateN 11 (⟨⟨_, (Fr.refl _ _).drew⟩, rfl⟩) (by kernel_rfl) ?_; simp only [List.take_succ_cons, List.take_zero, List.drop_succ_cons, List.drop_zero]; (repeat (go_big_quiet_step (fail))); refine wpQuiet_nil ?_)
      (refine wpMix_earlyN 5 (by kernel_rfl) (by kernel_rfl) ?_; simp only [List.take_succ_cons, List.take_zero, List.drop_succ_cons, List.drop_zero]; (repeat (go_big_quiet_step (fail))); refine wpQuiet_nil ?_)
      refine wpMix_eff (by kernel_rfl) ?_
      go_wp2_with (fail)
      refine (copy_any xA xh xC wr.drew rfl hsz (hrow.fr0 ((Fr.refl (fun _ => False) wr).drew) (fun _ _ h => h))).mono ?_
      rintro e1 w1 ⟨g, c1, rfl, hO1, hF1, hg1⟩
      have hF11 : Fr (fun _ => False) wr w1 := (Fr.refl (fun _ => False) wr).drew.trans hF1
      go_wp2
      refine ⟨⟨⟨_, hF11⟩, rfl⟩, ?_⟩
      (refine wpMix_lateN 1 (⟨⟨_, (Fr.refl _ _).drew⟩, rfl⟩) (by kernel_rfl) ?_; simp only [List.take_succ_cons, List.take_zero, List.drop_succ_cons, List.drop_zero]; (repeat (go_big_quiet_step (fail))); refine wpQuiet_nil ?_)
      refine wpMix_eff (by kernel_rfl) ?_
      go_wp2
      refine ⟨⟨⟨_, hF11.alloc _⟩, rfl⟩, ?_⟩
      refine wpMix_nil ?_
      have hrd := (Own.made w1 40 4 1 [.int .u32 xa, .int .i64 xn, .int .i64 xm, .slice (some ⟨g, 0, none⟩) xh.length c1] rfl (by decide)).rd
      have hO11 := (hO.top.fr hF11 (fun _ _ h => h)).alloc (.cells #[.int .u32 xa, .int .i64 xn, .int .i64 xm, .slice (some ⟨g, 0, none⟩) xh.length c1] 40)
      go_wp2_with (at_builtin; refine wpList_app rfl _ _ 22 rfl Tryd.underlying22 infoBest rfl (by decide) rfl rfl hO11 hrd (by simp [Value.oneCell']) (by omega) (by omega) ?_)
      intro a6 c6 w6 ob6 z1 z2 z3
      have hwf6 : BestR.wf ⟨xa, xn, xm, xh, some ⟨g, 0, none⟩, c1⟩ := ⟨HWF.out.1, HWF.out.2.1, hO1.cap, hO1.capMax, HWF.out.2.2.2.2.1, fun h => nomatch h⟩
      have hO6 := hO.push (x := ⟨xa, xn, xm, xh, some ⟨g, 0, none⟩, c1⟩) hF11 hg1 hO1 hws hwf6 z1 z2 z3
      have hF6 := Fr.app ((hF.trans hF11).alloc _) z2 hO.new
      have hB6 : Hid ((L ++ [(⟨xa, xn, xm, xh, some ⟨g, 0, none⟩, c1⟩ : BestR)]).map BestR.bare = (l.take (k + 1)).map BestR.bare) := Lib.hid (by rw [HTK.out, List.map_append, List.map_append, hB.out]; rfl)
      have HO6 := Lib.hid hO6
      clear z1 z2 z3 hO6 hrd hO11 hwf6 hO1 hF1 hO
      go_wp2
      go_roundw
      case rel => exact ⟨k + 1, _, a6, c6, ob6, by omega, by go_num, rfl, HO6.out, hF6, hB6⟩
      case measure => simp [intOf]; omega
    · obtain rfl : k = l.length := by omega
      obtain ⟨wo, rfl⟩ : ∃ wo : World, wo = wr := ⟨_, rfl⟩
      have hbe : L.map BestR.bare = l.map BestR.bare := by rw [hB.out, List.take_length]
      have hLl := hO.len
      have hEq := viewErr_bare to L
      rw [hbe, viewErr_bare] at hEq
      have hbs := hO.bests
      have hv := view_any L ao co to poison wo hbs (by rw [hLl]; exact hl)
      rw [hLl, ← hEq] at hv
      have HLL := Lib.hid hLl
      have HBE := Lib.hid hbe
      have HOB := Lib.hid hO
      obtain ⟨E, hE⟩ : ∃ E, E = viewErr to l := ⟨_, rfl⟩
      rw [← hE] at hv
      have HE := Lib.hid hE
      have hol := hO.top.lt
      clear hLl hbe hEq hbs hkl hk hB hE hO
      go_wp2_with (fail)
      refine hv.mono ?_
      intro e2 w2 R2
      obtain ⟨a2, c2, ob2, xs2, rfl, hO2, hF2, hN2⟩ := R2.uni
      rw [vLen_bare E to poison HBE.out] at hO2 ⊢
      obtain ⟨V, hV⟩ : ∃ V, V = vLen E to poison l := ⟨_, rfl⟩
      rw [← hV] at hO2 ⊢
      have HV := Lib.hid hV
      have hVl := hO2.le
      clear R2 hV hv
      go_wp2_with (fail)
      have hBz : Bests (w2.alloc (.cells #[.int .u32 0, .int .i64 0, .int .i64 1, .slice none 0 0] 40)).heap (some ⟨w2.heap.size, 0, none⟩) [zB] := by
        refine ⟨(Own.made w2 40 4 1 [.int .u32 0, .int .i64 0, .int .i64 1, .slice none 0 0] rfl (by decide)).rd, fun x hx => ?_, fun x hx => ?_⟩
        · rw [List.mem_singleton.1 hx]; exact zB_wf
        · rw [List.mem_singleton.1 hx]; exact Rd.nil _ _ _
      refine (view_any [zB] _ 1 0 true _ hBz (by simp)).mono ?_
      intro e3 w3 R3
      obtain ⟨a3, c3, ob3, he3, -, hF3, -⟩ := R3.getN zB_ok
      have he3' : e3 = .returned (.tuple #[.slice a3 1 c3, .nilIface]) := he3
      clear he3
      subst he3'
      have hFw2 := hF.trans hF2
      have hF23 := ((Fr.refl (fun _ => False) w2).alloc (.cells #[.int .u32 0, .int .i64 0, .int .i64 1, .slice none 0 0] 40)).trans hF3
      have hO3 := hO2.fr hF23 (fun _ _ h => h)
      have hFr3 := hF2.trans hF23
      clear R3 hBz hO2 hF3
      go_wp2
      go_loopw [15] (fun s15 wr => ∃ (i : Nat) (ys : List Value), i ≤ V ∧ s15 = .int .i64 i ∧ Own wr.heap 43 5 a2 V c2 ys ob2 ∧ Fr (fun k => ob2 = some k) w3 wr) (fun s _ => V - (intOf s).toNat)
      case atStart => exact ⟨0, xs2, by omega, rfl, hO3, Fr.refl _ _⟩
      case round =>
        clear hO3
        obtain ⟨i, ys, hi, rfl, hY, hFx⟩ := hrel
        by_cases hil : i < V
        · obtain ⟨g, rfl, rfl, hg, hc, hfz⟩ := hY.pos (by omega)
          have hlen := hY.len
          have d4 := hc (i * 5 + 4) (by omega)
          obtain ⟨u, hu⟩ : ∃ u, ys[i * 5 + 4]? = some u := ⟨_, List.getElem?_eq_getElem (by omega)⟩
          rw [hu] at d4
          have f4 := hfz (i * 5 + 4)
          have hset := hY.set rfl (i * 5 + 4) (.int .i64 x)
          clear hc hfz hlen hu
          go_wp2
          go_roundw
          case rel => exact ⟨i + 1, _, by omega, by go_num, hset, hFx.setCell (fun _ => rfl) _⟩
          case measure => simp [intOf]; omega
        · obtain rfl : i = V := by omega
          have hFrx : Fr (fun k => ob2 = some k) wo wr := (hFr3.none _).trans hFx
          have hFwx : Fr (fun _ => False) w wr := hF.trans' hFrx (fun i hi h => by have h1 := hN2 i h; have h2 := hF.size; omega)
          have hb1 := (HOB.out.fr0 hFrx (fun k hk h => by have := hN2 k h; omega)).bests
          have hb2 := HL.out.fr0 hFwx (fun _ _ h => h)
          have hsame := sbests_true (n := l.length) (k := l.length) L l ao al co c wr hb1.r hb2.r (Lib.hid (fun i hi => bare_nth HBE.out hi)) HLL.out.symm (by rw [HLL.out]; omega) HLL.out.symm HLL.out.symm
          clear hb1 hb2 hY hil hi
          go_wp2_with (fail)
          refine hsame.mono ?_
          rintro e4 w4 ⟨rfl, hF4⟩
          have hF04 := hFwx.trans hF4
          have hb4 := HL.out.fr0 hF04 (fun _ _ h => h)
          have hv := view_any l al c to poison w4 hb4 hl
          rw [← HE.out] at hv
          clear hb4 hsame
          go_wp2_with (fail)
          refine hv.mono ?_
          intro e5 w5 R5
          obtain ⟨a5, c5, ob5, xs5, rfl, -, hF5, -⟩ := R5.uni
          rw [← HV.out]
          have hF05 := hF04.trans hF5
          clear R5 hv
          go_wp2_with (fail)
          refine (told2_any E E w5 (hg.none hF05)).mono ?_
          rintro e6 w6 ⟨rfl, hF6⟩
          have hdg : (errN E == errN E) = true := by simp
          rw [hdg]
          clear hdg
          go_wp2
          go_ret
          exact RetV.mk rfl rfl (hF05.trans hF6)
end Go.Proofs.YtfjempfffdeklaaDoor
