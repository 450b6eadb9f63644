import Derived.Test.YtfglidaicjjpfaaSortLib
import Derived.Test.YtfglidaicjjpfaaTrigMath
import Derived.Test.YtfglidaicjjpfaaBestW
import Derived.Test.YtfglidaicjjpfaaAllsR
import Derived.Shelf.SlSortCmp.NoneTotal
namespace Go.Proofs
open Go.Shelf
def Try.sortBest_ren : Go.Shelf.Ren := ⟨fun | 6 => 63 | 15 => 73 | 14 => 72 | 28 => 85 | 29 => 86 | 20 => 77 | 21 => 78 | 22 => 79 | 23 => 80 | 24 => 81 | 25 => 82 | 26 => 83 | 27 => 84 | 46 => 88 | 47 => 89 | 48 => 90 | 49 => 91 | 50 => 92 | 57 => 93 | n => n, fun | 22 => 53 | 24 => 50 | 25 => 118 | 3 => 3 | 39 => 135 | 0 => 0 | 53 => 41 | 55 => 146 | 4 => 4 | 46 => 140 | 45 => 139 | 50 => 112 | 5 => 5 | 9 => 9 | 66 => 148 | 70 => 152 | 76 => 154 | 77 => 155 | n => n, fun | n => n⟩
theorem Try.sortBest : Go.Proofs.SlLaysF0.n6 Try.prog Try.sortBest_ren := {
  mixed := by kernel_rfl
  f6 := ⟨Try.f63.name, by decide, Try.func63.trans (congrArg some (by kernel_rfl))⟩
  f14 := ⟨Try.f72.name, by decide, Try.func72.trans (congrArg some (by kernel_rfl))⟩
  f15 := Try.func73.trans (congrArg some (by kernel_rfl))
  f20 := ⟨Try.f77.name, by decide, Try.func77.trans (congrArg some (by kernel_rfl))⟩
  f21 := ⟨Try.f78.name, by decide, Try.func78.trans (congrArg some (by kernel_rfl))⟩
  f22 := ⟨Try.f79.name, by decide, Try.func79.trans (congrArg some (by kernel_rfl))⟩
  f23 := ⟨Try.f80.name, by decide, Try.func80.trans (congrArg some (by kernel_rfl))⟩
  f24 := ⟨Try.f81.name, by decide, Try.func81.trans (congrArg some (by kernel_rfl))⟩
  f25 := ⟨Try.f82.name, by decide, Try.func82.trans (congrArg some (by kernel_rfl))⟩
  f26 := ⟨Try.f83.name, by decide, Try.func83.trans (congrArg some (by kernel_rfl))⟩
  f27 := ⟨Try.f84.name, by decide, Try.func84.trans (congrArg some (by kernel_rfl))⟩
  f28 := Try.func85.trans (congrArg some (by kernel_rfl))
  f29 := Try.func86.trans (congrArg some (by kernel_rfl))
  f46 := ⟨Try.f88.name, by decide, Try.func88.trans (congrArg some (by kernel_rfl))⟩
  f47 := Try.func89.trans (congrArg some (by kernel_rfl))
  f48 := Try.func90.trans (congrArg some (by kernel_rfl))
  f49 := ⟨Try.f91.name, by decide, Try.func91.trans (congrArg some (by kernel_rfl))⟩
  f50 := ⟨Try.f92.name, by decide, Try.func92.trans (congrArg some (by kernel_rfl))⟩
  f57 := ⟨Try.f93.name, by decide, Try.func93.trans (congrArg some (by kernel_rfl))⟩
  t0 := Try.underlying0
  a0 := Try.isAgg0
  z0 := Try.sizeOf0
  v0 := Try.zeroValue0
  t3 := Try.underlying3
  a3 := Try.isAgg3
  z3 := Try.sizeOf3
  v3 := Try.zeroValue3
  t4 := Try.underlying4
  a4 := Try.isAgg4
  z4 := Try.sizeOf4
  v4 := Try.zeroValue4
  t5 := Try.underlying5
  a5 := Try.isAgg5
  z5 := Try.sizeOf5
  v5 := Try.zeroValue5
  t9 := Try.underlying9
  a9 := Try.isAgg9
  z9 := Try.sizeOf9
  v9 := Try.zeroValue9
  t22 := Try.underlying53
  a22 := Try.isAgg53
  z22 := Try.sizeOf53
  v22 := Try.zeroValue53
  t25 := Try.underlying118
  a25 := Try.isAgg118
  z25 := Try.sizeOf118
  v25 := Try.zeroValue118
  t39 := Try.underlying135
  a39 := Try.isAgg135
  z39 := Try.sizeOf135
  v39 := Try.zeroValue135
  t45 := Try.underlying139
  a45 := Try.isAgg139
  z45 := Try.sizeOf139
  v45 := Try.zeroValue139
  t46 := Try.underlying140
  a46 := Try.isAgg140
  z46 := Try.sizeOf140
  v46 := Try.zeroValue140
  t50 := Try.underlying112
  a50 := Try.isAgg112
  z50 := Try.sizeOf112
  v50 := Try.zeroValue112
  t53 := Try.underlying41
  a53 := Try.isAgg41
  z53 := Try.sizeOf41
  v53 := Try.zeroValue41
  t55 := Try.underlying146
  a55 := Try.isAgg146
  z55 := Try.sizeOf146
  v55 := Try.zeroValue146
  t66 := Try.underlying148
  a66 := Try.isAgg148
  z66 := Try.sizeOf148
  v66 := Try.zeroValue148
  t70 := Try.underlying152
  a70 := Try.isAgg152
  z70 := Try.sizeOf152
  v70 := Try.zeroValue152
  t76 := Try.underlying154
  a76 := Try.isAgg154
  z76 := Try.sizeOf154
  v76 := Try.zeroValue154
  t77 := Try.underlying155
  a77 := Try.isAgg155
  z77 := Try.sizeOf155
  v77 := Try.zeroValue155
  }

end Go.Proofs
namespace Go.Proofs.Ytfglidaicjjpfaa
open Go.RowKit Go.Shelf Go.Lib Go.Sort

set_option maxRecDepth 100000 in
set_option maxHeartbeats 1000000 in
theorem lessG_any (a n a' n' : Int) (w : World) : Calls Try.prog 68 #[.agg #[.int .u32 a, .int .i64 n], .agg #[.int .u32 a', .int .i64 n']] w (RetGr w (.bool (lessB a n a' n'))) := by
  go_enter Try.func68, Try.ntmps68
  by_cases h1 : a < a'
  · have hX := Lib.hid (show lessB a n a' n' = true from decide_eq_true (.inl h1))
    have hd : decide (a < a') = true := decide_eq_true h1
    clear h1
    go_wp2
    go_ret
    exact RetGr.mk (x := .bool true) (by rw [hX.out]) rfl (((Grn.refl _).alloc _).alloc _)
  · have hd : decide (a < a') = false := decide_eq_false h1
    by_cases h2 : a = a'
    · have hX := Lib.hid (show lessB a n a' n' = decide (n < n') by unfold lessB netLess; simp [h2])
      have he : (a == a') = true := by simp [h2]
      clear h1 h2
      go_wp2
      go_ret
      exact RetGr.mk (x := .bool (decide (n < n'))) (by rw [hX.out]) rfl (((Grn.refl _).alloc _).alloc _)
    · have hX := Lib.hid (show lessB a n a' n' = false by unfold lessB netLess; simp [h1, h2])
      have he : (a == a') = false := by simp [h2]
      clear h1 h2
      go_wp2
      go_ret
      exact RetGr.mk (x := .bool false) (by rw [hX.out]) rfl (((Grn.refl _).alloc _).alloc _)
/-- The net of a way. -/
abbrev bnet (x : BestR) : Nt := ⟨x.a, x.n⟩
theorem bst_one (x : BestR) : ∀ u ∈ BestR.cells x, u.oneCell' = true := by simp [Value.oneCell']
def cfB (x y : BestR) : Int := if lessB x.a x.n y.a y.n = true then -1 else 1
theorem ltB (x y : BestR) : ltOf cfB x y = lessB x.a x.n y.a y.n := by
  unfold ltOf cfB
  cases lessB x.a x.n y.a y.n <;> decide
theorem swoB : SWO (ltOf cfB) where
  irrefl x := by rw [ltB]; exact decide_eq_false (fun h => ntLt_irrefl (bnet x) h)
  trans x y z h1 h2 := by
    rw [ltB] at *
    exact decide_eq_true (ntLt_trans (x := bnet x) (y := bnet y) (z := bnet z) (of_decide_eq_true h1) (of_decide_eq_true h2))
  ntrans x y z h1 h2 := by
    rw [ltB] at *
    have a1 := of_decide_eq_false h1
    have a2 := of_decide_eq_false h2
    refine decide_eq_false (fun h => ?_)
    unfold netLess at *
    omega
set_option maxRecDepth 100000 in
set_option maxHeartbeats 1000000 in
theorem order_any (x y : BestR) (w : World) : Calls Try.prog 64 #[.agg #[.int .u32 x.a, .int .i64 x.n, .int .i64 x.m, .slice x.A x.h.length x.C], .agg #[.int .u32 y.a, .int .i64 y.n, .int .i64 y.m, .slice y.A y.h.length y.C]] w (RetGr w (.int .i64 (cfB x y))) := by
  have hX : Hid (cfB x y = if lessB x.a x.n y.a y.n = true then -1 else 1) := Lib.hid rfl
  obtain ⟨xa, xn, xm, xh, xA, xC⟩ := x
  obtain ⟨ya, yn, ym, yh, yA, yC⟩ := y
  simp only at hX ⊢
  generalize xh.length = xl at *
  generalize yh.length = yl at *
  go_enter Try.func64, Try.ntmps64
  go_wp2_with (fail)
  refine (lessG_any xa xn ya yn _).mono ?_
  rintro e1 w1 ⟨rfl, hG⟩
  have hG1 := (((Grn.refl w).alloc (.cells #[.int .u32 xa, .int .i64 xn, .int .i64 xm, .slice xA xl xC] 50)).alloc (.cells #[.int .u32 ya, .int .i64 yn, .int .i64 ym, .slice yA yl yC] 50)).trans hG
  cases hl : lessB xa xn ya yn with
  | true =>
    rw [hl] at hX
    clear hl hG
    go_wp2
    go_ret
    exact RetGr.mk (x := .int .i64 (-1)) (by rw [hX.out]; rfl) rfl hG1
  | false =>
    rw [hl] at hX
    clear hl hG
    go_wp2
    go_ret
    exact RetGr.mk (x := .int .i64 1) (by rw [hX.out]; rfl) rfl hG1
/-- Ways that are sorted in place. -/
def RetSortB (base : Nat) (w : World) (R : List BestR) (a : Option Addr) (n c : Nat) (ob : Option Nat) (e : Ending) (w' : World) : Prop :=
  ∃ S : List BestR, e = .returned (.tuple #[]) ∧ NSorted (S.map bnet) ∧ S.Perm R ∧ Alls base w'.heap S a c ob ∧ Fr (fun k => ob = some k) w w' ∧ n = S.length
theorem Alls.sorted {base : Nat} {w w' : World} {R S : List BestR} {a : Option Addr} {c : Nat} {ob : Option Nat} (h : Alls base w.heap R a c ob) (hp : S.Perm R) (hO : Own w'.heap 50 4 a S.length c (S.flatMap BestR.cells) ob) (hF : Fr (fun k => ob = some k) w w') : Alls base w'.heap S a c ob :=
  ⟨hO, h.new, fun x hx => by
    obtain ⟨o, h1, h2⟩ := h.row x (hp.mem_iff.1 hx)
    exact ⟨o, h1.fr hF (fun g hg e => (h2 g hg).2 e), h2⟩, h.pw.perm hp.symm (fun {x y} hxy p hy hx => hxy p hx hy)⟩
theorem nsorted_keys {S : List BestR} (h : S.Pairwise (fun x y => lessB y.a y.n x.a x.n = false)) (hn : (S.map bnet).Nodup) : NSorted (S.map bnet) := by
  induction S with
  | nil => exact List.Pairwise.nil
  | cons x S ih =>
    obtain ⟨h1, h2⟩ := List.pairwise_cons.1 h
    rw [List.map_cons] at hn ⊢
    obtain ⟨h3, h4⟩ := List.nodup_cons.1 hn
    refine List.pairwise_cons.2 ⟨fun q hq => ?_, ih h2 h4⟩
    obtain ⟨y, hy, rfl⟩ := List.mem_map.1 hq
    rcases ntLt_total (bnet x) (bnet y) with e | e | e
    · exact e
    · exact absurd (List.mem_map.2 ⟨y, hy, e.symm⟩) h3
    · exact absurd e (of_decide_eq_false (h1 y hy))
theorem sortBest_any {base n : Nat} (R : List BestR) (a : Option Addr) (c : Nat) (ob : Option Nat) (w : World) (hA : Alls base w.heap R a c ob) (hn : n = R.length) (hd : (R.map bnet).Nodup) (hl : R.length ≤ 1000000) :
    Calls Try.prog 63 #[.slice a n c, .func (.func 64) #[] #[]] w (RetSortB base w R a n c ob) := by
  by_cases h0 : R = []
  · subst h0
    subst hn
    refine (AnyF.slices_SortFunc_none Try.sortBest a c _ w).mono ?_
    rintro e w' ⟨rfl, rfl⟩
    exact ⟨[], rfl, List.Pairwise.nil, List.Perm.refl _, hA, Fr.refl _ _, rfl⟩
  · have hpos : 0 < R.length := List.length_pos_iff.2 h0
    have hO := hA.own
    rw [← hn] at hO
    obtain ⟨g, rfl, hob, hg, -⟩ := hO.pos (by omega)
    obtain ⟨hH, hblk, -⟩ := own_holds BestR.cells BestR.cells_len (by decide) hO hn (by omega)
    have eg : ∀ args w, (callFunc 64 args).run Try.prog w = .ok (.enter 64 args) w := enters_of Try.func64 (by kernel_rfl) rfl
    have hc := AnyQ.slices_SortFunc Try.sortBest 4 Try.isAgg50 Try.sizeOf50 BestR.cells BestR.cells_len (fun x v hv => bst_one x v hv) cfB swoB 64 #[] g 0 c R.toArray w eg
      (fun m os dk _ x y => (order_any x y _).mono fun e w' h => ⟨h.1, h.2⟩) hH hblk (by simp; omega)
    have hsz : R.toArray.size = n := by simp [hn]
    rw [hsz] at hc
    refine hc.mono ?_
    rintro e w' ⟨rfl, d', m, os, hp, hs, rfl⟩
    rw [← hsz] at hp hs
    obtain ⟨hpm, hps⟩ := permIn_perm hp
    have hpw := sortedIn_pw hs hps
    have hds : d'.size = n := by rw [hps, hsz]
    obtain ⟨hO2, hF2⟩ := own_sorted BestR.cells BestR.cells_len (by decide) hO d' hds m os
    have hpl : d'.toList.Perm R := by simpa using hpm
    have hF3 : Fr (fun k => ob = some k) w (sortWorldK BestR.cells 4 w g 0 m d' os) := hF2.mono (fun i _ e => by rw [e]; exact hob)
    have hnl : n = d'.toList.length := by rw [hpl.length_eq, hn]
    refine ⟨d'.toList, rfl, nsorted_keys (hpw.imp (fun {x y} h => by rw [ltB] at h; exact h)) ((hpl.map bnet).nodup_iff.2 hd), hpl, hA.sorted hpl (by rw [hnl] at hO2; exact hO2) hF3, hF3, hnl⟩
end Go.Proofs.Ytfglidaicjjpfaa
