import Derived.Test.YtbmeeglehbaggaaDoorSortLib
import Derived.Test.YtbmeeglehbaggaaDoorErr
import Derived.Test.YtbmeeglehbaggaaDoorWhMath
import Derived.Shelf.SlSortCmp.NoneTotal
namespace Go.Proofs
open Go.Shelf
def Tryd.sortDue_ren : Go.Shelf.Ren := ⟨fun | 6 => 51 | 15 => 73 | 14 => 72 | 28 => 94 | 29 => 95 | 20 => 86 | 21 => 87 | 22 => 88 | 23 => 89 | 24 => 90 | 25 => 91 | 26 => 92 | 27 => 93 | 46 => 108 | 47 => 109 | 48 => 110 | 49 => 111 | 50 => 112 | 57 => 117 | n => n, fun | 22 => 102 | 24 => 104 | 25 => 106 | 3 => 3 | 39 => 120 | 0 => 0 | 53 => 36 | 55 => 133 | 4 => 4 | 46 => 161 | 45 => 160 | 50 => 99 | 5 => 5 | 9 => 9 | 66 => 186 | 70 => 190 | 76 => 194 | 77 => 195 | n => n, fun | n => n⟩
theorem Tryd.sortDue : Go.Proofs.SlLaysF0.n6 Tryd.prog Tryd.sortDue_ren := {
  mixed := by kernel_rfl
  f6 := ⟨Tryd.f51.name, by decide, Tryd.func51.trans (congrArg some (by kernel_rfl))⟩
  f14 := ⟨Tryd.f72.name, by decide, Tryd.func72.trans (congrArg some (by kernel_rfl))⟩
  f15 := Tryd.func73.trans (congrArg some (by kernel_rfl))
  f20 := ⟨Tryd.f86.name, by decide, Tryd.func86.trans (congrArg some (by kernel_rfl))⟩
  f21 := ⟨Tryd.f87.name, by decide, Tryd.func87.trans (congrArg some (by kernel_rfl))⟩
  f22 := ⟨Tryd.f88.name, by decide, Tryd.func88.trans (congrArg some (by kernel_rfl))⟩
  f23 := ⟨Tryd.f89.name, by decide, Tryd.func89.trans (congrArg some (by kernel_rfl))⟩
  f24 := ⟨Tryd.f90.name, by decide, Tryd.func90.trans (congrArg some (by kernel_rfl))⟩
  f25 := ⟨Tryd.f91.name, by decide, Tryd.func91.trans (congrArg some (by kernel_rfl))⟩
  f26 := ⟨Tryd.f92.name, by decide, Tryd.func92.trans (congrArg some (by kernel_rfl))⟩
  f27 := ⟨Tryd.f93.name, by decide, Tryd.func93.trans (congrArg some (by kernel_rfl))⟩
  f28 := Tryd.func94.trans (congrArg some (by kernel_rfl))
  f29 := Tryd.func95.trans (congrArg some (by kernel_rfl))
  f46 := ⟨Tryd.f108.name, by decide, Tryd.func108.trans (congrArg some (by kernel_rfl))⟩
  f47 := Tryd.func109.trans (congrArg some (by kernel_rfl))
  f48 := Tryd.func110.trans (congrArg some (by kernel_rfl))
  f49 := ⟨Tryd.f111.name, by decide, Tryd.func111.trans (congrArg some (by kernel_rfl))⟩
  f50 := ⟨Tryd.f112.name, by decide, Tryd.func112.trans (congrArg some (by kernel_rfl))⟩
  f57 := ⟨Tryd.f117.name, by decide, Tryd.func117.trans (congrArg some (by kernel_rfl))⟩
  t0 := Tryd.underlying0
  a0 := Tryd.isAgg0
  z0 := Tryd.sizeOf0
  v0 := Tryd.zeroValue0
  t3 := Tryd.underlying3
  a3 := Tryd.isAgg3
  z3 := Tryd.sizeOf3
  v3 := Tryd.zeroValue3
  t4 := Tryd.underlying4
  a4 := Tryd.isAgg4
  z4 := Tryd.sizeOf4
  v4 := Tryd.zeroValue4
  t5 := Tryd.underlying5
  a5 := Tryd.isAgg5
  z5 := Tryd.sizeOf5
  v5 := Tryd.zeroValue5
  t9 := Tryd.underlying9
  a9 := Tryd.isAgg9
  z9 := Tryd.sizeOf9
  v9 := Tryd.zeroValue9
  t22 := Tryd.underlying102
  a22 := Tryd.isAgg102
  z22 := Tryd.sizeOf102
  v22 := Tryd.zeroValue102
  t25 := Tryd.underlying106
  a25 := Tryd.isAgg106
  z25 := Tryd.sizeOf106
  v25 := Tryd.zeroValue106
  t39 := Tryd.underlying120
  a39 := Tryd.isAgg120
  z39 := Tryd.sizeOf120
  v39 := Tryd.zeroValue120
  t45 := Tryd.underlying160
  a45 := Tryd.isAgg160
  z45 := Tryd.sizeOf160
  v45 := Tryd.zeroValue160
  t46 := Tryd.underlying161
  a46 := Tryd.isAgg161
  z46 := Tryd.sizeOf161
  v46 := Tryd.zeroValue161
  t50 := Tryd.underlying99
  a50 := Tryd.isAgg99
  z50 := Tryd.sizeOf99
  v50 := Tryd.zeroValue99
  t53 := Tryd.underlying36
  a53 := Tryd.isAgg36
  z53 := Tryd.sizeOf36
  v53 := Tryd.zeroValue36
  t55 := Tryd.underlying133
  a55 := Tryd.isAgg133
  z55 := Tryd.sizeOf133
  v55 := Tryd.zeroValue133
  t66 := Tryd.underlying186
  a66 := Tryd.isAgg186
  z66 := Tryd.sizeOf186
  v66 := Tryd.zeroValue186
  t70 := Tryd.underlying190
  a70 := Tryd.isAgg190
  z70 := Tryd.sizeOf190
  v70 := Tryd.zeroValue190
  t76 := Tryd.underlying194
  a76 := Tryd.isAgg194
  z76 := Tryd.sizeOf194
  v76 := Tryd.zeroValue194
  t77 := Tryd.underlying195
  a77 := Tryd.isAgg195
  z77 := Tryd.sizeOf195
  v77 := Tryd.zeroValue195
  }

end Go.Proofs
namespace Go
/-- What is due: a time, an id. -/
structure Due where
  t : Int
  i : Int
  ht : 0 ≤ t ∧ t ≤ 1099511627776
  hi : 0 ≤ i ∧ i < 64
instance : Inhabited Due := ⟨⟨0, 0, by omega, by omega⟩⟩
def Due.cells (d : Due) : List Value := [.int .i64 d.t, .int .i64 d.i]
def Due.p (d : Due) : Int × Int := (d.t, d.i)
theorem Due.cells_len (d : Due) : d.cells.length = 2 := rfl
theorem Due.p_inj {x y : Due} (h : x.p = y.p) : x = y := by
  obtain ⟨a, b, c, d⟩ := x
  obtain ⟨e, f, g, h'⟩ := y
  simp only [Due.p, Prod.mk.injEq] at h
  obtain ⟨rfl, rfl⟩ := h
  rfl
end Go
namespace Go.Proofs.YtbmeeglehbaggaaDoor
open Go.RowKit Go.Shelf Go.Lib Go.Sort

def cfDue (x y : Due) : Int := if x.t - y.t ≠ 0 then x.t - y.t else x.i - y.i
theorem ltDue (x y : Due) : ltOf cfDue x y = decide (tmLt x.p y.p) := by
  have h : (cfDue x y < 0) ↔ tmLt x.p y.p := by
    show _ ↔ (x.t < y.t ∨ (x.t = y.t ∧ x.i < y.i))
    unfold cfDue
    split <;> omega
  unfold ltOf
  rw [Bool.eq_iff_iff]
  simpa using h
theorem swoDue : SWO (ltOf cfDue) where
  irrefl x := by rw [ltDue]; exact decide_eq_false (fun h => by unfold tmLt at h; omega)
  trans x y z h1 h2 := by
    rw [ltDue] at *
    have a1 := of_decide_eq_true h1
    have a2 := of_decide_eq_true h2
    refine decide_eq_true ?_
    unfold tmLt at *
    omega
  ntrans x y z h1 h2 := by
    rw [ltDue] at *
    have a1 := of_decide_eq_false h1
    have a2 := of_decide_eq_false h2
    refine decide_eq_false (fun h => ?_)
    unfold tmLt at *
    omega
set_option maxRecDepth 100000 in
set_option maxHeartbeats 1000000 in
theorem cmpOr_any (g : Nat) (a b : Int) (w : World) (h0 : w.cell? ⟨g, 0, none⟩ = some (.int .i64 a)) (h1 : w.cell? ⟨g, 1, none⟩ = some (.int .i64 b)) (hg : g < w.heap.size) : Calls Tryd.prog 45 #[.slice (some ⟨g, 0, none⟩) 2 2] w (RetGr w (.int .i64 (if a ≠ 0 then a else b))) := by
  by_cases ha : a = 0
  · subst ha
    rw [if_neg (by simp)]
    by_cases hb : b = 0
    · subst hb
      go_enter Tryd.func45, Tryd.ntmps45
      go_wp2
      refine wp_loop_rounds 3 ?_
      rw [rounds_succ]
      go_wp2
      rw [rounds_succ]
      go_wp2
      rw [rounds_succ]
      go_wp2
      go_ret
      exact RetGr.mk rfl rfl (Grn.refl _)
    · have e : (b != 0) = true := by simp [hb]
      clear hb
      go_enter Tryd.func45, Tryd.ntmps45
      go_wp2
      refine wp_loop_rounds 2 ?_
      rw [rounds_succ]
      go_wp2
      rw [rounds_succ]
      go_wp2
      go_ret
      exact RetGr.mk rfl rfl (Grn.refl _)
  · rw [if_pos ha]
    have e : (a != 0) = true := by simp [ha]
    clear ha
    go_enter Tryd.func45, Tryd.ntmps45
    go_wp2
    refine wp_loop_rounds 1 ?_
    rw [rounds_succ]
    go_wp2
    go_ret
    exact RetGr.mk rfl rfl (Grn.refl _)
set_option maxRecDepth 100000 in
set_option maxHeartbeats 1000000 in
theorem tick1_any (x y : Due) (w : World) : Calls Tryd.prog 52 #[.agg #[.int .i64 x.t, .int .i64 x.i], .agg #[.int .i64 y.t, .int .i64 y.i]] w (RetGr w (.int .i64 (cfDue x y))) := by
  have hX : Hid (cfDue x y = if x.t - y.t ≠ 0 then x.t - y.t else x.i - y.i) := Lib.hid rfl
  obtain ⟨xt, xi, hx1, hx2⟩ := x
  obtain ⟨yt, yi, hy1, hy2⟩ := y
  simp only at hX ⊢
  generalize cfDue _ _ = z at *
  go_enter Tryd.func52, Tryd.ntmps52
  go_wp2_with (fail)
  have hG := (((Grn.refl w).alloc (.cells #[.int .i64 xt, .int .i64 xi] 104)).alloc (.cells #[.int .i64 yt, .int .i64 yi] 104)).alloc (.cells #[.int .i64 (xt - yt), .int .i64 (xi - yi)] 3)
  obtain ⟨W2, hW2⟩ : ∃ W, W = (w.alloc (.cells #[.int .i64 xt, .int .i64 xi] 104)).alloc (.cells #[.int .i64 yt, .int .i64 yi] 104) := ⟨_, rfl⟩
  have hs : W2.heap.size = w.heap.size + 1 + 1 := by rw [hW2]; simp
  have B := Blk.made W2 3 [.int .i64 (xt - yt), .int .i64 (xi - yi)]
  rw [← hW2] at hG ⊢
  rw [hs] at B
  refine (cmpOr_any (w.heap.size + 1 + 1) (xt - yt) (xi - yi) _ (B.cell 0) (B.cell 1) B.lt).mono ?_
  rintro e1 w1 ⟨rfl, hG1⟩
  rw [← hX.out]
  have hG2 := hG.trans hG1
  clear hG hG1 B hs hW2
  go_wp2
  go_ret
  exact RetGr.mk rfl rfl hG2
/-- A list that is sorted in place. -/
def RetDue (w : World) (a : Option Addr) (n c : Nat) (l : List Due) (ob : Option Nat) (e : Ending) (w' : World) : Prop :=
  ∃ m : List Due, e = .returned (.tuple #[]) ∧ TSorted (m.map Due.p) ∧ (∀ x, x ∈ m ↔ x ∈ l) ∧ m.length = l.length ∧ Ownd w'.heap 104 2 a n c (m.flatMap Due.cells) ob ∧ Fr (fun k => ob = some k) w w'
theorem due_one (x : Due) (v : Value) (hv : v ∈ x.cells) : v.oneCell' = true := by
  unfold Due.cells at hv
  simp only [List.mem_cons, List.not_mem_nil, or_false] at hv
  rcases hv with rfl | rfl <;> rfl
theorem sortDue_any {n : Nat} (l : List Due) (a : Option Addr) (c : Nat) (ob : Option Nat) (w : World) (hO : Ownd w.heap 104 2 a n c (l.flatMap Due.cells) ob) (hn : n = l.length) (hd : (l.map Due.p).Nodup) (hl : l.length ≤ 1000000) :
    Calls Tryd.prog 51 #[.slice a n c, .func (.func 52) #[] #[]] w (RetDue w a n c l ob) := by
  by_cases h0 : l = []
  · subst h0
    subst hn
    refine (AnyF.slices_SortFunc_none Tryd.sortDue a c _ w).mono ?_
    rintro e w' ⟨rfl, rfl⟩
    exact ⟨[], rfl, List.Pairwise.nil, fun _ => Iff.rfl, rfl, hO, Fr.refl _ _⟩
  · have hpos : 0 < l.length := List.length_pos_iff.2 h0
    obtain ⟨g, rfl, hob, hg, -⟩ := hO.pos (by omega)
    obtain ⟨hH, hblk, -⟩ := own_holds Due.cells Due.cells_len (by decide) hO hn (by omega)
    have eg : ∀ args w, (callFunc 52 args).run Tryd.prog w = .ok (.enter 52 args) w := enters_of Tryd.func52 (by kernel_rfl) rfl
    have hc := AnyQ.slices_SortFunc Tryd.sortDue 2 Tryd.isAgg104 Tryd.sizeOf104 Due.cells Due.cells_len due_one cfDue swoDue 52 #[] g 0 c l.toArray w eg
      (fun m os dk _ x y => (tick1_any x y _).mono fun e w' h => ⟨h.1, h.2⟩) hH hblk (by simp; omega)
    have hsz : l.toArray.size = n := by simp [hn]
    rw [hsz] at hc
    refine hc.mono ?_
    rintro e w' ⟨rfl, d', m, os, hp, hs, rfl⟩
    rw [← hsz] at hp hs
    obtain ⟨hpm, hps⟩ := permIn_perm hp
    have hpw := sortedIn_pw hs hps
    have hds : d'.size = n := by rw [hps, hsz]
    obtain ⟨hO2, hF2⟩ := own_sorted Due.cells Due.cells_len (by decide) hO d' hds m os
    have hpl : d'.toList.Perm l := by simpa using hpm
    refine ⟨d'.toList, rfl, tsorted_of ?_ ((hpl.map Due.p).nodup_iff.2 hd), fun x => hpl.mem_iff, hpl.length_eq, hO2, hF2.mono (fun i _ e => by rw [e]; exact hob)⟩
    rw [List.pairwise_map]
    refine hpw.imp (fun {x y} h => ?_)
    rw [ltDue] at h
    exact of_decide_eq_false h
end Go.Proofs.YtbmeeglehbaggaaDoor
