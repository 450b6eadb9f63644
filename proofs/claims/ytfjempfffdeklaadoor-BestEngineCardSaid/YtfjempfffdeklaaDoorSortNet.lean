import Derived.Test.YtfjempfffdeklaaDoorSortLib
import Derived.Test.YtfjempfffdeklaaDoorTrigMath
import Derived.Test.YtfjempfffdeklaaDoorNetW
import Derived.Shelf.SlSortCmp.NoneTotal
namespace Go.Proofs
open Go.Shelf
def Tryd.sortNet_ren : Go.Shelf.Ren := ⟨fun | 6 => 118 | 15 => 137 | 14 => 136 | 28 => 143 | 29 => 156 | 20 => 148 | 21 => 149 | 22 => 150 | 23 => 151 | 24 => 152 | 25 => 153 | 26 => 154 | 27 => 155 | 46 => 159 | 47 => 160 | 48 => 161 | 49 => 162 | 50 => 163 | 57 => 164 | n => n, fun | 22 => 65 | 24 => 37 | 25 => 205 | 3 => 3 | 39 => 203 | 0 => 0 | 53 => 35 | 55 => 236 | 4 => 4 | 46 => 257 | 45 => 256 | 50 => 105 | 5 => 5 | 9 => 9 | 66 => 265 | 70 => 269 | 76 => 271 | 77 => 272 | n => n, fun | n => n⟩
theorem Tryd.sortNet : Go.Proofs.SlLaysF0.n6 Tryd.prog Tryd.sortNet_ren := {
  mixed := by kernel_rfl
  f6 := ⟨Tryd.f118.name, by decide, Tryd.func118.trans (congrArg some (by kernel_rfl))⟩
  f14 := ⟨Tryd.f136.name, by decide, Tryd.func136.trans (congrArg some (by kernel_rfl))⟩
  f15 := Tryd.func137.trans (congrArg some (by kernel_rfl))
  f20 := ⟨Tryd.f148.name, by decide, Tryd.func148.trans (congrArg some (by kernel_rfl))⟩
  f21 := ⟨Tryd.f149.name, by decide, Tryd.func149.trans (congrArg some (by kernel_rfl))⟩
  f22 := ⟨Tryd.f150.name, by decide, Tryd.func150.trans (congrArg some (by kernel_rfl))⟩
  f23 := ⟨Tryd.f151.name, by decide, Tryd.func151.trans (congrArg some (by kernel_rfl))⟩
  f24 := ⟨Tryd.f152.name, by decide, Tryd.func152.trans (congrArg some (by kernel_rfl))⟩
  f25 := ⟨Tryd.f153.name, by decide, Tryd.func153.trans (congrArg some (by kernel_rfl))⟩
  f26 := ⟨Tryd.f154.name, by decide, Tryd.func154.trans (congrArg some (by kernel_rfl))⟩
  f27 := ⟨Tryd.f155.name, by decide, Tryd.func155.trans (congrArg some (by kernel_rfl))⟩
  f28 := Tryd.func143.trans (congrArg some (by kernel_rfl))
  f29 := Tryd.func156.trans (congrArg some (by kernel_rfl))
  f46 := ⟨Tryd.f159.name, by decide, Tryd.func159.trans (congrArg some (by kernel_rfl))⟩
  f47 := Tryd.func160.trans (congrArg some (by kernel_rfl))
  f48 := Tryd.func161.trans (congrArg some (by kernel_rfl))
  f49 := ⟨Tryd.f162.name, by decide, Tryd.func162.trans (congrArg some (by kernel_rfl))⟩
  f50 := ⟨Tryd.f163.name, by decide, Tryd.func163.trans (congrArg some (by kernel_rfl))⟩
  f57 := ⟨Tryd.f164.name, by decide, Tryd.func164.trans (congrArg some (by kernel_rfl))⟩
  t0 := Tryd.underlying0
  a0 := Tryd.isAgg0
  z0 := Tryd.sizeOf0
  v0 := Tryd.zeroValue0
  t3 := Tryd.underlying3
  a3 := Tryd.isAgg3
  z3 := Tryd.sizeOf3
  v3 := Tryd.zeroValue3
  t4 := Tryd.underlying4
  a4 := Tryd.isAgg4
  z4 := Tryd.sizeOf4
  v4 := Tryd.zeroValue4
  t5 := Tryd.underlying5
  a5 := Tryd.isAgg5
  z5 := Tryd.sizeOf5
  v5 := Tryd.zeroValue5
  t9 := Tryd.underlying9
  a9 := Tryd.isAgg9
  z9 := Tryd.sizeOf9
  v9 := Tryd.zeroValue9
  t22 := Tryd.underlying65
  a22 := Tryd.isAgg65
  z22 := Tryd.sizeOf65
  v22 := Tryd.zeroValue65
  t25 := Tryd.underlying205
  a25 := Tryd.isAgg205
  z25 := Tryd.sizeOf205
  v25 := Tryd.zeroValue205
  t39 := Tryd.underlying203
  a39 := Tryd.isAgg203
  z39 := Tryd.sizeOf203
  v39 := Tryd.zeroValue203
  t45 := Tryd.underlying256
  a45 := Tryd.isAgg256
  z45 := Tryd.sizeOf256
  v45 := Tryd.zeroValue256
  t46 := Tryd.underlying257
  a46 := Tryd.isAgg257
  z46 := Tryd.sizeOf257
  v46 := Tryd.zeroValue257
  t50 := Tryd.underlying105
  a50 := Tryd.isAgg105
  z50 := Tryd.sizeOf105
  v50 := Tryd.zeroValue105
  t53 := Tryd.underlying35
  a53 := Tryd.isAgg35
  z53 := Tryd.sizeOf35
  v53 := Tryd.zeroValue35
  t55 := Tryd.underlying236
  a55 := Tryd.isAgg236
  z55 := Tryd.sizeOf236
  v55 := Tryd.zeroValue236
  t66 := Tryd.underlying265
  a66 := Tryd.isAgg265
  z66 := Tryd.sizeOf265
  v66 := Tryd.zeroValue265
  t70 := Tryd.underlying269
  a70 := Tryd.isAgg269
  z70 := Tryd.sizeOf269
  v70 := Tryd.zeroValue269
  t76 := Tryd.underlying271
  a76 := Tryd.isAgg271
  z76 := Tryd.sizeOf271
  v76 := Tryd.zeroValue271
  t77 := Tryd.underlying272
  a77 := Tryd.isAgg272
  z77 := Tryd.sizeOf272
  v77 := Tryd.zeroValue272
  }

end Go.Proofs
namespace Go
theorem nsorted_ext {l m : List Nt} (hl : NSorted l) (hm : NSorted m) (h : ∀ x, x ∈ l ↔ x ∈ m) : l = m := by
  induction l generalizing m with
  | nil =>
    cases m with
    | nil => rfl
    | cons y m => exact absurd ((h y).2 (by simp)) (by simp)
  | cons x l ih =>
    cases m with
    | nil => exact absurd ((h x).1 (by simp)) (by simp)
    | cons y m =>
      obtain ⟨h1, h2⟩ := List.pairwise_cons.1 hl
      obtain ⟨h3, h4⟩ := List.pairwise_cons.1 hm
      have hxy : x = y := by
        rcases List.mem_cons.1 ((h x).1 (by simp)) with e | e
        · exact e
        · rcases List.mem_cons.1 ((h y).2 (by simp)) with e2 | e2
          · exact e2.symm
          · exact absurd (h1 y e2) (ntLt_asymm (h3 x e))
      subst hxy
      congr 1
      refine ih h2 h4 (fun z => ?_)
      constructor
      · intro hz
        rcases List.mem_cons.1 ((h z).1 (by simp [hz])) with e | e
        · subst e; exact absurd (h1 z hz) (ntLt_irrefl z)
        · exact e
      · intro hz
        rcases List.mem_cons.1 ((h z).2 (by simp [hz])) with e | e
        · subst e; exact absurd (h3 z hz) (ntLt_irrefl z)
        · exact e
theorem nsorted_of {l : List Nt} (h : l.Pairwise (fun x y => ¬ ntLt y x)) (hn : l.Nodup) : NSorted l := by
  induction l with
  | nil => exact List.Pairwise.nil
  | cons x l ih =>
    obtain ⟨h1, h2⟩ := List.pairwise_cons.1 h
    obtain ⟨h3, h4⟩ := List.nodup_cons.1 hn
    refine List.pairwise_cons.2 ⟨fun y hy => ?_, ih h2 h4⟩
    rcases ntLt_total x y with e | e | e
    · exact e
    · subst e; exact absurd hy h3
    · exact absurd e (h1 y hy)
end Go
namespace Go.Proofs.YtfjempfffdeklaaDoor
open Go.RowKit Go.Shelf Go.Lib Go.Sort

set_option maxRecDepth 100000 in
set_option maxHeartbeats 1000000 in
theorem lessG_any (a n a' n' : Int) (w : World) : Calls Tryd.prog 104 #[.agg #[.int .u32 a, .int .i64 n], .agg #[.int .u32 a', .int .i64 n']] w (RetGr w (.bool (lessB a n a' n'))) := by
  go_enter Tryd.func104, Tryd.ntmps104
  by_cases h1 : a < a'
  · have hX := Lib.hid (show lessB a n a' n' = true from decide_eq_true (.inl h1))
    have hd : decide (a < a') = true := decide_eq_true h1
    clear h1
    go_wp2
    go_ret
    exact RetGr.mk (x := .bool true) (by rw [hX.out]) rfl (((Grn.refl _).alloc _).alloc _)
  · have hd : decide (a < a') = false := decide_eq_false h1
    by_cases h2 : a = a'
    · have hX := Lib.hid (show lessB a n a' n' = decide (n < n') by unfold lessB netLess; simp [h2])
      have he : (a == a') = true := by simp [h2]
      clear h1 h2
      go_wp2
      go_ret
      exact RetGr.mk (x := .bool (decide (n < n'))) (by rw [hX.out]) rfl (((Grn.refl _).alloc _).alloc _)
    · have hX := Lib.hid (show lessB a n a' n' = false by unfold lessB netLess; simp [h1, h2])
      have he : (a == a') = false := by simp [h2]
      clear h1 h2
      go_wp2
      go_ret
      exact RetGr.mk (x := .bool false) (by rw [hX.out]) rfl (((Grn.refl _).alloc _).alloc _)
def cfNt (x y : Nt) : Int := if lessB x.a x.n y.a y.n = true then -1 else 1
theorem ltNt (x y : Nt) : ltOf cfNt x y = lessB x.a x.n y.a y.n := by
  unfold ltOf cfNt
  cases lessB x.a x.n y.a y.n <;> decide
theorem swoNt : SWO (ltOf cfNt) where
  irrefl x := by rw [ltNt]; exact decide_eq_false (fun h => ntLt_irrefl x h)
  trans x y z h1 h2 := by
    rw [ltNt] at *
    exact decide_eq_true (ntLt_trans (x := x) (y := y) (z := z) (of_decide_eq_true h1) (of_decide_eq_true h2))
  ntrans x y z h1 h2 := by
    rw [ltNt] at *
    have a1 := of_decide_eq_false h1
    have a2 := of_decide_eq_false h2
    refine decide_eq_false (fun h => ?_)
    unfold netLess at *
    omega
set_option maxRecDepth 100000 in
set_option maxHeartbeats 1000000 in
theorem sorted1_any (x y : Nt) (w : World) : Calls Tryd.prog 119 #[.agg #[.int .u32 x.a, .int .i64 x.n], .agg #[.int .u32 y.a, .int .i64 y.n]] w (RetGr w (.int .i64 (cfNt x y))) := by
  have hX : Hid (cfNt x y = if lessB x.a x.n y.a y.n = true then -1 else 1) := Lib.hid rfl
  obtain ⟨xa, xn⟩ := x
  obtain ⟨ya, yn⟩ := y
  simp only at hX ⊢
  go_enter Tryd.func119, Tryd.ntmps119
  go_wp2_with (fail)
  refine (lessG_any xa xn ya yn _).mono ?_
  rintro e1 w1 ⟨rfl, hG⟩
  have hG1 := (((Grn.refl w).alloc (.cells #[.int .u32 xa, .int .i64 xn] 37)).alloc (.cells #[.int .u32 ya, .int .i64 yn] 37)).trans hG
  cases hl : lessB xa xn ya yn with
  | true =>
    rw [hl] at hX
    clear hl hG
    go_wp2
    go_ret
    exact RetGr.mk (x := .int .i64 (-1)) (by rw [hX.out]; rfl) rfl hG1
  | false =>
    rw [hl] at hX
    clear hl hG
    go_wp2
    go_ret
    exact RetGr.mk (x := .int .i64 1) (by rw [hX.out]; rfl) rfl hG1
/-- A list that is sorted in place. -/
def RetSorted (w : World) (a : Option Addr) (n c : Nat) (l : List Nt) (ob : Option Nat) (e : Ending) (w' : World) : Prop :=
  ∃ m : List Nt, e = .returned (.tuple #[]) ∧ NSorted m ∧ (∀ x, x ∈ m ↔ x ∈ l) ∧ m.length = l.length ∧ Own w'.heap 37 2 a n c (m.flatMap Nt.cells) ob ∧ Fr (fun k => ob = some k) w w'
theorem sortNet_any {n : Nat} (l : List Nt) (a : Option Addr) (c : Nat) (ob : Option Nat) (w : World) (hO : Own w.heap 37 2 a n c (l.flatMap Nt.cells) ob) (hn : n = l.length) (hd : l.Nodup) (hl : l.length ≤ 1000000) :
    Calls Tryd.prog 118 #[.slice a n c, .func (.func 119) #[] #[]] w (RetSorted w a n c l ob) := by
  by_cases h0 : l = []
  · subst h0
    subst hn
    refine (AnyF.slices_SortFunc_none Tryd.sortNet a c _ w).mono ?_
    rintro e w' ⟨rfl, rfl⟩
    exact ⟨[], rfl, List.Pairwise.nil, fun _ => Iff.rfl, rfl, hO, Fr.refl _ _⟩
  · have hpos : 0 < l.length := List.length_pos_iff.2 h0
    obtain ⟨g, rfl, hob, hg, -⟩ := hO.pos (by omega)
    obtain ⟨hH, hblk, -⟩ := own_holds Nt.cells Nt.cells_len (by decide) hO hn (by omega)
    have eg : ∀ args w, (callFunc 119 args).run Tryd.prog w = .ok (.enter 119 args) w := enters_of Tryd.func119 (by kernel_rfl) rfl
    have hc := AnyQ.slices_SortFunc Tryd.sortNet 2 Tryd.isAgg37 Tryd.sizeOf37 Nt.cells Nt.cells_len (fun x v hv => nt_one x v hv) cfNt swoNt 119 #[] g 0 c l.toArray w eg
      (fun m os dk _ x y => (sorted1_any x y _).mono fun e w' h => ⟨h.1, h.2⟩) hH hblk (by simp; omega)
    have hsz : l.toArray.size = n := by simp [hn]
    rw [hsz] at hc
    refine hc.mono ?_
    rintro e w' ⟨rfl, d', m, os, hp, hs, rfl⟩
    rw [← hsz] at hp hs
    obtain ⟨hpm, hps⟩ := permIn_perm hp
    have hpw := sortedIn_pw hs hps
    have hds : d'.size = n := by rw [hps, hsz]
    obtain ⟨hO2, hF2⟩ := own_sorted Nt.cells Nt.cells_len (by decide) hO d' hds m os
    have hpl : d'.toList.Perm l := by simpa using hpm
    refine ⟨d'.toList, rfl, nsorted_of (hpw.imp (fun {x y} h => ?_)) (hpl.nodup_iff.2 hd), fun x => hpl.mem_iff, hpl.length_eq, hO2, hF2.mono (fun i _ e => by rw [e]; exact hob)⟩
    rw [ltNt] at h
    exact of_decide_eq_false h
end Go.Proofs.YtfjempfffdeklaaDoor
