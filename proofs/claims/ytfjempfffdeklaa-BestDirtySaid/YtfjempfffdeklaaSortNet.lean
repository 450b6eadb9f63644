import Derived.Test.YtfjempfffdeklaaSortLib
import Derived.Test.YtfjempfffdeklaaTrigMath
import Derived.Test.YtfjempfffdeklaaNetW
import Derived.Shelf.SlSortCmp.NoneTotal
namespace Go.Proofs
open Go.Shelf
def Try.sortNet_ren : Go.Shelf.Ren := ⟨fun | 6 => 28 | 15 => 33 | 14 => 32 | 28 => 42 | 29 => 43 | 20 => 34 | 21 => 35 | 22 => 36 | 23 => 37 | 24 => 38 | 25 => 39 | 26 => 40 | 27 => 41 | 46 => 44 | 47 => 45 | 48 => 46 | 49 => 47 | 50 => 48 | 57 => 49 | n => n, fun | 22 => 36 | 24 => 33 | 25 => 71 | 3 => 3 | 39 => 76 | 0 => 0 | 53 => 31 | 55 => 86 | 4 => 4 | 46 => 79 | 45 => 78 | 50 => 68 | 5 => 5 | 9 => 9 | 66 => 87 | 70 => 91 | 76 => 93 | 77 => 94 | n => n, fun | n => n⟩
theorem Try.sortNet : Go.Proofs.SlLaysF0.n6 Try.prog Try.sortNet_ren := {
  mixed := by kernel_rfl
  f6 := ⟨Try.f28.name, by decide, Try.func28.trans (congrArg some (by kernel_rfl))⟩
  f14 := ⟨Try.f32.name, by decide, Try.func32.trans (congrArg some (by kernel_rfl))⟩
  f15 := Try.func33.trans (congrArg some (by kernel_rfl))
  f20 := ⟨Try.f34.name, by decide, Try.func34.trans (congrArg some (by kernel_rfl))⟩
  f21 := ⟨Try.f35.name, by decide, Try.func35.trans (congrArg some (by kernel_rfl))⟩
  f22 := ⟨Try.f36.name, by decide, Try.func36.trans (congrArg some (by kernel_rfl))⟩
  f23 := ⟨Try.f37.name, by decide, Try.func37.trans (congrArg some (by kernel_rfl))⟩
  f24 := ⟨Try.f38.name, by decide, Try.func38.trans (congrArg some (by kernel_rfl))⟩
  f25 := ⟨Try.f39.name, by decide, Try.func39.trans (congrArg some (by kernel_rfl))⟩
  f26 := ⟨Try.f40.name, by decide, Try.func40.trans (congrArg some (by kernel_rfl))⟩
  f27 := ⟨Try.f41.name, by decide, Try.func41.trans (congrArg some (by kernel_rfl))⟩
  f28 := Try.func42.trans (congrArg some (by kernel_rfl))
  f29 := Try.func43.trans (congrArg some (by kernel_rfl))
  f46 := ⟨Try.f44.name, by decide, Try.func44.trans (congrArg some (by kernel_rfl))⟩
  f47 := Try.func45.trans (congrArg some (by kernel_rfl))
  f48 := Try.func46.trans (congrArg some (by kernel_rfl))
  f49 := ⟨Try.f47.name, by decide, Try.func47.trans (congrArg some (by kernel_rfl))⟩
  f50 := ⟨Try.f48.name, by decide, Try.func48.trans (congrArg some (by kernel_rfl))⟩
  f57 := ⟨Try.f49.name, by decide, Try.func49.trans (congrArg some (by kernel_rfl))⟩
  t0 := Try.underlying0
  a0 := Try.isAgg0
  z0 := Try.sizeOf0
  v0 := Try.zeroValue0
  t3 := Try.underlying3
  a3 := Try.isAgg3
  z3 := Try.sizeOf3
  v3 := Try.zeroValue3
  t4 := Try.underlying4
  a4 := Try.isAgg4
  z4 := Try.sizeOf4
  v4 := Try.zeroValue4
  t5 := Try.underlying5
  a5 := Try.isAgg5
  z5 := Try.sizeOf5
  v5 := Try.zeroValue5
  t9 := Try.underlying9
  a9 := Try.isAgg9
  z9 := Try.sizeOf9
  v9 := Try.zeroValue9
  t22 := Try.underlying36
  a22 := Try.isAgg36
  z22 := Try.sizeOf36
  v22 := Try.zeroValue36
  t25 := Try.underlying71
  a25 := Try.isAgg71
  z25 := Try.sizeOf71
  v25 := Try.zeroValue71
  t39 := Try.underlying76
  a39 := Try.isAgg76
  z39 := Try.sizeOf76
  v39 := Try.zeroValue76
  t45 := Try.underlying78
  a45 := Try.isAgg78
  z45 := Try.sizeOf78
  v45 := Try.zeroValue78
  t46 := Try.underlying79
  a46 := Try.isAgg79
  z46 := Try.sizeOf79
  v46 := Try.zeroValue79
  t50 := Try.underlying68
  a50 := Try.isAgg68
  z50 := Try.sizeOf68
  v50 := Try.zeroValue68
  t53 := Try.underlying31
  a53 := Try.isAgg31
  z53 := Try.sizeOf31
  v53 := Try.zeroValue31
  t55 := Try.underlying86
  a55 := Try.isAgg86
  z55 := Try.sizeOf86
  v55 := Try.zeroValue86
  t66 := Try.underlying87
  a66 := Try.isAgg87
  z66 := Try.sizeOf87
  v66 := Try.zeroValue87
  t70 := Try.underlying91
  a70 := Try.isAgg91
  z70 := Try.sizeOf91
  v70 := Try.zeroValue91
  t76 := Try.underlying93
  a76 := Try.isAgg93
  z76 := Try.sizeOf93
  v76 := Try.zeroValue93
  t77 := Try.underlying94
  a77 := Try.isAgg94
  z77 := Try.sizeOf94
  v77 := Try.zeroValue94
  }

end Go.Proofs
namespace Go
theorem nsorted_ext {l m : List Nt} (hl : NSorted l) (hm : NSorted m) (h : ∀ x, x ∈ l ↔ x ∈ m) : l = m := by
  induction l generalizing m with
  | nil =>
    cases m with
    | nil => rfl
    | cons y m => exact absurd ((h y).2 (by simp)) (by simp)
  | cons x l ih =>
    cases m with
    | nil => exact absurd ((h x).1 (by simp)) (by simp)
    | cons y m =>
      obtain ⟨h1, h2⟩ := List.pairwise_cons.1 hl
      obtain ⟨h3, h4⟩ := List.pairwise_cons.1 hm
      have hxy : x = y := by
        rcases List.mem_cons.1 ((h x).1 (by simp)) with e | e
        · exact e
        · rcases List.mem_cons.1 ((h y).2 (by simp)) with e2 | e2
          · exact e2.symm
          · exact absurd (h1 y e2) (ntLt_asymm (h3 x e))
      subst hxy
      congr 1
      refine ih h2 h4 (fun z => ?_)
      constructor
      · intro hz
        rcases List.mem_cons.1 ((h z).1 (by simp [hz])) with e | e
        · subst e; exact absurd (h1 z hz) (ntLt_irrefl z)
        · exact e
      · intro hz
        rcases List.mem_cons.1 ((h z).2 (by simp [hz])) with e | e
        · subst e; exact absurd (h3 z hz) (ntLt_irrefl z)
        · exact e
theorem nsorted_of {l : List Nt} (h : l.Pairwise (fun x y => ¬ ntLt y x)) (hn : l.Nodup) : NSorted l := by
  induction l with
  | nil => exact List.Pairwise.nil
  | cons x l ih =>
    obtain ⟨h1, h2⟩ := List.pairwise_cons.1 h
    obtain ⟨h3, h4⟩ := List.nodup_cons.1 hn
    refine List.pairwise_cons.2 ⟨fun y hy => ?_, ih h2 h4⟩
    rcases ntLt_total x y with e | e | e
    · exact e
    · subst e; exact absurd hy h3
    · exact absurd e (h1 y hy)
end Go
namespace Go.Proofs.Ytfjempfffdeklaa
open Go.RowKit Go.Shelf Go.Lib Go.Sort

set_option maxRecDepth 100000 in
set_option maxHeartbeats 1000000 in
theorem lessG_any (a n a' n' : Int) (w : World) : Calls Try.prog 30 #[.agg #[.int .u32 a, .int .i64 n], .agg #[.int .u32 a', .int .i64 n']] w (RetGr w (.bool (lessB a n a' n'))) := by
  go_enter Try.func30, Try.ntmps30
  by_cases h1 : a < a'
  · have hX := Lib.hid (show lessB a n a' n' = true from decide_eq_true (.inl h1))
    have hd : decide (a < a') = true := decide_eq_true h1
    clear h1
    go_wp2
    go_ret
    exact RetGr.mk (x := .bool true) (by rw [hX.out]) rfl (((Grn.refl _).alloc _).alloc _)
  · have hd : decide (a < a') = false := decide_eq_false h1
    by_cases h2 : a = a'
    · have hX := Lib.hid (show lessB a n a' n' = decide (n < n') by unfold lessB netLess; simp [h2])
      have he : (a == a') = true := by simp [h2]
      clear h1 h2
      go_wp2
      go_ret
      exact RetGr.mk (x := .bool (decide (n < n'))) (by rw [hX.out]) rfl (((Grn.refl _).alloc _).alloc _)
    · have hX := Lib.hid (show lessB a n a' n' = false by unfold lessB netLess; simp [h1, h2])
      have he : (a == a') = false := by simp [h2]
      clear h1 h2
      go_wp2
      go_ret
      exact RetGr.mk (x := .bool false) (by rw [hX.out]) rfl (((Grn.refl _).alloc _).alloc _)
def cfNt (x y : Nt) : Int := if lessB x.a x.n y.a y.n = true then -1 else 1
theorem ltNt (x y : Nt) : ltOf cfNt x y = lessB x.a x.n y.a y.n := by
  unfold ltOf cfNt
  cases lessB x.a x.n y.a y.n <;> decide
theorem swoNt : SWO (ltOf cfNt) where
  irrefl x := by rw [ltNt]; exact decide_eq_false (fun h => ntLt_irrefl x h)
  trans x y z h1 h2 := by
    rw [ltNt] at *
    exact decide_eq_true (ntLt_trans (x := x) (y := y) (z := z) (of_decide_eq_true h1) (of_decide_eq_true h2))
  ntrans x y z h1 h2 := by
    rw [ltNt] at *
    have a1 := of_decide_eq_false h1
    have a2 := of_decide_eq_false h2
    refine decide_eq_false (fun h => ?_)
    unfold netLess at *
    omega
set_option maxRecDepth 100000 in
set_option maxHeartbeats 1000000 in
theorem sorted1_any (x y : Nt) (w : World) : Calls Try.prog 29 #[.agg #[.int .u32 x.a, .int .i64 x.n], .agg #[.int .u32 y.a, .int .i64 y.n]] w (RetGr w (.int .i64 (cfNt x y))) := by
  have hX : Hid (cfNt x y = if lessB x.a x.n y.a y.n = true then -1 else 1) := Lib.hid rfl
  obtain ⟨xa, xn⟩ := x
  obtain ⟨ya, yn⟩ := y
  simp only at hX ⊢
  go_enter Try.func29, Try.ntmps29
  go_wp2_with (fail)
  refine (lessG_any xa xn ya yn _).mono ?_
  rintro e1 w1 ⟨rfl, hG⟩
  have hG1 := (((Grn.refl w).alloc (.cells #[.int .u32 xa, .int .i64 xn] 33)).alloc (.cells #[.int .u32 ya, .int .i64 yn] 33)).trans hG
  cases hl : lessB xa xn ya yn with
  | true =>
    rw [hl] at hX
    clear hl hG
    go_wp2
    go_ret
    exact RetGr.mk (x := .int .i64 (-1)) (by rw [hX.out]; rfl) rfl hG1
  | false =>
    rw [hl] at hX
    clear hl hG
    go_wp2
    go_ret
    exact RetGr.mk (x := .int .i64 1) (by rw [hX.out]; rfl) rfl hG1
/-- A list that is sorted in place. -/
def RetSorted (w : World) (a : Option Addr) (n c : Nat) (l : List Nt) (ob : Option Nat) (e : Ending) (w' : World) : Prop :=
  ∃ m : List Nt, e = .returned (.tuple #[]) ∧ NSorted m ∧ (∀ x, x ∈ m ↔ x ∈ l) ∧ m.length = l.length ∧ Own w'.heap 33 2 a n c (m.flatMap Nt.cells) ob ∧ Fr (fun k => ob = some k) w w'
theorem sortNet_any {n : Nat} (l : List Nt) (a : Option Addr) (c : Nat) (ob : Option Nat) (w : World) (hO : Own w.heap 33 2 a n c (l.flatMap Nt.cells) ob) (hn : n = l.length) (hd : l.Nodup) (hl : l.length ≤ 1000000) :
    Calls Try.prog 28 #[.slice a n c, .func (.func 29) #[] #[]] w (RetSorted w a n c l ob) := by
  by_cases h0 : l = []
  · subst h0
    subst hn
    refine (AnyF.slices_SortFunc_none Try.sortNet a c _ w).mono ?_
    rintro e w' ⟨rfl, rfl⟩
    exact ⟨[], rfl, List.Pairwise.nil, fun _ => Iff.rfl, rfl, hO, Fr.refl _ _⟩
  · have hpos : 0 < l.length := List.length_pos_iff.2 h0
    obtain ⟨g, rfl, hob, hg, -⟩ := hO.pos (by omega)
    obtain ⟨hH, hblk, -⟩ := own_holds Nt.cells Nt.cells_len (by decide) hO hn (by omega)
    have eg : ∀ args w, (callFunc 29 args).run Try.prog w = .ok (.enter 29 args) w := enters_of Try.func29 (by kernel_rfl) rfl
    have hc := AnyQ.slices_SortFunc Try.sortNet 2 Try.isAgg33 Try.sizeOf33 Nt.cells Nt.cells_len (fun x v hv => nt_one x v hv) cfNt swoNt 29 #[] g 0 c l.toArray w eg
      (fun m os dk _ x y => (sorted1_any x y _).mono fun e w' h => ⟨h.1, h.2⟩) hH hblk (by simp; omega)
    have hsz : l.toArray.size = n := by simp [hn]
    rw [hsz] at hc
    refine hc.mono ?_
    rintro e w' ⟨rfl, d', m, os, hp, hs, rfl⟩
    rw [← hsz] at hp hs
    obtain ⟨hpm, hps⟩ := permIn_perm hp
    have hpw := sortedIn_pw hs hps
    have hds : d'.size = n := by rw [hps, hsz]
    obtain ⟨hO2, hF2⟩ := own_sorted Nt.cells Nt.cells_len (by decide) hO d' hds m os
    have hpl : d'.toList.Perm l := by simpa using hpm
    refine ⟨d'.toList, rfl, nsorted_of (hpw.imp (fun {x y} h => ?_)) (hpl.nodup_iff.2 hd), fun x => hpl.mem_iff, hpl.length_eq, hO2, hF2.mono (fun i _ e => by rw [e]; exact hob)⟩
    rw [ltNt] at h
    exact of_decide_eq_false h
end Go.Proofs.Ytfjempfffdeklaa
