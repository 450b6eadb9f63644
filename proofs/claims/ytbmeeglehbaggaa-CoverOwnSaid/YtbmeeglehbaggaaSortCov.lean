import Derived.Test.YtbmeeglehbaggaaSortLib
import Derived.Test.YtbmeeglehbaggaaTrigMath
import Derived.Test.YtbmeeglehbaggaaNetW
import Derived.Test.YtbmeeglehbaggaaColNet
import Derived.Shelf.SlSortCmp.NoneTotal
namespace Go.Proofs
open Go.Shelf
def Try.sortNet_ren : Go.Shelf.Ren := ⟨fun | 6 => 79 | 15 => 95 | 14 => 94 | 28 => 106 | 29 => 107 | 20 => 98 | 21 => 99 | 22 => 100 | 23 => 101 | 24 => 102 | 25 => 103 | 26 => 104 | 27 => 105 | 46 => 109 | 47 => 110 | 48 => 111 | 49 => 112 | 50 => 113 | 57 => 114 | n => n, fun | 22 => 36 | 24 => 26 | 25 => 121 | 3 => 3 | 39 => 72 | 0 => 0 | 53 => 24 | 55 => 154 | 4 => 4 | 46 => 169 | 45 => 168 | 50 => 125 | 5 => 5 | 9 => 9 | 66 => 176 | 70 => 180 | 76 => 182 | 77 => 183 | n => n, fun | n => n⟩
theorem Try.sortNet : Go.Proofs.SlLaysF0.n6 Try.prog Try.sortNet_ren := {
  mixed := by kernel_rfl
  f6 := ⟨Try.f79.name, by decide, Try.func79.trans (congrArg some (by kernel_rfl))⟩
  f14 := ⟨Try.f94.name, by decide, Try.func94.trans (congrArg some (by kernel_rfl))⟩
  f15 := Try.func95.trans (congrArg some (by kernel_rfl))
  f20 := ⟨Try.f98.name, by decide, Try.func98.trans (congrArg some (by kernel_rfl))⟩
  f21 := ⟨Try.f99.name, by decide, Try.func99.trans (congrArg some (by kernel_rfl))⟩
  f22 := ⟨Try.f100.name, by decide, Try.func100.trans (congrArg some (by kernel_rfl))⟩
  f23 := ⟨Try.f101.name, by decide, Try.func101.trans (congrArg some (by kernel_rfl))⟩
  f24 := ⟨Try.f102.name, by decide, Try.func102.trans (congrArg some (by kernel_rfl))⟩
  f25 := ⟨Try.f103.name, by decide, Try.func103.trans (congrArg some (by kernel_rfl))⟩
  f26 := ⟨Try.f104.name, by decide, Try.func104.trans (congrArg some (by kernel_rfl))⟩
  f27 := ⟨Try.f105.name, by decide, Try.func105.trans (congrArg some (by kernel_rfl))⟩
  f28 := Try.func106.trans (congrArg some (by kernel_rfl))
  f29 := Try.func107.trans (congrArg some (by kernel_rfl))
  f46 := ⟨Try.f109.name, by decide, Try.func109.trans (congrArg some (by kernel_rfl))⟩
  f47 := Try.func110.trans (congrArg some (by kernel_rfl))
  f48 := Try.func111.trans (congrArg some (by kernel_rfl))
  f49 := ⟨Try.f112.name, by decide, Try.func112.trans (congrArg some (by kernel_rfl))⟩
  f50 := ⟨Try.f113.name, by decide, Try.func113.trans (congrArg some (by kernel_rfl))⟩
  f57 := ⟨Try.f114.name, by decide, Try.func114.trans (congrArg some (by kernel_rfl))⟩
  t0 := Try.underlying0
  a0 := Try.isAgg0
  z0 := Try.sizeOf0
  v0 := Try.zeroValue0
  t3 := Try.underlying3
  a3 := Try.isAgg3
  z3 := Try.sizeOf3
  v3 := Try.zeroValue3
  t4 := Try.underlying4
  a4 := Try.isAgg4
  z4 := Try.sizeOf4
  v4 := Try.zeroValue4
  t5 := Try.underlying5
  a5 := Try.isAgg5
  z5 := Try.sizeOf5
  v5 := Try.zeroValue5
  t9 := Try.underlying9
  a9 := Try.isAgg9
  z9 := Try.sizeOf9
  v9 := Try.zeroValue9
  t22 := Try.underlying36
  a22 := Try.isAgg36
  z22 := Try.sizeOf36
  v22 := Try.zeroValue36
  t25 := Try.underlying121
  a25 := Try.isAgg121
  z25 := Try.sizeOf121
  v25 := Try.zeroValue121
  t39 := Try.underlying72
  a39 := Try.isAgg72
  z39 := Try.sizeOf72
  v39 := Try.zeroValue72
  t45 := Try.underlying168
  a45 := Try.isAgg168
  z45 := Try.sizeOf168
  v45 := Try.zeroValue168
  t46 := Try.underlying169
  a46 := Try.isAgg169
  z46 := Try.sizeOf169
  v46 := Try.zeroValue169
  t50 := Try.underlying125
  a50 := Try.isAgg125
  z50 := Try.sizeOf125
  v50 := Try.zeroValue125
  t53 := Try.underlying24
  a53 := Try.isAgg24
  z53 := Try.sizeOf24
  v53 := Try.zeroValue24
  t55 := Try.underlying154
  a55 := Try.isAgg154
  z55 := Try.sizeOf154
  v55 := Try.zeroValue154
  t66 := Try.underlying176
  a66 := Try.isAgg176
  z66 := Try.sizeOf176
  v66 := Try.zeroValue176
  t70 := Try.underlying180
  a70 := Try.isAgg180
  z70 := Try.sizeOf180
  v70 := Try.zeroValue180
  t76 := Try.underlying182
  a76 := Try.isAgg182
  z76 := Try.sizeOf182
  v76 := Try.zeroValue182
  t77 := Try.underlying183
  a77 := Try.isAgg183
  z77 := Try.sizeOf183
  v77 := Try.zeroValue183
  }

end Go.Proofs
namespace Go
/-- One list alone is in order. -/
theorem sorted_one {l m : List Nt} (hp : l.Perm m) (hl : l.Pairwise (fun x y => ¬ ntLt y x)) (hm : m.Pairwise (fun x y => ¬ ntLt y x)) : l = m := by
  induction l generalizing m with
  | nil => exact (List.nil_perm.1 hp).symm
  | cons x l ih =>
    cases m with
    | nil => exact absurd hp.length_eq (by simp)
    | cons y m =>
      obtain ⟨h1, h2⟩ := List.pairwise_cons.1 hl
      obtain ⟨h3, h4⟩ := List.pairwise_cons.1 hm
      have hxy : x = y := by
        rcases List.mem_cons.1 (hp.mem_iff.1 List.mem_cons_self) with e | e
        · exact e
        · rcases List.mem_cons.1 (hp.mem_iff.2 List.mem_cons_self) with e2 | e2
          · exact e2.symm
          · rcases ntLt_total x y with q | q | q
            · exact absurd q (h3 x e)
            · exact q
            · exact absurd q (h1 y e2)
      subst hxy
      rw [ih ((List.perm_cons x).1 hp) h2 h4]
end Go
namespace Go.Proofs.Ytbmeeglehbaggaa
open Go.RowKit Go.Shelf Go.Lib Go.Sort

set_option maxRecDepth 100000 in
set_option maxHeartbeats 1000000 in
theorem lessG_any (a n a' n' : Int) (w : World) : Calls Try.prog 81 #[.agg #[.int .u32 a, .int .i64 n], .agg #[.int .u32 a', .int .i64 n']] w (RetGr w (.bool (lessB a n a' n'))) := by
  go_enter Try.func81, Try.ntmps81
  by_cases h1 : a < a'
  · have hX := Lib.hid (show lessB a n a' n' = true from decide_eq_true (.inl h1))
    have hd : decide (a < a') = true := decide_eq_true h1
    clear h1
    go_wp2
    go_ret
    exact RetGr.mk (x := .bool true) (by rw [hX.out]) rfl (((Grn.refl _).alloc _).alloc _)
  · have hd : decide (a < a') = false := decide_eq_false h1
    by_cases h2 : a = a'
    · have hX := Lib.hid (show lessB a n a' n' = decide (n < n') by unfold lessB netLess; simp [h2])
      have he : (a == a') = true := by simp [h2]
      clear h1 h2
      go_wp2
      go_ret
      exact RetGr.mk (x := .bool (decide (n < n'))) (by rw [hX.out]) rfl (((Grn.refl _).alloc _).alloc _)
    · have hX := Lib.hid (show lessB a n a' n' = false by unfold lessB netLess; simp [h1, h2])
      have he : (a == a') = false := by simp [h2]
      clear h1 h2
      go_wp2
      go_ret
      exact RetGr.mk (x := .bool false) (by rw [hX.out]) rfl (((Grn.refl _).alloc _).alloc _)
def cfC (x y : Nt) : Int := if lessB x.a x.n y.a y.n = true then -1 else if lessB y.a y.n x.a x.n = true then 1 else 0
theorem ltC (x y : Nt) : ltOf cfC x y = lessB x.a x.n y.a y.n := by
  unfold ltOf cfC
  cases lessB x.a x.n y.a y.n <;> cases lessB y.a y.n x.a x.n <;> decide
theorem swoC : SWO (ltOf cfC) where
  irrefl x := by rw [ltC]; exact decide_eq_false (fun h => ntLt_irrefl x h)
  trans x y z h1 h2 := by
    rw [ltC] at *
    exact decide_eq_true (ntLt_trans (x := x) (y := y) (z := z) (of_decide_eq_true h1) (of_decide_eq_true h2))
  ntrans x y z h1 h2 := by
    rw [ltC] at *
    have a1 := of_decide_eq_false h1
    have a2 := of_decide_eq_false h2
    refine decide_eq_false (fun h => ?_)
    unfold netLess at *
    omega
set_option maxRecDepth 100000 in
set_option maxHeartbeats 1000000 in
theorem corder_any (x y : Nt) (w : World) : Calls Try.prog 61 #[.agg #[.int .u32 x.a, .int .i64 x.n], .agg #[.int .u32 y.a, .int .i64 y.n]] w (RetGr w (.int .i64 (cfC x y))) := by
  have hX : Hid (cfC x y = if lessB x.a x.n y.a y.n = true then -1 else if lessB y.a y.n x.a x.n = true then 1 else 0) := Lib.hid rfl
  obtain ⟨xa, xn⟩ := x
  obtain ⟨ya, yn⟩ := y
  simp only at hX ⊢
  go_enter Try.func61, Try.ntmps61
  go_wp2_with (fail)
  refine (lessG_any xa xn ya yn _).mono ?_
  rintro e1 w1 ⟨rfl, hG⟩
  have hG1 := (((Grn.refl w).alloc (.cells #[.int .u32 xa, .int .i64 xn] 26)).alloc (.cells #[.int .u32 ya, .int .i64 yn] 26)).trans hG
  cases hl : lessB xa xn ya yn with
  | true =>
    rw [hl] at hX
    clear hl hG
    go_wp2
    go_ret
    exact RetGr.mk (x := .int .i64 (-1)) (by rw [hX.out]; rfl) rfl hG1
  | false =>
    rw [hl] at hX
    have hF := hG.fr
    have x0 := (hF.cell (p := ⟨w.heap.size, 0, none⟩) (by simp; omega) (fun h => h)).trans (show _ = some (Value.int .u32 xa) by simp)
    have x1 := (hF.cell (p := ⟨w.heap.size, 1, none⟩) (by simp; omega) (fun h => h)).trans (show _ = some (Value.int .i64 xn) by simp)
    have y0 := (hF.cell (p := ⟨w.heap.size + 1, 0, none⟩) (by simp) (fun h => h)).trans (show _ = some (Value.int .u32 ya) by simp)
    have y1 := (hF.cell (p := ⟨w.heap.size + 1, 1, none⟩) (by simp) (fun h => h)).trans (show _ = some (Value.int .i64 yn) by simp)
    clear hl hG hF
    go_wp2_with (fail)
    refine (lessG_any ya yn xa xn _).mono ?_
    rintro e2 w2 ⟨rfl, hG2⟩
    have hG3 := hG1.trans hG2
    cases hl2 : lessB ya yn xa xn with
    | true =>
      rw [hl2] at hX
      clear hl2 hG2
      go_wp2
      go_ret
      exact RetGr.mk (x := .int .i64 1) (by rw [hX.out]; rfl) rfl hG3
    | false =>
      rw [hl2] at hX
      clear hl2 hG2
      go_wp2
      go_ret
      exact RetGr.mk (x := .int .i64 0) (by rw [hX.out]; rfl) rfl hG3
/-- A list that is sorted in place. -/
def RetSortC (w : World) (a : Option Addr) (n c : Nat) (l : List Nt) (ob : Option Nat) (e : Ending) (w' : World) : Prop :=
  ∃ m : List Nt, e = .returned (.tuple #[]) ∧ m.Pairwise (fun x y => ¬ ntLt y x) ∧ m.Perm l ∧ Ownd w'.heap 26 2 a n c (m.flatMap Nt.cells) ob ∧ Fr (fun k => ob = some k) w w'
theorem sortCov_any {n : Nat} (l : List Nt) (a : Option Addr) (c : Nat) (ob : Option Nat) (w : World) (hO : Ownd w.heap 26 2 a n c (l.flatMap Nt.cells) ob) (hn : n = l.length) (hl : l.length ≤ 1000000) :
    Calls Try.prog 79 #[.slice a n c, .func (.func 61) #[] #[]] w (RetSortC w a n c l ob) := by
  by_cases h0 : l = []
  · subst h0
    subst hn
    refine (AnyF.slices_SortFunc_none Try.sortNet a c _ w).mono ?_
    rintro e w' ⟨rfl, rfl⟩
    exact ⟨[], rfl, List.Pairwise.nil, List.Perm.refl _, hO, Fr.refl _ _⟩
  · have hpos : 0 < l.length := List.length_pos_iff.2 h0
    obtain ⟨g, rfl, hob, hg, -⟩ := hO.pos (by omega)
    obtain ⟨hH, hblk, -⟩ := own_holds Nt.cells Nt.cells_len (by decide) hO hn (by omega)
    have eg : ∀ args w, (callFunc 61 args).run Try.prog w = .ok (.enter 61 args) w := enters_of Try.func61 (by kernel_rfl) rfl
    have hc := AnyQ.slices_SortFunc Try.sortNet 2 Try.isAgg26 Try.sizeOf26 Nt.cells Nt.cells_len (fun x v hv => nt_one x v hv) cfC swoC 61 #[] g 0 c l.toArray w eg
      (fun m os dk _ x y => (corder_any x y _).mono fun e w' h => ⟨h.1, h.2⟩) hH hblk (by simp; omega)
    have hsz : l.toArray.size = n := by simp [hn]
    rw [hsz] at hc
    refine hc.mono ?_
    rintro e w' ⟨rfl, d', m, os, hp, hs, rfl⟩
    rw [← hsz] at hp hs
    obtain ⟨hpm, hps⟩ := permIn_perm hp
    have hpw := sortedIn_pw hs hps
    have hds : d'.size = n := by rw [hps, hsz]
    obtain ⟨hO2, hF2⟩ := own_sorted Nt.cells Nt.cells_len (by decide) hO d' hds m os
    have hpl : d'.toList.Perm l := by simpa using hpm
    refine ⟨d'.toList, rfl, hpw.imp (fun {x y} h => ?_), hpl, hO2, hF2.mono (fun i _ e => by rw [e]; exact hob)⟩
    rw [ltC] at h
    exact of_decide_eq_false h
/-- A list that is sorted anew. -/
def RetSrt (w : World) (l : List Nt) (n : Nat) (e : Ending) (w' : World) : Prop :=
  ∃ (m : List Nt) (a : Option Addr) (c : Nat) (ob : Option Nat), e = .returned (.slice a n c) ∧ m.Pairwise (fun x y => ¬ ntLt y x) ∧ m.Perm l ∧ Ownd w'.heap 26 2 a n c (m.flatMap Nt.cells) ob ∧ Fr (fun _ => False) w w' ∧ ∀ g, ob = some g → w.heap.size ≤ g
set_option maxHeartbeats 1000000 in
theorem sortedCov_any (Bs : Nat) (a : Option Addr) (cap : Nat) (zs : List Nt) (hlen : zs.length ≤ 1000000) (w : World) (hBs : Bs < w.heap.size)
    (hc : w.cell? ⟨Bs, 0, none⟩ = some (.slice a zs.length cap)) (hI : Recs w.heap a 2 Nt.cells zs) :
    Calls Try.prog 59 #[.func (.func 80) #[] #[.pointer (some ⟨Bs, 0, none⟩)], .func (.func 61) #[] #[]] w (RetSrt w zs zs.length) := by
  have hf := collectN_any Bs a cap zs (by omega) w hBs hc hI
  clear hI hc
  obtain ⟨n, hn⟩ : ∃ n, n = zs.length := ⟨_, rfl⟩
  rw [← hn] at hf ⊢
  have HN := Lib.hid hn
  clear hn
  go_enter Try.func59, Try.ntmps59
  go_wp2_with (fail)
  refine hf.mono ?_
  rintro e1 w1 ⟨a1, c1, ob1, rfl, hO, hF, hN⟩
  have hs := sortCov_any zs a1 c1 ob1 w1 hO HN.out hlen
  clear hf hO
  go_wp2_with (fail)
  refine hs.mono ?_
  rintro e2 w2 ⟨m, rfl, hp, hm, hO2, hF2⟩
  have hFe := hF.trans' hF2 (fun i hi h => by have := hN i h; omega)
  clear hs hF hF2
  go_wp2
  go_ret
  exact ⟨m, a1, c1, ob1, rfl, hp, hm, hO2, hFe, hN⟩
end Go.Proofs.Ytbmeeglehbaggaa
