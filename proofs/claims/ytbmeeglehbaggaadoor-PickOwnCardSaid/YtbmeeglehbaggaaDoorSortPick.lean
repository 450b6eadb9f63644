import Derived.Test.YtbmeeglehbaggaaDoorSortLib
import Derived.Test.YtbmeeglehbaggaaDoorMixV
import Derived.Test.YtbmeeglehbaggaaDoorStab1
import Derived.Test.YtbmeeglehbaggaaDoorColInt
import Derived.Test.YtbmeeglehbaggaaDoorIntsIn
import Derived.Shelf.SlSortCmp.NoneTotal
import Derived.BigQuiet
namespace Go.Proofs
open Go.Shelf
def Tryd.sortInt_ren : Go.Shelf.Ren := ⟨fun | 6 => 68 | 15 => 73 | 14 => 85 | 28 => 94 | 29 => 95 | 20 => 79 | 21 => 101 | 22 => 102 | 23 => 103 | 24 => 104 | 25 => 105 | 26 => 106 | 27 => 107 | 46 => 114 | 47 => 109 | 48 => 110 | 49 => 115 | 50 => 116 | 57 => 118 | n => n, fun | 22 => 30 | 24 => 3 | 25 => 86 | 3 => 3 | 39 => 120 | 0 => 0 | 53 => 36 | 55 => 133 | 4 => 4 | 46 => 161 | 45 => 160 | 50 => 99 | 5 => 5 | 9 => 9 | 66 => 186 | 70 => 190 | 76 => 194 | 77 => 195 | n => n, fun | n => n⟩
theorem Tryd.sortInt : Go.Proofs.SlLaysF.n6 Tryd.prog Tryd.sortInt_ren := {
  mixed := by kernel_rfl
  f6 := ⟨Tryd.f68.name, by decide, Tryd.func68.trans (congrArg some (by kernel_rfl))⟩
  f14 := ⟨Tryd.f85.name, by decide, Tryd.func85.trans (congrArg some (by kernel_rfl))⟩
  f15 := Tryd.func73.trans (congrArg some (by kernel_rfl))
  f20 := ⟨Tryd.f79.name, by decide, Tryd.func79.trans (congrArg some (by kernel_rfl))⟩
  f21 := ⟨Tryd.f101.name, by decide, Tryd.func101.trans (congrArg some (by kernel_rfl))⟩
  f22 := ⟨Tryd.f102.name, by decide, Tryd.func102.trans (congrArg some (by kernel_rfl))⟩
  f23 := ⟨Tryd.f103.name, by decide, Tryd.func103.trans (congrArg some (by kernel_rfl))⟩
  f24 := ⟨Tryd.f104.name, by decide, Tryd.func104.trans (congrArg some (by kernel_rfl))⟩
  f25 := ⟨Tryd.f105.name, by decide, Tryd.func105.trans (congrArg some (by kernel_rfl))⟩
  f26 := ⟨Tryd.f106.name, by decide, Tryd.func106.trans (congrArg some (by kernel_rfl))⟩
  f27 := ⟨Tryd.f107.name, by decide, Tryd.func107.trans (congrArg some (by kernel_rfl))⟩
  f28 := Tryd.func94.trans (congrArg some (by kernel_rfl))
  f29 := Tryd.func95.trans (congrArg some (by kernel_rfl))
  f46 := ⟨Tryd.f114.name, by decide, Tryd.func114.trans (congrArg some (by kernel_rfl))⟩
  f47 := Tryd.func109.trans (congrArg some (by kernel_rfl))
  f48 := Tryd.func110.trans (congrArg some (by kernel_rfl))
  f49 := ⟨Tryd.f115.name, by decide, Tryd.func115.trans (congrArg some (by kernel_rfl))⟩
  f50 := ⟨Tryd.f116.name, by decide, Tryd.func116.trans (congrArg some (by kernel_rfl))⟩
  f57 := ⟨Tryd.f118.name, by decide, Tryd.func118.trans (congrArg some (by kernel_rfl))⟩
  t0 := Tryd.underlying0
  a0 := Tryd.isAgg0
  z0 := Tryd.sizeOf0
  v0 := Tryd.zeroValue0
  t3 := Tryd.underlying3
  a3 := Tryd.isAgg3
  z3 := Tryd.sizeOf3
  v3 := Tryd.zeroValue3
  t4 := Tryd.underlying4
  a4 := Tryd.isAgg4
  z4 := Tryd.sizeOf4
  v4 := Tryd.zeroValue4
  t5 := Tryd.underlying5
  a5 := Tryd.isAgg5
  z5 := Tryd.sizeOf5
  v5 := Tryd.zeroValue5
  t9 := Tryd.underlying9
  a9 := Tryd.isAgg9
  z9 := Tryd.sizeOf9
  v9 := Tryd.zeroValue9
  t22 := Tryd.underlying30
  a22 := Tryd.isAgg30
  z22 := Tryd.sizeOf30
  v22 := Tryd.zeroValue30
  a24 := Tryd.isAgg3
  z24 := Tryd.sizeOf3
  t25 := Tryd.underlying86
  a25 := Tryd.isAgg86
  z25 := Tryd.sizeOf86
  v25 := Tryd.zeroValue86
  t39 := Tryd.underlying120
  a39 := Tryd.isAgg120
  z39 := Tryd.sizeOf120
  v39 := Tryd.zeroValue120
  t45 := Tryd.underlying160
  a45 := Tryd.isAgg160
  z45 := Tryd.sizeOf160
  v45 := Tryd.zeroValue160
  t46 := Tryd.underlying161
  a46 := Tryd.isAgg161
  z46 := Tryd.sizeOf161
  v46 := Tryd.zeroValue161
  t50 := Tryd.underlying99
  a50 := Tryd.isAgg99
  z50 := Tryd.sizeOf99
  v50 := Tryd.zeroValue99
  t53 := Tryd.underlying36
  a53 := Tryd.isAgg36
  z53 := Tryd.sizeOf36
  v53 := Tryd.zeroValue36
  t55 := Tryd.underlying133
  a55 := Tryd.isAgg133
  z55 := Tryd.sizeOf133
  v55 := Tryd.zeroValue133
  t66 := Tryd.underlying186
  a66 := Tryd.isAgg186
  z66 := Tryd.sizeOf186
  v66 := Tryd.zeroValue186
  t70 := Tryd.underlying190
  a70 := Tryd.isAgg190
  z70 := Tryd.sizeOf190
  v70 := Tryd.zeroValue190
  t76 := Tryd.underlying194
  a76 := Tryd.isAgg194
  z76 := Tryd.sizeOf194
  v76 := Tryd.zeroValue194
  t77 := Tryd.underlying195
  a77 := Tryd.isAgg195
  z77 := Tryd.sizeOf195
  v77 := Tryd.zeroValue195
  }

end Go.Proofs
namespace Go.Proofs.YtbmeeglehbaggaaDoor
open Go.RowKit Go.Shelf Go.Lib Go.Sort

/-- The order of hops. -/
def orI (x y : Int) : Int := if x ≠ 0 then x else y
def cfP (f x y : Int) : Int := orI (cmpI (mixV f y) (mixV f x)) (cmpI x y)
theorem cmpI_lt (x y : Int) : cmpI x y < 0 ↔ x < y := by
  unfold cmpI; split
  · omega
  · split <;> omega
theorem cmpI_zero (x y : Int) : cmpI x y = 0 ↔ x = y := by
  unfold cmpI; split
  · omega
  · split <;> omega
theorem ltP (f x y : Int) : ltOf (cfP f) x y = decide (mixV f y < mixV f x ∨ mixV f x = mixV f y ∧ x < y) := by
  unfold ltOf cfP orI
  congr 1
  by_cases h : cmpI (mixV f y) (mixV f x) = 0
  · rw [if_neg (fun q => q h)]
    have e := (cmpI_zero _ _).1 h
    rw [eq_iff_iff, cmpI_lt]
    omega
  · rw [if_pos h, eq_iff_iff, cmpI_lt]
    have e : ¬ mixV f y = mixV f x := fun q => h ((cmpI_zero _ _).2 q)
    omega
theorem swoP (f : Int) : SWO (ltOf (cfP f)) where
  irrefl x := by rw [ltP]; exact decide_eq_false (by omega)
  trans x y z h1 h2 := by
    rw [ltP] at *
    have a1 := of_decide_eq_true h1
    have a2 := of_decide_eq_true h2
    exact decide_eq_true (by omega)
  ntrans x y z h1 h2 := by
    rw [ltP] at *
    have a1 := of_decide_eq_false h1
    have a2 := of_decide_eq_false h2
    exact decide_eq_false (by omega)
theorem totP (f x y : Int) (h1 : ltOf (cfP f) x y = false) (h2 : ltOf (cfP f) y x = false) : x = y := by
  rw [ltP] at *
  have a1 := of_decide_eq_false h1
  have a2 := of_decide_eq_false h2
  omega
def sortP (f : Int) (l : List Int) : List Int := l.mergeSort fun x y => !(ltOf (cfP f)) y x
theorem sortP_len (f : Int) (l : List Int) : (sortP f l).length = l.length := List.length_mergeSort _

set_option maxRecDepth 100000 in
set_option maxHeartbeats 1000000 in
theorem or_any (x y : Int) (a : Option Addr) (c : Nat) (w : World) (hI : Ints w.heap a [x, y]) : Calls Tryd.prog 45 #[.slice a 2 c] w (RetS w (.int .i64 (orI x y))) := by
  obtain ⟨b, off, rfl, hb, hcs⟩ := Ints.pos hI (by simp)
  have c0 : w.cell? ⟨b, off, none⟩ = some (.int .i64 x) := hcs w rfl 0 (by simp)
  have c1 : w.cell? ⟨b, off + 1, none⟩ = some (.int .i64 y) := hcs w rfl 1 (by simp)
  clear hcs
  go_enter Tryd.func45, Tryd.ntmps45
  by_cases h : x = 0
  · have hV := Lib.hid (show orI x y = y from if_neg (fun q => q h))
    subst h
    go_wp2
    go_loopw [8] (fun s8 wr => ∃ k : Nat, k ≤ 2 ∧ s8 = .int .i64 k ∧ wr = w ∧ Hid (k = 2 → y = 0)) (fun s _ => 2 - (intOf s).toNat)
    case atStart => exact ⟨0, by omega, rfl, rfl, Lib.hid (fun h => absurd h (by omega))⟩
    case round =>
      obtain ⟨k, hk, rfl, rfl, HY⟩ := hrel
      by_cases k0 : k = 0
      · subst k0
        clear HY
        go_wp2
        go_roundw
        case rel => exact ⟨1, by omega, rfl, by first | trivial | rfl, Lib.hid (fun h => absurd h (by omega))⟩
        case measure => simp [intOf]
      · by_cases k1 : k = 1
        · subst k1
          clear HY
          by_cases hy : y = 0
          · have e1 : (y != 0) = false := by simp [hy]
            have HY := Lib.hid hy
            clear hy
            go_wp2
            go_roundw
            case rel => exact ⟨2, by omega, rfl, by first | trivial | rfl, Lib.hid (fun _ => HY.out)⟩
            case measure => simp [intOf]
          · have e1 : (y != 0) = true := by simp [hy]
            clear hy
            go_wp2
            go_ret
            exact RetS.mk (x := .int .i64 y) (by rw [hV.out]) rfl rfl
        · obtain rfl : k = 2 := by omega
          have HY2 := Lib.hid (HY.out rfl)
          clear HY
          go_wp2
          go_ret
          exact RetS.mk (x := .int .i64 0) (by rw [hV.out, HY2.out]) rfl rfl
  · have hV := Lib.hid (show orI x y = x from if_pos h)
    have e1 : (x != 0) = true := by simp [h]
    clear h
    go_wp2
    go_loopw [8] (fun s8 wr => s8 = .int .i64 0 ∧ wr = w) (fun _ _ => 0)
    case atStart => exact ⟨rfl, rfl⟩
    case round =>
      obtain ⟨rfl, rfl⟩ := hrel
      go_wp2
      go_ret
      exact RetS.mk (x := .int .i64 x) (by rw [hV.out]) rfl rfl

set_option maxRecDepth 100000 in
set_option maxHeartbeats 1000000 in
theorem pcmp_any (f x y : Int) (bf : Nat) (w : World) (hB : Blk w.heap bf 3 [.int .i64 f]) : Calls Tryd.prog 44 #[.int .i64 x, .int .i64 y, .pointer (some ⟨bf, 0, none⟩)] w (RetGr w (.int .i64 (cfP f x y))) := by
  have HV := Lib.hid (show cfP f x y = orI (cmpI (mixV f y) (mixV f x)) (cmpI x y) from rfl)
  have c0 := hB.cell 0
  simp only [List.getElem?_cons_zero] at c0
  have hlt := hB.lt
  generalize cfP f x y = v at *
  have q0 := fun c : Cls (fun _ => False) w => (hB.fr c.fr (fun h => h)).cell 0
  simp only [List.getElem?_cons_zero] at q0
  go_enter Tryd.func44, Tryd.ntmps44
  go_wp2
  (refine wp_region_mix (fun w' => ∃ n, w' = w.drewN n) 9 (by kernel_rfl) (by kernel_rfl) (⟨1, rfl⟩) ?_; simp only [List.take_succ_cons, List.take_zero, List.drop_succ_cons, List.drop_zero])
  (refine wpMix_earlyN 2 (by kernel_rfl) (by kernel_rfl) ?_; simp only [List.take_succ_cons, List.take_zero, List.drop_succ_cons, List.drop_zero]; (repeat (go_big_quiet_step (fail))); refine wpQuiet_nil ?_)
  refine wpMix_eff (by kernel_rfl) ?_
  go_wp2_with (fail)
  refine (mixv_any f y _).mono ?_
  rintro e1 w1 ⟨rfl, rfl⟩
  go_wp2
  refine ⟨⟨1, rfl⟩, ?_⟩
  (refine wpMix_lateN 2 (⟨1, rfl⟩) (by kernel_rfl) ?_; simp only [List.take_succ_cons, List.take_zero, List.drop_succ_cons, List.drop_zero]; (repeat (go_big_quiet_step (fail))); refine wpQuiet_nil ?_)
  refine wpMix_eff (by kernel_rfl) ?_
  go_wp2_with (fail)
  refine (mixv_any f x _).mono ?_
  rintro e2 w2 ⟨rfl, rfl⟩
  go_wp2
  refine ⟨⟨1, rfl⟩, ?_⟩
  refine wpMix_eff (by kernel_rfl) ?_
  go_wp2_with (fail)
  refine (cmpCompare_any (mixV f y) (mixV f x) _).mono ?_
  rintro e3 w3 ⟨rfl, rfl⟩
  go_wp2
  refine ⟨⟨1, rfl⟩, ?_⟩
  (refine wpMix_lateN 2 (⟨1, rfl⟩) (by kernel_rfl) ?_; simp only [List.take_succ_cons, List.take_zero, List.drop_succ_cons, List.drop_zero]; (repeat (go_big_quiet_step (fail))); refine wpQuiet_nil ?_)
  refine wpMix_nil ?_
  go_wp2_with (fail)
  refine (cmpCompare_any x y _).mono ?_
  rintro e4 w4 ⟨rfl, rfl⟩
  generalize cmpI (mixV f y) (mixV f x) = p at *
  generalize cmpI x y = q at *
  have ho := or_any p q (some ⟨w.heap.size, 0, none⟩) 2 (w.drew.alloc (.cells #[.int .i64 p, .int .i64 q] 3)) ((Ownd.made w.drew 3 1 2 [.int .i64 p, .int .i64 q] rfl (by decide)).rd)
  go_wp2_with (fail)
  refine ho.mono ?_
  rintro e5 w5 ⟨rfl, rfl⟩
  go_wp2
  go_ret
  exact RetGr.mk (x := .int .i64 (orI p q)) (by rw [HV.out]) rfl (((Grn.refl w).drew).alloc _)
end Go.Proofs.YtbmeeglehbaggaaDoor
