import Derived.Test.YtbmeeglehbaggaaGaoW
import Derived.Test.YtbmeeglehbaggaaConcat
import Derived.Test.YtbmeeglehbaggaaIntsIn
namespace Go.Proofs.Ytbmeeglehbaggaa
open Go.RowKit

/-! The ways that a node is offered. -/
structure WyR where
  t : Int
  p : List Int
  A : Option Addr
  C : Nat
deriving Inhabited
abbrev WyR.cells (x : WyR) : List Value := [.int .i64 x.t, .slice x.A x.p.length x.C]
theorem WyR.cells_len (x : WyR) : (WyR.cells x).length = 2 := rfl
abbrev WyR.wy (x : WyR) : Wy := ⟨x.t, x.p⟩
theorem infoWy : (Try.prog.info? 65).map (fun i => (i.zero, i.size, i.bytes)) = some (some (.agg #[.int .i64 0, .slice none 0 0]), 2, 32) := by kernel_rfl

set_option maxRecDepth 100000 in
theorem isNaNG_any (x : Int) (w : World) : Calls Try.prog 77 #[.int .i64 x] w (RetS w (.bool false)) := by
  go_enter Try.func77, Try.ntmps77
  have e : (x != x) = false := by simp
  go_wp2
  go_ret
  exact RetS.mk rfl rfl rfl
def cmpG (x y : Int) : Int := if x < y then -1 else if y < x then 1 else 0
set_option maxRecDepth 100000 in
theorem cmpG_any (x y : Int) (w : World) : Calls Try.prog 58 #[.int .i64 x, .int .i64 y] w (RetS w (.int .i64 (cmpG x y))) := by
  go_enter Try.func58, Try.ntmps58
  go_wp2_with (fail)
  refine (isNaNG_any x w).mono ?_
  rintro e1 w1 ⟨rfl, rfl⟩
  go_wp2_with (fail)
  refine (isNaNG_any y w).mono ?_
  rintro e2 w2 ⟨rfl, rfl⟩
  by_cases h : x < y
  · have HV := Lib.hid (show cmpG x y = -1 from if_pos h)
    go_wp2
    go_ret
    exact RetS.mk (x := .int .i64 (-1)) (by rw [HV.out]) rfl rfl
  · by_cases h2 : y < x
    · have HV := Lib.hid (show cmpG x y = 1 by unfold cmpG; rw [if_neg h, if_pos h2])
      go_wp2
      go_ret
      exact RetS.mk (x := .int .i64 1) (by rw [HV.out]) rfl rfl
    · have HV := Lib.hid (show cmpG x y = 0 by unfold cmpG; rw [if_neg h, if_neg h2])
      go_wp2
      go_ret
      exact RetS.mk (x := .int .i64 0) (by rw [HV.out]) rfl rfl
theorem cmpL_drop {l m : List Int} {k : Nat} (h1 : k < l.length) (h2 : k < m.length) : cmpL (l.drop k) (m.drop k) = if nth l k < nth m k then -1 else if nth m k < nth l k then 1 else cmpL (l.drop (k + 1)) (m.drop (k + 1)) := by
  rw [drop_nth l k h1, drop_nth m k h2]; rfl
theorem cmpL_long {l m : List Int} {k : Nat} (h1 : k < l.length) (h2 : m.length ≤ k) : cmpL (l.drop k) (m.drop k) = 1 := by
  rw [drop_nth l k h1, List.drop_eq_nil_of_le h2]; rfl
theorem cmpL_end {l m : List Int} : cmpL (l.drop l.length) (m.drop l.length) = if l.length < m.length then -1 else 0 := by
  rw [List.drop_length]
  by_cases h : l.length < m.length
  · rw [if_pos h, drop_nth m _ h]; rfl
  · rw [if_neg h, List.drop_eq_nil_of_le (by omega)]; rfl
set_option maxRecDepth 100000 in
set_option maxHeartbeats 1000000 in
theorem compareL_any {n k : Nat} (l m : List Int) (a b : Option Addr) (c d : Nat) (w : World) (ha : Ints w.heap a l) (hb : Ints w.heap b m) (hn : n = l.length) (hk : k = m.length) (h1 : n ≤ 9223372036854775807) (h2 : k ≤ 9223372036854775807) :
    Calls Try.prog 75 #[.slice a n c, .slice b k d] w (RetS w (.int .i64 (cmpL l m))) := by
  have HN := Lib.hid hn
  have HK := Lib.hid hk
  have H0 : Hid (cmpL l m = cmpL (l.drop 0) (m.drop 0)) := Lib.hid rfl
  obtain ⟨v, hv⟩ : ∃ v, v = cmpL l m := ⟨_, rfl⟩
  rw [← hv] at H0 ⊢
  clear hn hk hv
  go_enter Try.func75, Try.ntmps75
  go_wp2
  go_loopw [11] (fun s11 wr => ∃ j : Nat, j ≤ n ∧ s11 = .int .i64 j ∧ wr = w ∧ Hid (v = cmpL (l.drop j) (m.drop j))) (fun s _ => n - (intOf s).toNat)
  case atStart => exact ⟨0, by omega, rfl, rfl, H0⟩
  case round =>
    clear H0
    obtain ⟨j, hj, rfl, rfl, hE⟩ := hrel
    by_cases hjn : j < n
    · have hjl : j < l.length := by have := HN.out; omega
      obtain ⟨g1, o1, rfl, q1, c1⟩ := Ints.pos ha (by omega)
      have d1 := c1 wr rfl j hjl
      clear c1
      by_cases hjk : j < k
      · have hjm : j < m.length := by have := HK.out; omega
        obtain ⟨g2, o2, rfl, q2, c2⟩ := Ints.pos hb (by omega)
        have d2 := c2 wr rfl j hjm
        have HC := Lib.hid (cmpL_drop hjl hjm)
        generalize nth l j = x at *
        generalize nth m j = y at *
        clear c2 hjl hjm
        by_cases hxy : x < y
        · have HV := Lib.hid (show v = -1 by rw [hE.out, HC.out, if_pos hxy])
          have hc0 := cmpG_any x y wr
          rw [show cmpG x y = -1 from if_pos hxy] at hc0
          clear hE HC hxy
          go_wp2_with (fail)
          refine hc0.mono ?_
          rintro e1 w1 ⟨rfl, rfl⟩
          clear hc0
          go_wp2
          go_ret
          exact RetS.mk (x := .int .i64 (-1)) (by rw [HV.out]) rfl rfl
        · by_cases hyx : y < x
          · have HV := Lib.hid (show v = 1 by rw [hE.out, HC.out, if_neg hxy, if_pos hyx])
            have hc0 := cmpG_any x y wr
            rw [show cmpG x y = 1 by unfold cmpG; rw [if_neg hxy, if_pos hyx]] at hc0
            clear hE HC hxy hyx
            go_wp2_with (fail)
            refine hc0.mono ?_
            rintro e1 w1 ⟨rfl, rfl⟩
            clear hc0
            go_wp2
            go_ret
            exact RetS.mk (x := .int .i64 1) (by rw [HV.out]) rfl rfl
          · have HV := Lib.hid (show v = cmpL (l.drop (j + 1)) (m.drop (j + 1)) by rw [hE.out, HC.out, if_neg hxy, if_neg hyx])
            have hc0 := cmpG_any x y wr
            rw [show cmpG x y = 0 by unfold cmpG; rw [if_neg hxy, if_neg hyx]] at hc0
            clear hE HC hxy hyx
            go_wp2_with (fail)
            refine hc0.mono ?_
            rintro e1 w1 ⟨rfl, rfl⟩
            clear hc0
            go_wp2
            go_roundw
            case rel => exact ⟨j + 1, by omega, by go_num, by first | trivial | rfl, HV⟩
            case measure => simp [intOf]; omega
      · have HV := Lib.hid (show v = 1 by rw [hE.out]; exact cmpL_long hjl (by have := HK.out; omega))
        clear hE hjl
        go_wp2
        go_ret
        exact RetS.mk (x := .int .i64 1) (by rw [HV.out]) rfl rfl
    · obtain rfl : j = n := by omega
      by_cases hlk : j < k
      · have HV := Lib.hid (show v = -1 by rw [hE.out, HN.out, cmpL_end, if_pos (by rw [← HN.out, ← HK.out]; exact hlk)])
        clear hE
        go_wp2
        go_ret
        exact RetS.mk (x := .int .i64 (-1)) (by rw [HV.out]) rfl rfl
      · have HV := Lib.hid (show v = 0 by rw [hE.out, HN.out, cmpL_end, if_neg (by rw [← HN.out, ← HK.out]; exact hlk)])
        clear hE
        go_wp2
        go_ret
        exact RetS.mk (x := .int .i64 0) (by rw [HV.out]) rfl rfl
set_option maxRecDepth 100000 in
set_option maxHeartbeats 2000000 in
theorem better_any {n k : Nat} (x y : WyR) (w : World) (hx : Ints w.heap x.A x.p) (hy : Ints w.heap y.A y.p) (hn : n = x.p.length) (hk : k = y.p.length) (h1 : n ≤ 9223372036854775807) (h2 : k ≤ 9223372036854775807) :
    Calls Try.prog 53 #[.agg #[.int .i64 x.t, .slice x.A n x.C], .agg #[.int .i64 y.t, .slice y.A k y.C]] w (RetV w (.bool (better x.wy y.wy))) := by
  obtain ⟨xt, xp, xA, xC⟩ := x
  obtain ⟨yt, yp, yA, yC⟩ := y
  simp only at hx hy hn hk ⊢
  have hF2 := ((Fr.refl (fun _ => False) w).alloc (.cells #[.int .i64 xt, .slice xA n xC] 65)).alloc (.cells #[.int .i64 yt, .slice yA k yC] 65)
  have hcmp := compareL_any xp yp xA yA xC yC _ (hx.fr hF2 (fun _ _ _ h => h)) (hy.fr hF2 (fun _ _ _ h => h)) hn hk h1 h2
  have HV : Hid (better ⟨xt, xp⟩ ⟨yt, yp⟩ = if n = 0 ∨ k = 0 then decide (n ≠ 0) else if xt ≠ yt then decide (xt < yt) else if n ≠ k then decide (n < k) else decide (cmpL xp yp < 0)) := Lib.hid (by
    unfold better
    have e1 : (xp = []) = (n = 0) := by rw [hn]; exact propext ⟨fun h => by rw [h]; rfl, fun h => List.eq_nil_of_length_eq_zero h⟩
    have e2 : (yp = []) = (k = 0) := by rw [hk]; exact propext ⟨fun h => by rw [h]; rfl, fun h => List.eq_nil_of_length_eq_zero h⟩
    simp only [ne_eq, e1, e2, ← hn, ← hk])
  generalize better ⟨xt, xp⟩ ⟨yt, yp⟩ = v at *
  generalize cmpL xp yp = q at *
  clear hx hy hn hk
  go_enter Try.func53, Try.ntmps53
  by_cases hn0 : n = 0
  · subst hn0
    have HV2 := Lib.hid (show v = false by rw [HV.out]; simp)
    clear HV hcmp
    go_wp2
    go_ret
    exact RetV.mk (x := .bool false) (by rw [HV2.out]) rfl hF2
  · have en : ((n : Int) == 0) = false := by simp; omega
    by_cases hk0 : k = 0
    · subst hk0
      have HV2 := Lib.hid (show v = true by rw [HV.out]; simp [hn0])
      have e3 : decide ((n : Int) > 0) = true := by simp; omega
      have e4 : 0 < n := by omega
      clear HV hcmp
      go_wp2
      go_ret
      exact RetV.mk (x := .bool true) (by rw [HV2.out]) rfl hF2
    · have ek : ((k : Int) == 0) = false := by simp; omega
      have HV2 := Lib.hid (show v = if xt ≠ yt then decide (xt < yt) else if n ≠ k then decide (n < k) else decide (q < 0) by rw [HV.out, if_neg (by omega)])
      clear HV
      by_cases ht : xt = yt
      · have et : (xt != yt) = false := by simp [ht]
        have HV3 := Lib.hid (show v = if n ≠ k then decide (n < k) else decide (q < 0) by rw [HV2.out, if_neg (fun h => h ht)])
        clear HV2 ht
        by_cases hl : n = k
        · have el : ((n : Int) != (k : Int)) = false := by simp [hl]
          have HV4 := Lib.hid (show v = decide (q < 0) by rw [HV3.out, if_neg (fun h => h hl)])
          clear HV3 hl
          go_wp2_with (fail)
          refine hcmp.mono ?_
          rintro e1 w1 ⟨rfl, rfl⟩
          clear hcmp
          go_wp2
          go_ret
          exact RetV.mk (x := .bool (decide (q < 0))) (by rw [HV4.out]) rfl hF2
        · have el : ((n : Int) != (k : Int)) = true := by simp; omega
          have HV4 := Lib.hid (show v = decide (n < k) by rw [HV3.out, if_pos hl])
          clear HV3 hl hcmp
          go_wp2
          go_ret
          exact RetV.mk (x := .bool (decide (n < k))) (by rw [HV4.out]) rfl hF2
      · have et : (xt != yt) = true := by simp [ht]
        have HV3 := Lib.hid (show v = decide (xt < yt) by rw [HV2.out, if_pos ht])
        clear HV2 ht hcmp
        go_wp2
        go_ret
        exact RetV.mk (x := .bool (decide (xt < yt))) (by rw [HV3.out]) rfl hF2
end Go.Proofs.Ytbmeeglehbaggaa
