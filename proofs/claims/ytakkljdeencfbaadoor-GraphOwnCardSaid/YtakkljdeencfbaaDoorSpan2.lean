import Derived.Test.YtakkljdeencfbaaDoorSpan1
namespace Go.Proofs.YtakkljdeencfbaaDoor
open Go.RowKit

theorem cmpL_step (l m : List Int) (k : Nat) (h : k < l.length) (hlm : l.length = m.length) : cmpL (l.drop k) (m.drop k) = if cmpI (nth l k) (nth m k) ≠ 0 then cmpI (nth l k) (nth m k) else cmpL (l.drop (k + 1)) (m.drop (k + 1)) := by
  rw [drop_nth l k h, drop_nth m k (by omega)]; rfl

set_option maxRecDepth 100000 in
set_option maxHeartbeats 1000000 in
theorem compare_any {q : Nat} (l m : List Int) (a b : Option Addr) (c d : Nat) (w : World) (hl : Rd w.heap a q 1 (ivals .i64 l)) (hm : Rd w.heap b q 1 (ivals .i64 m)) (hb : q ≤ 1000) :
    Calls Tryd.prog 57 #[.slice a q c, .slice b q d] w (RetQ w (.int .i64 (cmpL l m))) := by
  have HL := Lib.hid (show l.length = q by have := hl.len; simpa using this)
  have HM := Lib.hid (show m.length = q by have := hm.len; simpa using this)
  go_enter Tryd.func57, Tryd.ntmps57
  go_wp2
  go_loopw [11] (fun i wr => ∃ k n : Nat, k ≤ q ∧ i = .int .i64 k ∧ wr = w.drewN n ∧ Hid (cmpL (l.drop k) (m.drop k) = cmpL l m)) (fun i _ => q - (intOf i).toNat)
  case atStart => exact ⟨0, 0, by omega, rfl, rfl, Lib.hid (by simp)⟩
  case round =>
    obtain ⟨k, n, hk, rfl, rfl, hE⟩ := hrel
    by_cases hlt : k < q
    · obtain ⟨g1, o1, rfl, q1, c1⟩ := Ints.pos hl (by omega)
      obtain ⟨g2, o2, rfl, q2, c2⟩ := Ints.pos hm (by omega)
      have d0 := c1 w rfl k hlt
      have d1 := c2 w rfl k hlt
      have hst := Lib.hid (cmpL_step l m k (by rw [HL.out]; exact hlt) (by rw [HL.out, HM.out]))
      generalize nth l k = X at *
      generalize nth m k = Y at *
      clear c1 c2
      go_wp2_with (go_at_call 61; refine (cmp_any X Y _).mono ?_)
      intro e1 w1 R1
      obtain ⟨rfl, n1, rfl⟩ := R1
      generalize cmpI X Y = Z at *
      by_cases hz : Z = 0
      · have hE' : Hid (cmpL (l.drop (k + 1)) (m.drop (k + 1)) = cmpL l m) := Lib.hid (by rw [← hE.out, hst.out, if_neg (by simp [hz])])
        subst hz
        clear hst
        go_wp2
        go_roundw
        case rel => exact ⟨k + 1, n + n1, by omega, by go_num, by simp, hE'⟩
        case measure => simp [intOf]; omega
      · have hX := Lib.hid (show cmpL l m = Z by rw [← hE.out, hst.out, if_pos hz])
        have hb : (Z != 0) = true := by simp [hz]
        clear hst
        go_wp2
        go_ret
        exact RetQ.mk (x := .int .i64 Z) (by rw [hX.out]) rfl (n + n1) (by simp)
    · obtain rfl : k = q := by omega
      have hX := Lib.hid (show cmpL l m = 0 by
        have := hE.out
        rw [List.drop_of_length_le (by rw [HL.out]; omega), List.drop_of_length_le (by rw [HM.out]; omega)] at this
        rw [← this]; rfl)
      go_wp2
      go_ret
      exact RetQ.mk (x := .int .i64 0) (by rw [hX.out]) rfl n rfl

set_option maxRecDepth 100000 in
set_option maxHeartbeats 1000000 in
theorem better_any (b c : Bl) (w : World) : Calls Tryd.prog 47 #[.agg #[.int .i64 b.r, .int .i64 b.f, .int .i64 b.u], .agg #[.int .i64 c.r, .int .i64 c.f, .int .i64 c.u]] w (RetV w (.bool (decide (Bl.lt b c)))) := by
  have h3 := Lib.hid (cmp3 b c)
  obtain ⟨x, y, z⟩ := b
  obtain ⟨x', y', z'⟩ := c
  go_enter Tryd.func47, Tryd.ntmps47
  have hA := (Own.made ((w.alloc (.cells #[.int .i64 x, .int .i64 y, .int .i64 z] 71)).alloc (.cells #[.int .i64 x', .int .i64 y', .int .i64 z'] 71)) 3 1 3 [.int .i64 x, .int .i64 y, .int .i64 z] rfl (by decide)).rd
  have hB := (Own.made (((w.alloc (.cells #[.int .i64 x, .int .i64 y, .int .i64 z] 71)).alloc (.cells #[.int .i64 x', .int .i64 y', .int .i64 z'] 71)).alloc (.cells #[.int .i64 x, .int .i64 y, .int .i64 z] 3)) 3 1 3 [.int .i64 x', .int .i64 y', .int .i64 z'] rfl (by decide)).rd
  have hA2 := hA.fr (S := fun _ => False) ((Fr.refl _ _).alloc (.cells #[.int .i64 x', .int .i64 y', .int .i64 z'] 3)) (fun _ _ _ h => h)
  simp only [World.size_alloc] at hA2 hB
  clear hA
  go_wp2_with (go_at_call 57; refine (compare_any [x, y, z] [x', y', z'] _ _ _ _ _ hA2 hB (by decide)).mono ?_)
  intro e1 w1 R1
  obtain ⟨rfl, n1, rfl⟩ := R1
  clear hA2 hB
  go_wp2
  go_ret
  exact ⟨by simp [← h3.out], ((((Fr.refl _ w).alloc _).alloc _).alloc _).alloc _ |>.drewN n1⟩
end Go.Proofs.YtakkljdeencfbaaDoor
