import Derived.Test.YtakkljdeencfbaaDoorSpanMath
import Derived.Test.YtakkljdeencfbaaDoorOMat
namespace Go.Proofs.YtakkljdeencfbaaDoor
open Go.RowKit

def cmpI (a b : Int) : Int := if a < b then -1 else if b < a then 1 else 0
theorem cmp_any (a b : Int) (w : World) : Calls Tryd.prog 61 #[.int .i64 a, .int .i64 b] w (RetQ w (.int .i64 (cmpI a b))) := by
  have hN : ∀ (x : Int) (w : World), Calls Tryd.prog 62 #[.int .i64 x] w (RetQ w (.bool false)) := fun x w => by
    go_enter Tryd.func62, Tryd.ntmps62
    go_wp2
    go_ret
    exact RetQ.mk (x := .bool false) rfl rfl 0 rfl
  go_enter Tryd.func61, Tryd.ntmps61
  go_wp2_with (go_at_call 62; refine (hN a _).mono ?_)
  intro e1 w1 R1
  obtain ⟨rfl, n1, rfl⟩ := R1
  go_wp2_with (go_at_call 62; refine (hN b _).mono ?_)
  intro e2 w2 R2
  obtain ⟨rfl, n2, rfl⟩ := R2
  by_cases h1 : a < b
  · have hX := Lib.hid (show cmpI a b = -1 from if_pos h1)
    go_wp2
    go_ret
    exact RetQ.mk (x := .int .i64 (-1)) (by rw [hX.out]) rfl (n1 + n2) (by simp)
  · by_cases h2 : b < a
    · have hX := Lib.hid (show cmpI a b = 1 by unfold cmpI; rw [if_neg h1, if_pos h2])
      go_wp2
      go_ret
      exact RetQ.mk (x := .int .i64 1) (by rw [hX.out]) rfl (n1 + n2) (by simp)
    · have hX := Lib.hid (show cmpI a b = 0 by unfold cmpI; rw [if_neg h1, if_neg h2])
      go_wp2
      go_ret
      exact RetQ.mk (x := .int .i64 0) (by rw [hX.out]) rfl (n1 + n2) (by simp)

def cmpL : List Int → List Int → Int
  | [], [] => 0
  | [], _ :: _ => -1
  | _ :: _, [] => 1
  | a :: l, b :: m => if cmpI a b ≠ 0 then cmpI a b else cmpL l m
theorem cmp3 (b c : Bl) : decide (cmpL [b.r, b.f, b.u] [c.r, c.f, c.u] < 0) = decide (Bl.lt b c) := by
  apply decide_eq_decide.2
  simp only [cmpL, cmpI, Bl.lt]
  split <;> split <;> (try split) <;> (try split) <;> (try split) <;> (try split) <;> omega
end Go.Proofs.YtakkljdeencfbaaDoor
