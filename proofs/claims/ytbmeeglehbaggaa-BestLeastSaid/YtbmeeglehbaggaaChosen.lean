import Derived.Test.YtbmeeglehbaggaaBestB
import Derived.Test.YtbmeeglehbaggaaTen
import Derived.Test.YtbmeeglehbaggaaSame
namespace Go
theorem rd_at {H : Array Obj} {b b' n sz : Nat} {xs : List Value} (h : Rd H (some ⟨b, 0, none⟩) n sz xs) (e : b = b') : Rd H (some ⟨b', 0, none⟩) n sz xs := e ▸ h
end Go
namespace Go.Proofs.Ytbmeeglehbaggaa
open Go.RowKit

theorem chosenM : bestM [⟨1, 167772160, 8, 2⟩] [1, 3] 167772160 8 = (5, [1]) := by rfl
theorem chosenE : bestE [⟨1, 167772160, 8, 2⟩] [1, 3] 167772160 8 = none := by decide
set_option maxRecDepth 100000 in
set_option maxHeartbeats 1000000 in
theorem chosen3_any (w : World) : Calls Try.prog 10 #[] w (RetV w (.bool true)) := by
  go_enter Try.func10, Try.ntmps10
  go_wp2_with (fail)
  refine (ten3_any w).mono ?_
  rintro e1 w1 ⟨rfl, hw1⟩
  have hF1 : Fr (fun _ => False) w w1 := by rw [hw1]; exact (Fr.refl _ _).alloc _
  clear hw1
  go_wp2_with (fail)
  refine (ten3_any _).mono ?_
  rintro e2 w2 ⟨rfl, hw2⟩
  have hL : Recs w2.heap (some ⟨w1.heap.size, 0, none⟩) 4 Hea.cells [⟨1, 167772160, 8, 2⟩] := by
    rw [hw2]
    exact (((Own.made w1 77 4 1 (Hea.cells ⟨1, 167772160, 8, 2⟩) rfl (by decide)).alloc _).alloc _).rd
  have hC : Ints w2.heap (some ⟨w1.heap.size + 1, 0, none⟩) [1, 3] := by
    rw [hw2]
    have h := ((Own.made (w1.alloc (.cells #[.int .i64 1, .int .u32 167772160, .int .i64 8, .int .i64 2] 77)) 3 1 2 [.int .i64 1, .int .i64 3] rfl (by decide)).alloc (.cells #[.int .u32 167772160, .int .i64 8] 26)).rd
    rwa [show (w1.alloc (.cells #[.int .i64 1, .int .u32 167772160, .int .i64 8, .int .i64 2] 77)).heap.size = w1.heap.size + 1 by simp] at h
  have hF2 : Fr (fun _ => False) w w2 := by rw [hw2]; exact ((hF1.alloc _).alloc _).alloc _
  clear hw2 hF1
  go_wp2_with (fail)
  refine (best_any [⟨1, 167772160, 8, 2⟩] _ 1 [1, 3] _ 2 167772160 8 w2 hL (fun x hx => by rw [List.mem_singleton.1 hx]; decide) (by decide) hC (by decide) (by decide) rfl rfl).mono ?_
  intro e3 w3 R3
  obtain ⟨a3, c3, ob3, he3, hO3, hF3, -⟩ := R3.okE chosenE
  rw [chosenM] at he3 hO3
  subst he3
  have hr3 : Ints (w3.alloc (.cells #[.int .u32 167772160, .int .i64 8, .int .i64 5, .slice a3 1 c3] 29)).heap a3 [1] := (hO3.alloc _).rd
  have hF03 := (hF2.trans hF3).alloc (.cells #[.int .u32 167772160, .int .i64 8, .int .i64 5, .slice a3 1 c3] 29)
  have hB := Blk.made w3 29 [.int .u32 167772160, .int .i64 8, .int .i64 5, .slice a3 1 c3]
  clear R3 hF3 hO3 hL hC hF2
  go_wp2_with (fail)
  have hr4 := rd_lit (w3.alloc (.cells #[.int .u32 167772160, .int .i64 8, .int .i64 5, .slice a3 1 c3] 29)) 3 [.int .i64 1]
  refine (ints_any' [1] [1] _ _ _ _ _ (hr3.fr0 ((Fr.refl (fun _ => False) _).alloc _) (fun _ _ h => h)) (rd_at hr4 (by simp)) (by decide) (by decide) rfl rfl).mono ?_
  rintro e4 w4 ⟨rfl, n4, rfl⟩
  rw [decide_eq_true rfl]
  have hF04 := (hF03.alloc (.cells #[.int .i64 1] 3)).drewN n4
  clear hr3 hr4
  go_wp2
  go_ret
  exact RetV.mk rfl rfl hF04
end Go.Proofs.Ytbmeeglehbaggaa
