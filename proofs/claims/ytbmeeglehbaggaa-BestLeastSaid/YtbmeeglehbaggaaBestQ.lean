import Derived.Test.YtbmeeglehbaggaaBestB
import Derived.Test.YtbmeeglehbaggaaNetFault
namespace Go.Proofs.Ytbmeeglehbaggaa
open Go.RowKit







set_option maxRecDepth 100000 in
set_option maxHeartbeats 2000000 in
theorem lastOf_any {M : Nat} (l : List Hea) (al : Option Addr) (cl : Nat) (f a n : Int) (w : World) (hL : Recs w.heap al 4 Hea.cells l) (hll : l.length ≤ 9223372036854775806) (hM : M = l.length) :
    Calls Try.prog 12 #[.slice al M cl, .int .i64 f, .agg #[.int .u32 a, .int .i64 n]] w (RetV w (.int .i64 (lastOf l f a n))) := by
  subst hM
  have HL := Lib.hid hL
  clear hL
  go_enter Try.func12, Try.ntmps12
  go_wp2
  go_loopw [8, 7] (fun s8 s7 wr => ∃ (k : Nat) (v : Int), k ≤ l.length ∧ s8 = .int .i64 k ∧ s7 = .int .i64 v ∧ Blk wr.heap w.heap.size 26 [.int .u32 a, .int .i64 n] ∧ Fr (fun _ => False) w wr ∧ Hid (v = lastOf (l.take k) f a n)) (fun s _ _ => l.length - (intOf s).toNat)
  case atStart => exact ⟨0, 16, by omega, rfl, rfl, Blk.made _ _ _, (Fr.refl _ _).alloc _, Lib.hid rfl⟩
  case round =>
    obtain ⟨k, v, hk, rfl, rfl, hB, hF, hv⟩ := hrel
    have b0 := hB.cell 0
    have b1 := hB.cell 1
    simp only [List.getElem?_cons_succ, List.getElem?_cons_zero] at b0 b1
    have hbl := hB.lt
    by_cases hkl : k < l.length
    · obtain ⟨g, o, rfl, hg, hc⟩ := Recs.pos HL.out Hea.cells_len (by omega) (by omega)
      have dd := fun (j : Nat) (hj : j < 4) => (hF.cell (p := ⟨g, o + (k * 4 + j), none⟩) hg (fun h => h)).trans (hc w rfl k j hkl hj)
      have d0 := dd 0 (by omega)
      have d1 := dd 1 (by omega)
      have d2 := dd 2 (by omega)
      have d3 := dd 3 (by omega)
      have htk : lastOf (l.take (k + 1)) f a n = if (nth l k).f = f ∧ (nth l k).a = a ∧ (nth l k).n = n then (nth l k).m else lastOf (l.take k) f a n := by
        unfold lastOf
        rw [take_succ_nth l k hkl, lastO_snoc]
        split <;> rfl
      generalize nth l k = x at *
      obtain ⟨xf, xa, xn, xm⟩ := x
      simp only [Hea.cells, List.getElem?_cons_zero, List.getElem?_cons_succ, ← Nat.add_assoc, Nat.add_zero] at d0 d1 d2 d3
      simp only at htk
      clear dd hc
      by_cases hm : xf = f ∧ xa = a ∧ xn = n
      · rw [if_pos hm] at htk
        have HT := Lib.hid htk
        have e1 : (xf == f) = true := by simp [hm.1]
        have e2 : (xa == a) = true := by simp [hm.2.1]
        have e3 : (xn == n) = true := by simp [hm.2.2]
        clear htk hm
        go_wp2
        go_quiet (fail)
        go_wp2
        go_roundw
        case rel => exact ⟨k + 1, xm, by omega, by go_num, rfl, hB.fr (S := fun _ => False) ((Fr.refl _ _).drewN _) (fun h => h), hF.drewN _, Lib.hid (by rw [HT.out])⟩
        case measure => simp [intOf]; omega
      · rw [if_neg hm] at htk
        have HT := Lib.hid htk
        have q : (xf == f) = false ∨ ((xf == f) = true ∧ ((xa == a) = false ∨ ((xa == a) = true ∧ (xn == n) = false))) := by
          simp only [beq_eq_false_iff_ne, beq_iff_eq, ne_eq]
          omega
        clear htk hm
        rcases q with e1 | ⟨e1, e2 | ⟨e2, e3⟩⟩
        all_goals
          go_wp2
          go_quiet (fail)
          go_wp2
          go_roundw
          case rel => exact ⟨k + 1, v, by omega, by go_num, rfl, hB.fr (S := fun _ => False) ((Fr.refl _ _).drewN _) (fun h => h), hF.drewN _, Lib.hid (by rw [HT.out]; exact hv.out)⟩
          case measure => simp [intOf]; omega
    · obtain rfl : k = l.length := by omega
      have hv2 := Lib.hid (show v = lastOf l f a n by have := hv.out; rwa [List.take_length] at this)
      go_wp2
      go_ret
      exact RetV.mk (x := .int .i64 v) (by rw [hv2.out]) rfl hF
end Go.Proofs.Ytbmeeglehbaggaa
