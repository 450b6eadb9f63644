import Derived.Test.YtakkljdeencfbaaGOk
import Derived.Test.YtakkljdeencfbaaGraph
namespace Go.Proofs.Ytakkljdeencfbaa
open Go.RowKit

set_option maxRecDepth 100000 in
set_option maxHeartbeats 2000000 in
theorem gfault_any (n : Int) (l : List Lk) (a : Option Addr) (c : Nat) (w : World) (hL : Links w.heap a l) (hg : graphErr n l = none) :
    Calls Try.prog 15 #[.int .i64 n, .slice a l.length c] w (RetV w (.int .i64 0)) := by
  obtain ⟨hn, hok, hll⟩ := graph_ok hg
  have hd : (l.map fun x => (Lk.lo x, Lk.hi x)).Nodup := by
    unfold graphErr at hg
    split at hg
    · cases hg
    · exact (lk_nodup _ [] hg).1
  have hno : ∀ i k, i < l.length → k < i → ¬ (((nth l k).a = (nth l i).a ∧ (nth l k).b = (nth l i).b) ∨ ((nth l k).a = (nth l i).b ∧ (nth l k).b = (nth l i).a)) := fun i k hi hk h => by
    have h1 := List.pairwise_iff_getElem.1 hd k i (by simp; omega) (by simpa using hi) hk
    simp only [List.getElem_map] at h1
    rw [← nth_eq l k (by omega), ← nth_eq l i hi] at h1
    apply h1
    simp only [Lk.lo, Lk.hi, Prod.mk.injEq]
    rcases h with ⟨e1, e2⟩ | ⟨e1, e2⟩ <;> rw [e1, e2] <;> constructor <;> split <;> (try split) <;> omega
  have HNO := Lib.hid hno
  have HOK := Lib.hid hok
  have e1 : decide (n < 1) = false := by simp; omega
  have e2 : decide (n > 8) = false := by simp; omega
  clear hno hok hd hg
  go_enter Try.func15, Try.ntmps15
  go_wp2
  go_loopw [5] (fun s5 wr => ∃ k : Nat, s5 = .int .i64 k ∧ k ≤ l.length ∧ Fr (fun _ => False) w wr) (fun s _ => l.length - (intOf s).toNat)
  case atStart => exact ⟨0, rfl, by omega, Fr.refl _ _⟩
  case round =>
    obtain ⟨k, rfl, hk, hF⟩ := hrel
    by_cases hkl : k < l.length
    · obtain ⟨g, off, rfl, hbb, hc⟩ := Recs.pos hL Lk.cells_len (by omega) (by omega)
      have dd := fun (k : Nat) (hk : k < l.length) (j : Nat) (hj : j < 3) => (hF.cell (p := ⟨g, off + (k * 3 + j), none⟩) hbb (fun h => h)).trans (hc w rfl k j hk hj)
      have d0 := dd k hkl 0 (by omega)
      have d1 := dd k hkl 1 (by omega)
      have d2 := dd k hkl 2 (by omega)
      have DD := Lib.hid dd
      have hx := HOK.out _ (nth_mem l k hkl)
      have hb := hx.1
      have hab := hx.2
      unfold Lk.bad at hb
      have HN := Lib.hid (fun j hj => HNO.out k j hkl hj)
      have hgr : g < wr.heap.size := Nat.lt_of_lt_of_le hbb hF.size
      clear hc hx dd
      generalize nth l k = x at *
      obtain ⟨xa, xb, xc⟩ := x
      simp only [Lk.cells, List.getElem?_cons_zero, List.getElem?_cons_succ, ← Nat.add_assoc, Nat.add_zero] at d0 d1 d2 hb hab
      have g1 : decide (xa < 0) = false := by simp; omega
      have g2 : decide (xa ≥ n) = false := by simp; omega
      have g3 : decide (xb < 0) = false := by simp; omega
      have g4 : decide (xb ≥ n) = false := by simp; omega
      have g5 : decide (xc < 1) = false := by simp; omega
      have g6 : decide (xc > 15) = false := by simp; omega
      have g7 : (xa == xb) = false := by simpa using hab
      clear hb hab
      have hB := Blk.made wr 29 [.int .i64 xa, .int .i64 xb, .int .i64 xc]
      have hFa := (Fr.refl (fun _ => False) wr).alloc (.cells #[.int .i64 xa, .int .i64 xb, .int .i64 xc] 29)
      have DD2 := Lib.hid (fun j (hj : j < l.length) i (hi : i < 3) => (hFa.cell (p := ⟨g, off + (j * 3 + i), none⟩) hgr (fun h => h)).trans (DD.out j hj i hi))
      have hFb := hF.trans hFa
      have hgne : g ≠ wr.heap.size := by omega
      have hbl := hB.lt
      generalize hbx : wr.heap.size = bx at hB hgne hbl
      clear hFa
      go_wp2
      try rw [hbx]
      generalize wr.alloc (.cells #[.int .i64 xa, .int .i64 xb, .int .i64 xc] 29) = wy at *
      clear hF
      go_loopw [7] (fun s7 wx => ∃ j m : Nat, s7 = .int .i64 j ∧ j ≤ k ∧ wx = wy.drewN m) (fun s _ => k - (intOf s).toNat)
      case atStart => exact ⟨0, 0, rfl, by omega, rfl⟩
      case round =>
        obtain ⟨j, m, rfl, hj, rfl⟩ := hrel
        by_cases hjk : j < k
        · have f0 := DD2.out j (by omega) 0 (by omega)
          have f1 := DD2.out j (by omega) 1 (by omega)
          have hn2 := HN.out j hjk
          have z0 := hB.cell 0
          have z1 := hB.cell 1
          generalize nth l j = y at *
          obtain ⟨ya, yb, yc⟩ := y
          simp only [Lk.cells, List.getElem?_cons_zero, List.getElem?_cons_succ, ← Nat.add_assoc, Nat.add_zero] at f0 f1 hn2 z0 z1
          have q : ((ya == xa) = true ∧ (yb == xb) = false ∧ (ya == xb) = true ∧ (yb == xa) = false) ∨ ((ya == xa) = true ∧ (yb == xb) = false ∧ (ya == xb) = false) ∨ ((ya == xa) = false ∧ (ya == xb) = true ∧ (yb == xa) = false) ∨ ((ya == xa) = false ∧ (ya == xb) = false) := by
            simp only [beq_eq_false_iff_ne, beq_iff_eq, ne_eq]
            omega
          clear hn2
          rcases q with ⟨q1, q2, q3, q4⟩ | ⟨q1, q2, q3⟩ | ⟨q1, q2, q3⟩ | ⟨q1, q2⟩
          all_goals
            go_wp2
            go_quiet (fail)
            go_wp2
            go_roundw
            case rel => exact ⟨j + 1, m + nq, by go_num, by omega, by simp⟩
            case measure => simp [intOf]; omega
        · obtain rfl : j = k := by omega
          go_wp2
          go_roundw
          case rel => exact ⟨j + 1, by go_num, by omega, hFb.drewN m⟩
          case measure => simp [intOf]; omega
    · obtain rfl : k = l.length := by omega
      go_wp2
      go_ret
      exact RetV.mk rfl rfl hF
end Go.Proofs.Ytakkljdeencfbaa
