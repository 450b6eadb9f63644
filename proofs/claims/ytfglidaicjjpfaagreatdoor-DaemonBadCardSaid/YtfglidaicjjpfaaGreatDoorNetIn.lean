import Derived.Test.YtfglidaicjjpfaaGreatDoorNets
import Derived.Deep.QuietTactic
import Derived.BigQuiet
namespace Go.Proofs.YtfglidaicjjpfaaGreatDoor
open Go.RowKit
/-- slices.Index at nets: from below 0 (nowhere) on. -/
def IndexPost (w : World) (l : List Nt) (x : Nt) (e : Ending) (w' : World) : Prop := ∃ p : Int, e = .returned (.int .i64 p) ∧ Fr (fun _ => False) w w' ∧ decide (0 ≤ p) = decide (x ∈ l)
set_option maxRecDepth 100000 in
set_option maxHeartbeats 2000000 in
theorem netIndex_any {n : Nat} (l : List Nt) (x : Nt) (a : Option Addr) (c : Nat) (w : World) (ha : Recs w.heap a 2 Nt.cells l) (hl : l.length ≤ 9223372036854775806) (hn : n = l.length) :
    Calls Tryz.prog 63 #[.slice a n c, .agg #[.int .u32 x.a, .int .i64 x.n]] w (IndexPost w l x) := by
  subst hn
  obtain ⟨xa, xn⟩ := x
  have HA := Lib.hid ha
  clear ha
  have k0 := Blk.made w 52 [.int .u32 xa, .int .i64 xn]
  go_enter Tryz.func63, Tryz.ntmps63
  go_wp2
  go_loopw [8] (fun s8 wr => ∃ k : Nat, k ≤ l.length ∧ s8 = .int .i64 k ∧ Blk wr.heap w.heap.size 52 [.int .u32 xa, .int .i64 xn] ∧ Fr (fun _ => False) w wr ∧ Hid (∀ j, j < k → nth l j ≠ ⟨xa, xn⟩)) (fun s _ => l.length - (intOf s).toNat)
  case atStart => exact ⟨0, by omega, rfl, k0, (Fr.refl _ _).alloc _, Lib.hid (fun j hj => absurd hj (Nat.not_lt_zero _))⟩
  case round =>
    clear k0
    obtain ⟨k, hk, rfl, hB, hF, hE⟩ := hrel
    have b0 := hB.cell 0
    have b1 := hB.cell 1
    have hbl := hB.lt
    simp only [List.getElem?_cons_succ, List.getElem?_cons_zero] at b0 b1
    by_cases hlt : k < l.length
    · obtain ⟨g1, o1, rfl, q1, c1⟩ := Recs.pos HA.out Nt.cells_len (by omega) (by omega)
      have d0 := (hF.cell (p := ⟨g1, o1 + (k * 2 + 0), none⟩) q1 (fun h => h)).trans (c1 w rfl k 0 hlt (by omega))
      have d1 := (hF.cell (p := ⟨g1, o1 + (k * 2 + 1), none⟩) q1 (fun h => h)).trans (c1 w rfl k 1 hlt (by omega))
      obtain ⟨y, hy⟩ : ∃ y, y = nth l k := ⟨_, rfl⟩
      rw [← hy] at d0 d1
      obtain ⟨ya, yn⟩ := y
      simp only [Nt.cells, List.getElem?_cons_zero, List.getElem?_cons_succ, ← Nat.add_assoc, Nat.add_zero] at d0 d1
      have HY := Lib.hid hy
      clear c1 hy
      by_cases he : xa = ya ∧ xn = yn
      · have hX := Lib.hid (show decide ((0 : Int) ≤ (k : Int)) = decide ((⟨xa, xn⟩ : Nt) ∈ l) by
          rw [decide_eq_true (by omega), decide_eq_true]
          rw [he.1, he.2, HY.out]; exact nth_mem l k hlt)
        have e0 : (xa == ya) = true := by simp [he.1]
        have e1 : (xn == yn) = true := by simp [he.2]
        clear he
        go_wp2
        go_quiet (fail)
        go_wp2
        go_ret
        exact ⟨k, rfl, hF.drewN _, hX.out⟩
      · have hE2 := Lib.hid (show ∀ j, j < k + 1 → nth l j ≠ ⟨xa, xn⟩ from fun j hj => by
          rcases Nat.lt_succ_iff_lt_or_eq.1 hj with h | h
          · exact hE.out j h
          · subst h; rw [← HY.out]; intro e; cases e; exact he ⟨rfl, rfl⟩)
        have q : (xa == ya) = false ∨ ((xa == ya) = true ∧ (xn == yn) = false) := by
          simp only [beq_eq_false_iff_ne, beq_iff_eq, ne_eq]
          omega
        clear he
        rcases q with e0 | ⟨e0, e1⟩
        all_goals
          go_wp2
          go_quiet (fail)
          go_wp2
          go_roundw
          case rel => exact ⟨k + 1, by omega, by go_num, hB.fr (S := fun _ => False) ((Fr.refl _ _).drewN _) (fun h => h), hF.drewN _, hE2⟩
          case measure => simp [intOf]; omega
    · obtain rfl : k = l.length := by omega
      have hX := Lib.hid (show decide ((0 : Int) ≤ -1) = decide ((⟨xa, xn⟩ : Nt) ∈ l) by
        rw [decide_eq_false (by omega), decide_eq_false]
        intro hm
        obtain ⟨j, hj, e⟩ := List.getElem_of_mem hm
        exact hE.out j hj (by rw [nth_eq l j hj]; exact e))
      go_wp2
      go_ret
      exact ⟨-1, rfl, hF, hX.out⟩
set_option maxRecDepth 100000 in
set_option maxHeartbeats 1000000 in
theorem netIn_any {n : Nat} (l : List Nt) (x : Nt) (a : Option Addr) (c : Nat) (w : World) (ha : Recs w.heap a 2 Nt.cells l) (hl : l.length ≤ 9223372036854775806) (hn : n = l.length) :
    Calls Tryz.prog 32 #[.slice a n c, .agg #[.int .u32 x.a, .int .i64 x.n]] w (RetV w (.bool (decide (x ∈ l)))) := by
  obtain ⟨xa, xn⟩ := x
  subst hn
  simp only
  go_enter Tryz.func32, Tryz.ntmps32
  go_wp2_with (fail)
  refine (netIndex_any l ⟨xa, xn⟩ a c _ (ha.fr (S := fun _ => False) ((Fr.refl _ _).alloc _) (fun _ _ _ h => h)) hl rfl).mono ?_
  rintro e1 w1 ⟨p, rfl, hF1, hp⟩
  have HP := Lib.hid hp
  have hF := ((Fr.refl (fun _ => False) w).alloc (.cells #[.int .u32 xa, .int .i64 xn] 52)).trans hF1
  clear hp hF1
  go_wp2
  go_ret
  exact RetV.mk (x := .bool (decide (0 ≤ p))) (by rw [HP.out]) rfl hF
end Go.Proofs.YtfglidaicjjpfaaGreatDoor
