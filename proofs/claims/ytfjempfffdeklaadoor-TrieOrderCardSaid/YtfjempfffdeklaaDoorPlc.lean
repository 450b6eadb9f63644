import Derived.Test.YtfjempfffdeklaaDoorNetSame
namespace Go.Proofs.YtfjempfffdeklaaDoor
open Go.RowKit

/-! Where a net is in a list, exactly. -/
def IsPlc (l : List Nt) (x : Nt) (p : Int) : Prop := (p = -1 ∧ x ∉ l) ∨ ∃ k : Nat, k < l.length ∧ p = k ∧ nth l k = x ∧ ∀ j, j < k → nth l j ≠ x
theorem IsPlc.one {l : List Nt} {x : Nt} {p q : Int} (h : IsPlc l x p) (g : IsPlc l x q) : p = q := by
  rcases h with ⟨rfl, h⟩ | ⟨k, h1, rfl, h2, h3⟩ <;> rcases g with ⟨rfl, g⟩ | ⟨j, g1, rfl, g2, g3⟩
  · rfl
  · exact absurd (g2 ▸ nth_mem l j g1) h
  · exact absurd (h2 ▸ nth_mem l k h1) g
  · rcases Nat.lt_trichotomy k j with e | e | e
    · exact absurd h2 (g3 k e)
    · rw [e]
    · exact absurd g2 (h3 j e)
def PlcPost (w : World) (l : List Nt) (x : Nt) (e : Ending) (w' : World) : Prop := ∃ p : Int, e = .returned (.int .i64 p) ∧ Fr (fun _ => False) w w' ∧ IsPlc l x p
set_option maxRecDepth 100000 in
set_option maxHeartbeats 2000000 in
theorem plc_any {n : Nat} (l : List Nt) (xa xn : Int) (a : Option Addr) (c : Nat) (w : World) (ha : Recs w.heap a 2 Nt.cells l) (hl : l.length ≤ 1000000) (hn : n = l.length) :
    Calls Tryd.prog 55 #[.slice a n c, .agg #[.int .u32 xa, .int .i64 xn]] w (PlcPost w l ⟨xa, xn⟩) := by
  subst hn
  go_enter Tryd.func55, Tryd.ntmps55
  go_wp2
  go_loopw [5] (fun i wr => ∃ k n : Nat, k ≤ l.length ∧ i = .int .i64 k ∧ wr = (w.alloc (.cells #[.int .u32 xa, .int .i64 xn] 37)).drewN n ∧ Hid (∀ j, j < k → nth l j ≠ ⟨xa, xn⟩)) (fun i _ => l.length - (intOf i).toNat)
  case atStart => exact ⟨0, 0, by omega, rfl, rfl, Lib.hid (fun j hj => absurd hj (Nat.not_lt_zero _))⟩
  case round =>
    obtain ⟨k, n, hk, rfl, rfl, hE⟩ := hrel
    by_cases hlt : k < l.length
    · obtain ⟨g1, o1, rfl, q1, c1⟩ := Recs.pos ha Nt.cells_len (by omega) (by omega)
      have d0 := c1 w rfl k 0 hlt (by omega)
      have d1 := c1 w rfl k 1 hlt (by omega)
      obtain ⟨y, hy⟩ : ∃ y, y = nth l k := ⟨_, rfl⟩
      rw [← hy] at d0 d1
      obtain ⟨ya, yn⟩ := y
      simp only [Nt.cells, List.getElem?_cons_zero, List.getElem?_cons_succ, ← Nat.add_assoc, Nat.add_zero] at d0 d1
      have HY := Lib.hid hy
      clear c1 hy
      by_cases he : ya = xa ∧ yn = xn
      · have e1 : (ya == xa) = true := by simp [he.1]
        have e2 : (yn == xn) = true := by simp [he.2]
        have hX := Lib.hid (show nth l k = (⟨xa, xn⟩ : Nt) by rw [← he.1, ← he.2]; exact HY.out.symm)
        clear he
        go_wp2
        go_quiet (fail)
        go_wp2
        go_ret
        exact ⟨k, rfl, (((Fr.refl _ w).alloc _).drewN n).drewN nq, .inr ⟨k, hlt, rfl, hX.out, hE.out⟩⟩
      · have q : (ya == xa) = false ∨ ((ya == xa) = true ∧ (yn == xn) = false) := by
          simp only [beq_eq_false_iff_ne, beq_iff_eq, ne_eq]
          omega
        have hE' := Lib.hid (show ∀ j, j < k + 1 → nth l j ≠ (⟨xa, xn⟩ : Nt) from fun j hj => by
          rcases Nat.lt_succ_iff_lt_or_eq.1 hj with h | h
          · exact hE.out j h
          · subst h; rw [← HY.out]; intro hh; simp only [Nt.mk.injEq] at hh; exact he hh)
        clear he
        rcases q with e1 | ⟨e1, e2⟩
        all_goals
          go_wp2
          go_quiet (fail)
          go_wp2
          go_roundw
          case rel => exact ⟨k + 1, n + nq, by omega, by go_num, by simp, hE'⟩
          case measure => simp [intOf]; omega
    · obtain rfl : k = l.length := by omega
      have hX := Lib.hid (show (⟨xa, xn⟩ : Nt) ∉ l from fun h => by
        obtain ⟨j, hj, hh⟩ := List.mem_iff_getElem.1 h
        exact hE.out j hj (by rw [nth_eq l j hj]; exact hh))
      go_wp2
      go_ret
      exact ⟨-1, rfl, ((Fr.refl _ w).alloc _).drewN n, .inl ⟨rfl, hX.out⟩⟩
end Go.Proofs.YtfjempfffdeklaaDoor
