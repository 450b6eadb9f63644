import Derived.Test.YtfjempfffdeklaaDoorSame
namespace Go.Proofs.YtfjempfffdeklaaDoor
open Go.RowKit

theorem RetQ.quiet {w w' : World} {n : Nat} {v : Value} {e : Ending} (h : RetQ (w.drewN n) v e w') : e = .returned v ∧ ∃ m, w' = w.drewN m := by
  obtain ⟨h1, m, rfl⟩ := h
  exact ⟨h1, n + m, by simp⟩

set_option maxRecDepth 100000 in
set_option maxHeartbeats 1000000 in
theorem srows_any (l m : List (List Int)) (a b : Option Addr) (c d : Nat) (A B : Nat → Option Addr) (CA CB : Nat → Nat) (w : World) (ha : Mat w.heap a l A CA) (hb : Mat w.heap b m B CB) (hl : l.length ≤ 9223372036854775807) (hm : m.length ≤ 9223372036854775807) :
    Calls Tryd.prog 68 #[.slice a l.length c, .slice b m.length d] w (RetQ w (.bool (decide (l = m)))) := by
  go_enter Tryd.func68, Tryd.ntmps68
  by_cases hlen : l.length = m.length
  · have hne : ((l.length : Int) != (m.length : Int)) = false := by simp [hlen]
    have HL : Hid (l.length = m.length) := Lib.hid hlen
    clear hlen
    go_wp2
    go_loopw [5] (fun i wr => ∃ k n : Nat, k ≤ l.length ∧ i = .int .i64 k ∧ wr = w.drewN n ∧ Hid (l.take k = m.take k)) (fun i _ => l.length - (intOf i).toNat)
    case atStart => exact ⟨0, 0, by omega, rfl, rfl, rfl⟩
    case round =>
      obtain ⟨k, n, hk, rfl, hw, hE⟩ := hrel
      have ha' : Mat wr.heap a l A CA := by rw [hw]; exact ha
      have hb' : Mat wr.heap b m B CB := by rw [hw]; exact hb
      have hW := Lib.hid hw
      clear hw
      by_cases hlt : k < l.length
      · have hlm : k < m.length := by have := HL.out; omega
        obtain ⟨g1, o1, rfl, q1, c1⟩ := ha'.pos (by omega)
        obtain ⟨g2, o2, rfl, q2, c2⟩ := hb'.pos (by omega)
        have d1 := c1 wr rfl k hlt
        have d2 := c2 wr rfl k hlm
        have r1 := ha'.row k hlt
        have r2 := hb'.row k hlm
        have l1 := ha.lens k hlt
        have l2 := hb.lens k hlm
        clear c1 c2
        by_cases he : nth l k = nth m k
        · have hb2 := Lib.hid (show decide (nth l k = nth m k) = true by simp [he])
          have hE' : Hid (l.take (k + 1) = m.take (k + 1)) := (by rw [take_succ_nth l k hlt, take_succ_nth m k hlm, hE.out, he] : l.take (k + 1) = m.take (k + 1))
          clear he
          have hC : ∀ n, Calls Tryd.prog 39 #[.slice (A k) (nth l k).length (CA k), .slice (B k) (nth m k).length (CB k)] (wr.drewN n) fun e w'' => e = .returned (.bool true) ∧ ∃ n, w'' = wr.drewN n := fun n =>
            (ints_any (nth l k) (nth m k) _ _ _ _ (wr.drewN n) r1 r2 l1 l2).mono (fun e w' h => by rw [hb2.out] at h; exact RetQ.quiet h)
          go_wp2
          go_quiet (first | (go_at_call 39; exact hC _))
          go_wp2
          go_roundw
          case rel => exact ⟨k + 1, n + nq, by omega, by go_num, by rw [hW.out]; simp, hE'⟩
          case measure => simp [intOf]; omega
        · have hb2 := Lib.hid (show decide (nth l k = nth m k) = false by simp [he])
          have hX : Hid (decide (l = m) = false) := (by
            apply decide_eq_false
            intro h
            exact he (by rw [h]) : decide (l = m) = false)
          clear he
          have hC : ∀ n, Calls Tryd.prog 39 #[.slice (A k) (nth l k).length (CA k), .slice (B k) (nth m k).length (CB k)] (wr.drewN n) fun e w'' => e = .returned (.bool false) ∧ ∃ n, w'' = wr.drewN n := fun n =>
            (ints_any (nth l k) (nth m k) _ _ _ _ (wr.drewN n) r1 r2 l1 l2).mono (fun e w' h => by rw [hb2.out] at h; exact RetQ.quiet h)
          go_wp2
          go_quiet (first | (go_at_call 39; exact hC _))
          go_wp2
          go_ret
          exact RetQ.mk (show Value.bool false = _ from (by rw [hX.out])) rfl (n + nq) (by rw [hW.out]; simp)
      · obtain rfl : k = l.length := by omega
        have hX : Hid (decide (l = m) = true) := (by
          apply decide_eq_true
          have h := hE.out
          rw [List.take_length, HL.out, List.take_length] at h
          exact h : decide (l = m) = true)
        go_wp2
        go_ret
        exact RetQ.mk (show Value.bool true = _ from (by rw [hX.out])) rfl (n) (hW.out)
  · have hne : ((l.length : Int) != (m.length : Int)) = true := by simp; omega
    have hX : Hid (decide (l = m) = false) := (by
      apply decide_eq_false
      intro h
      exact hlen (by rw [h]) : decide (l = m) = false)
    clear hlen
    go_wp2
    go_ret
    exact RetQ.mk (show Value.bool false = _ from (by rw [hX.out])) rfl (0) (rfl)
theorem srows_eq (l : List (List Int)) (a b : Option Addr) (c d : Nat) (A B : Nat → Option Addr) (CA CB : Nat → Nat) (w : World) (ha : Mat w.heap a l A CA) (hb : Mat w.heap b l B CB) (hl : l.length ≤ 9223372036854775807) :
    Calls Tryd.prog 68 #[.slice a l.length c, .slice b l.length d] w (RetQ w (.bool true)) := by
  have := srows_any l l a b c d A B CA CB w ha hb hl hl
  rwa [decide_eq_true rfl] at this
end Go.Proofs.YtfjempfffdeklaaDoor
