import Derived.Test.YtfjempfffdeklaaDoorNets
namespace Go
/-- What was heard: of whom, of which net, how far. -/
structure Hea where
  f : Int
  a : Int
  n : Int
  m : Int
deriving Inhabited, DecidableEq
abbrev Hea.cells (x : Hea) : List Value := [.int .i64 x.f, .int .u32 x.a, .int .i64 x.n, .int .i64 x.m]
theorem Hea.cells_len (x : Hea) : (Hea.cells x).length = 4 := rfl
end Go
namespace Go.Proofs.YtfjempfffdeklaaDoor
open Go.RowKit
set_option maxRecDepth 100000 in
set_option maxHeartbeats 2000000 in
theorem sheard_any {n k : Nat} (l m : List Hea) (a b : Option Addr) (c d : Nat) (w : World) (ha : Recs w.heap a 4 Hea.cells l) (hb : Recs w.heap b 4 Hea.cells m) (hl : l.length ≤ 1000000) (hm : m.length ≤ 1000000) (hn : n = l.length) (hk : k = m.length) :
    Calls Tryd.prog 49 #[.slice a n c, .slice b k d] w (RetQ w (.bool (decide (l = m)))) := by
  subst hn
  subst hk
  go_enter Tryd.func49, Tryd.ntmps49
  by_cases hlen : l.length = m.length
  · have hne : ((l.length : Int) != (m.length : Int)) = false := by simp [hlen]
    have HL : Hid (l.length = m.length) := Lib.hid hlen
    clear hlen
    go_wp2
    go_loopw [5] (fun i wr => ∃ k n : Nat, k ≤ l.length ∧ i = .int .i64 k ∧ wr = w.drewN n ∧ Hid (l.take k = m.take k)) (fun i _ => l.length - (intOf i).toNat)
    case atStart => exact ⟨0, 0, by omega, rfl, rfl, rfl⟩
    case round =>
      obtain ⟨k, n, hk, rfl, rfl, hE⟩ := hrel
      by_cases hlt : k < l.length
      · have hlm : k < m.length := by have := HL.out; omega
        obtain ⟨g1, o1, rfl, q1, c1⟩ := Recs.pos ha Hea.cells_len (by omega) (by omega)
        obtain ⟨g2, o2, rfl, q2, c2⟩ := Recs.pos hb Hea.cells_len (by omega) (by omega)
        have d0 := c1 w rfl k 0 hlt (by omega)
        have d1 := c1 w rfl k 1 hlt (by omega)
        have d2 := c1 w rfl k 2 hlt (by omega)
        have d3 := c1 w rfl k 3 hlt (by omega)
        have f0 := c2 w rfl k 0 hlm (by omega)
        have f1 := c2 w rfl k 1 hlm (by omega)
        have f2 := c2 w rfl k 2 hlm (by omega)
        have f3 := c2 w rfl k 3 hlm (by omega)
        obtain ⟨x, hx⟩ : ∃ x, x = nth l k := ⟨_, rfl⟩
        obtain ⟨y, hy⟩ : ∃ y, y = nth m k := ⟨_, rfl⟩
        rw [← hx] at d0 d1 d2 d3
        rw [← hy] at f0 f1 f2 f3
        obtain ⟨xf, xa, xn, xm⟩ := x
        obtain ⟨yf, ya, yn, ym⟩ := y
        simp only [Hea.cells, List.getElem?_cons_zero, List.getElem?_cons_succ, ← Nat.add_assoc, Nat.add_zero] at d0 d1 d2 d3 f0 f1 f2 f3
        have HX := Lib.hid hx
        have HY := Lib.hid hy
        clear c1 c2 hx hy
        by_cases he : xf = yf ∧ xa = ya ∧ xn = yn ∧ xm = ym
        · have e0 : (xf == yf) = true := by simp [he.1]
          have e1 : (xa == ya) = true := by simp [he.2.1]
          have e2 : (xn == yn) = true := by simp [he.2.2.1]
          have e3 : (xm == ym) = true := by simp [he.2.2.2]
          have hE' : Hid (l.take (k + 1) = m.take (k + 1)) := (by rw [take_succ_nth l k hlt, take_succ_nth m k hlm, hE.out, ← HX.out, ← HY.out, he.1, he.2.1, he.2.2.1, he.2.2.2] : l.take (k + 1) = m.take (k + 1))
          clear he
          go_wp2
          go_quiet (fail)
          go_wp2
          go_roundw
          case rel => exact ⟨k + 1, n + nq, by omega, by go_num, by simp, hE'⟩
          case measure => simp [intOf]; omega
        · have hX : Hid (decide (l = m) = false) := (by
            apply decide_eq_false
            intro h
            have hh := HX.out.trans ((congrArg (fun q => nth q k) h).trans HY.out.symm)
            simp only [Hea.mk.injEq] at hh
            exact he hh : decide (l = m) = false)
          have q : (xf == yf) = false ∨ ((xf == yf) = true ∧ (xa == ya) = false) ∨ ((xf == yf) = true ∧ (xa == ya) = true ∧ (xn == yn) = false) ∨ ((xf == yf) = true ∧ (xa == ya) = true ∧ (xn == yn) = true ∧ (xm == ym) = false) := by
            simp only [beq_eq_false_iff_ne, beq_iff_eq, ne_eq]
            omega
          clear he
          rcases q with e0 | ⟨e0, e1⟩ | ⟨e0, e1, e2⟩ | ⟨e0, e1, e2, e3⟩
          all_goals
            go_wp2
            go_quiet (fail)
            go_wp2
            go_ret
            exact RetQ.mk (show Value.bool false = _ from (by rw [hX.out])) rfl (n + nq) (by simp)
      · obtain rfl : k = l.length := by omega
        have hX : Hid (decide (l = m) = true) := (by
          apply decide_eq_true
          have h := hE.out
          rw [List.take_length, HL.out, List.take_length] at h
          exact h : decide (l = m) = true)
        go_wp2
        go_ret
        exact RetQ.mk (show Value.bool true = _ from (by rw [hX.out])) rfl (n) (rfl)
  · have hne : ((l.length : Int) != (m.length : Int)) = true := by simp; omega
    have hX : Hid (decide (l = m) = false) := (by
      apply decide_eq_false
      intro h
      exact hlen (by rw [h]) : decide (l = m) = false)
    clear hlen
    go_wp2
    go_ret
    exact RetQ.mk (show Value.bool false = _ from (by rw [hX.out])) rfl (0) (rfl)
end Go.Proofs.YtfjempfffdeklaaDoor
