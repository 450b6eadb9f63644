import Derived.Test.YtoenopfmlgapbaaRibLast
import Derived.Test.YtoenopfmlgapbaaNets
namespace Go.Proofs.Ytoenopfmlgapbaa
open Go.RowKit

theorem IsRib.new' (w : World) (base : Nat) (h : w.heap.size < base) : IsRib (w.alloc (.cells #[.int .i64 0, .slice none 0 0] 74)).heap base w.heap.size 0 [] :=
  ⟨none, 0, Blk.made w 74 [.int .i64 0, .slice none 0 0], Rd.nil _ _ _, (fun b off e => by cases e), h⟩
/-- Nothing that was there has turned. -/
theorem IsRib.fr0 {w w' : World} {base br : Nat} {now : Int} {l : List Td} (h : IsRib w.heap base br now l) (f : Fr (fun _ => False) w w') : IsRib w'.heap base br now l := h.fr f (fun _ h => h.elim)

def ageE (now0 : Int) (l : List Td) (now : Int) : Except Int (List Td) := if ckErr now0 0 now then .error 1 else .ok (rAged now l)
def loseE (now0 : Int) (l : List Td) (f now : Int) : Except Int (List Td) := if ckErr now0 f now then .error 1 else .ok (rLost f now l)
theorem age_E {base br : Nat} {now0 : Int} {l : List Td} (w : World) (hR : IsRib w.heap base br now0 l) (hb : RibOk now0 l) (hbase : base ≤ w.heap.size) (now : Int) :
    Calls Try.prog 18 #[.pointer (some ⟨br, 0, none⟩), .int .i64 now] w (RibPost w base br (ageE now0 l now) now) := age_any w hR hb hbase now
theorem lose_E {base br : Nat} {now0 : Int} {l : List Td} (w : World) (hR : IsRib w.heap base br now0 l) (hb : RibOk now0 l) (hbase : base ≤ w.heap.size) (f now : Int) :
    Calls Try.prog 19 #[.pointer (some ⟨br, 0, none⟩), .int .i64 f, .int .i64 now] w (RibPost w base br (loseE now0 l f now) now) := lose_any w hR hb hbase f now
set_option maxRecDepth 100000 in
set_option maxHeartbeats 1000000 in
theorem ten_any (w : World) : Calls Try.prog 45 #[] w (fun e w' => e = .returned (.agg #[.int .u32 167772160, .int .i64 8]) ∧ w' = w.alloc (.cells #[.int .u32 167772160, .int .i64 8] 24)) := by
  go_enter Try.func45, Try.ntmps45
  go_wp2
  exact bodyPost_ret (v := .agg #[.int .u32 167772160, .int .i64 8]) (by simp [results, Try.results45, go_sem]) rfl ⟨rfl, rfl⟩

theorem learn_ten : learnE 0 [] 1 167772160 8 5 3 = .ok [⟨1, 167772160, 8, 5, 3⟩] := by kernel_rfl

set_option maxRecDepth 100000 in
set_option maxHeartbeats 2000000 in
theorem learnt_any (w : World) : Calls Try.prog 17 #[] w (RetV w (.bool true)) := by
  have k1 := (IsRib.new w).fr0 ((Fr.refl (fun _ => False) _).alloc (.cells #[.int .u32 167772160, .int .i64 8] 24))
  go_enter Try.func17, Try.ntmps17
  go_wp2_with (first | (go_at_call 13; refine (ribNew_any _).mono ?_; rintro e w' ⟨rfl, rfl⟩) | (go_at_call 45; refine (ten_any _).mono ?_; rintro e w' ⟨rfl, rfl⟩))
  go_wp2_with (go_at_call 14; refine (learn_any _ k1 ribOk_nil (by simp) 1 167772160 8 5 3 (by decide)).mono ?_)
  intro e1 w1 R1
  obtain ⟨rfl, k2, hF1⟩ := R1.okE learn_ten
  have hs1 : w.heap.size + 2 ≤ w1.heap.size := by have := hF1.size; simpa using this
  go_wp2_with (go_at_call 15; refine (ribList_any _ k2 (by simp)).mono ?_)
  intro e2 w2 R2
  obtain ⟨a2, c2, ob2, rfl, hO2, hF2, hN2⟩ := R2
  have hFw : Fr (fun _ => False) w w2 := ((((Fr.refl _ w).alloc _).alloc _).trans' hF1 (fun q hq h => by omega)).trans hF2
  obtain ⟨g, rfl, rfl, hg, hc, -⟩ := hO2.pos (by simp)
  have q3 := hc 3 (by simp)
  simp only [List.flatMap_cons, List.flatMap_nil, List.append_nil, Td.hcells, List.getElem?_cons_zero, List.getElem?_cons_succ] at q3
  have k3 := k2.fr0 hF2
  clear hc hO2 hN2 k1 k2 hF1 hF2
  go_wp2_with (go_at_call 46; refine (ribNow_any _ k3).mono ?_; rintro e w' ⟨rfl, rfl⟩)
  go_ret
  exact RetV.mk rfl rfl hFw

/-- What was heard: of whom, of which net, how far. -/
structure Hd where
  f : Int
  a : Int
  n : Int
  m : Int
deriving Inhabited, DecidableEq
abbrev Hd.cells (x : Hd) : List Value := [.int .i64 x.f, .int .u32 x.a, .int .i64 x.n, .int .i64 x.m]
theorem Hd.cells_len (x : Hd) : (Hd.cells x).length = 4 := rfl
def Td.hd (x : Td) : Hd := ⟨x.f, x.a, x.n, x.m⟩
theorem hd_flat (l : List Td) : l.flatMap Td.hcells = (l.map Td.hd).flatMap Hd.cells := by
  induction l with
  | nil => rfl
  | cons x l ih => rw [List.flatMap_cons, List.map_cons, List.flatMap_cons, ih]; rfl
/-- What a rib tells, as a readable slice. -/
theorem rdHd {H : Array Obj} {a : Option Addr} {n c : Nat} {ob : Option Nat} {l : List Td} (h : Own H 34 4 a n c (l.flatMap Td.hcells) ob) (hn : n = l.length) : Recs H a 4 Hd.cells (l.map Td.hd) := by
  subst hn
  have := h.rd
  rw [hd_flat] at this
  unfold Recs
  rw [List.length_map]
  exact this

set_option maxRecDepth 100000 in
set_option maxHeartbeats 2000000 in
theorem sheard_any {n k : Nat} (l m : List Hd) (a b : Option Addr) (c d : Nat) (w : World) (ha : Recs w.heap a 4 Hd.cells l) (hb : Recs w.heap b 4 Hd.cells m) (hl : l.length ≤ 1000000) (hm : m.length ≤ 1000000) (hn : n = l.length) (hk : k = m.length) :
    Calls Try.prog 16 #[.slice a n c, .slice b k d] w (RetQ w (.bool (decide (l = m)))) := by
  subst hn
  subst hk
  go_enter Try.func16, Try.ntmps16
  by_cases hlen : l.length = m.length
  · have hne : ((l.length : Int) != (m.length : Int)) = false := by simp [hlen]
    have HL : Hid (l.length = m.length) := Lib.hid hlen
    clear hlen
    go_wp2
    go_loopw [5] (fun i wr => ∃ k n : Nat, k ≤ l.length ∧ i = .int .i64 k ∧ wr = w.drewN n ∧ Hid (l.take k = m.take k)) (fun i _ => l.length - (intOf i).toNat)
    case atStart => exact ⟨0, 0, by omega, rfl, rfl, rfl⟩
    case round =>
      obtain ⟨k, n, hk, rfl, rfl, hE⟩ := hrel
      by_cases hlt : k < l.length
      · have hlm : k < m.length := by have := HL.out; omega
        obtain ⟨g1, o1, rfl, q1, c1⟩ := Recs.pos ha Hd.cells_len (by omega) (by omega)
        obtain ⟨g2, o2, rfl, q2, c2⟩ := Recs.pos hb Hd.cells_len (by omega) (by omega)
        have d0 := c1 w rfl k 0 hlt (by omega)
        have d1 := c1 w rfl k 1 hlt (by omega)
        have d2 := c1 w rfl k 2 hlt (by omega)
        have d3 := c1 w rfl k 3 hlt (by omega)
        have f0 := c2 w rfl k 0 hlm (by omega)
        have f1 := c2 w rfl k 1 hlm (by omega)
        have f2 := c2 w rfl k 2 hlm (by omega)
        have f3 := c2 w rfl k 3 hlm (by omega)
        obtain ⟨x, hx⟩ : ∃ x, x = nth l k := ⟨_, rfl⟩
        obtain ⟨y, hy⟩ : ∃ y, y = nth m k := ⟨_, rfl⟩
        rw [← hx] at d0 d1 d2 d3
        rw [← hy] at f0 f1 f2 f3
        obtain ⟨xf, xa, xn, xm⟩ := x
        obtain ⟨yf, ya, yn, ym⟩ := y
        simp only [Hd.cells, List.getElem?_cons_zero, List.getElem?_cons_succ, ← Nat.add_assoc, Nat.add_zero] at d0 d1 d2 d3 f0 f1 f2 f3
        have HX := Lib.hid hx
        have HY := Lib.hid hy
        clear c1 c2 hx hy
        by_cases he : xf = yf ∧ xa = ya ∧ xn = yn ∧ xm = ym
        · have e0 : (xf == yf) = true := by simp [he.1]
          have e1 : (xa == ya) = true := by simp [he.2.1]
          have e2 : (xn == yn) = true := by simp [he.2.2.1]
          have e3 : (xm == ym) = true := by simp [he.2.2.2]
          have hE' : Hid (l.take (k + 1) = m.take (k + 1)) := (by rw [take_succ_nth l k hlt, take_succ_nth m k hlm, hE.out, ← HX.out, ← HY.out, he.1, he.2.1, he.2.2.1, he.2.2.2] : l.take (k + 1) = m.take (k + 1))
          clear he
          go_wp2
          go_quiet (fail)
          go_wp2
          go_roundw
          case rel => exact ⟨k + 1, n + nq, by omega, by go_num, by simp, hE'⟩
          case measure => simp [intOf]; omega
        · have hX : Hid (decide (l = m) = false) := (by
            apply decide_eq_false
            intro h
            have hh := HX.out.trans ((congrArg (fun q => nth q k) h).trans HY.out.symm)
            simp only [Hd.mk.injEq] at hh
            exact he hh : decide (l = m) = false)
          have q : (xf == yf) = false ∨ ((xf == yf) = true ∧ (xa == ya) = false) ∨ ((xf == yf) = true ∧ (xa == ya) = true ∧ (xn == yn) = false) ∨ ((xf == yf) = true ∧ (xa == ya) = true ∧ (xn == yn) = true ∧ (xm == ym) = false) := by
            simp only [beq_eq_false_iff_ne, beq_iff_eq, ne_eq]
            omega
          clear he
          rcases q with e0 | ⟨e0, e1⟩ | ⟨e0, e1, e2⟩ | ⟨e0, e1, e2, e3⟩
          all_goals
            go_wp2
            go_quiet (fail)
            go_wp2
            go_ret
            exact RetQ.mk (show Value.bool false = _ from (by rw [hX.out])) rfl (n + nq) (by simp)
      · obtain rfl : k = l.length := by omega
        have hX : Hid (decide (l = m) = true) := (by
          apply decide_eq_true
          have h := hE.out
          rw [List.take_length, HL.out, List.take_length] at h
          exact h : decide (l = m) = true)
        go_wp2
        go_ret
        exact RetQ.mk (show Value.bool true = _ from (by rw [hX.out])) rfl (n) (rfl)
  · have hne : ((l.length : Int) != (m.length : Int)) = true := by simp; omega
    have hX : Hid (decide (l = m) = false) := (by
      apply decide_eq_false
      intro h
      exact hlen (by rw [h]) : decide (l = m) = false)
    clear hlen
    go_wp2
    go_ret
    exact RetQ.mk (show Value.bool false = _ from (by rw [hX.out])) rfl (0) (rfl)
end Go.Proofs.Ytoenopfmlgapbaa
