import Derived.Test.YtakkljdeencfbaaDoorSpfMath
import Derived.Test.YtakkljdeencfbaaDoorGraph
namespace Go.Proofs.YtakkljdeencfbaaDoor
open Go.RowKit

theorem infoPl : (Tryd.prog.info? 74).map (fun i => (i.zero, i.size, i.bytes)) = some (some (.agg #[.int .i64 0, .int .i64 0]), 2, 16) := by kernel_rfl
abbrev plCells (l : List Pl) : List Value := l.flatMap Pl.cells
theorem pl_one (x : Pl) : ∀ u ∈ Pl.cells x, u.oneCell' = true := by simp [Value.oneCell']

/-- What the heap's interface value answers. -/
theorem ahLen (p : Addr) (w : World) : (nilAhead 267 72 (.pointer (some p)) "Len").run Tryd.prog w = .ok (some false) w := by kernel_rfl
theorem ahLess (p : Addr) (w : World) : (nilAhead 267 72 (.pointer (some p)) "Less").run Tryd.prog w = .ok (some false) w := by kernel_rfl
theorem ahSwap (p : Addr) (w : World) : (nilAhead 267 72 (.pointer (some p)) "Swap").run Tryd.prog w = .ok (some false) w := by kernel_rfl
theorem ahPush (p : Addr) (w : World) : (nilAhead 267 72 (.pointer (some p)) "Push").run Tryd.prog w = .ok (some false) w := by kernel_rfl
theorem ahPop (p : Addr) (w : World) : (nilAhead 267 72 (.pointer (some p)) "Pop").run Tryd.prog w = .ok (some false) w := by kernel_rfl
theorem mePush (p : Addr) (w : World) : (method 267 72 (.pointer (some p)) "Push").run Tryd.prog w = .ok (84, .pointer (some p)) w := by kernel_rfl
theorem mePop (p : Addr) (w : World) : (method 267 72 (.pointer (some p)) "Pop").run Tryd.prog w = .ok (83, .pointer (some p)) w := by kernel_rfl
theorem meLen0 (p : Addr) (w : World) : (method 267 72 (.pointer (some p)) "Len").run Tryd.prog w = (do let v ← loadVar 76 p; pure (38, v)).run Tryd.prog w := by kernel_rfl
theorem meLess0 (p : Addr) (w : World) : (method 267 72 (.pointer (some p)) "Less").run Tryd.prog w = (do let v ← loadVar 76 p; pure (82, v)).run Tryd.prog w := by kernel_rfl
theorem meSwap0 (p : Addr) (w : World) : (method 267 72 (.pointer (some p)) "Swap").run Tryd.prog w = (do let v ← loadVar 76 p; pure (85, v)).run Tryd.prog w := by kernel_rfl
theorem meLen {p : Addr} {w : World} {v : Value} (h : w.cell? p = some v) : (method 267 72 (.pointer (some p)) "Len").run Tryd.prog w = .ok (38, v) w := by
  rw [meLen0]; simp [loadVar, isAgg, underlying, Tryd.underlying76, h, Result.andThen]
theorem meLess {p : Addr} {w : World} {v : Value} (h : w.cell? p = some v) : (method 267 72 (.pointer (some p)) "Less").run Tryd.prog w = .ok (82, v) w := by
  rw [meLess0]; simp [loadVar, isAgg, underlying, Tryd.underlying76, h, Result.andThen]
theorem meSwap {p : Addr} {w : World} {v : Value} (h : w.cell? p = some v) : (method 267 72 (.pointer (some p)) "Swap").run Tryd.prog w = .ok (85, v) w := by
  rw [meSwap0]; simp [loadVar, isAgg, underlying, Tryd.underlying76, h, Result.andThen]

/-- The heap in its box, in memory from B on. -/
structure HeapIs (H : Array Obj) (B : Nat → Prop) (p n : Nat) (l : List Pl) (a : Option Addr) (c : Nat) (ob : Option Nat) : Prop where
  len : l.length = n
  box : Blk H p 76 [.slice a n c]
  own : Own H 74 2 a n c (plCells l) ob
  bp : B p
  bo : ∀ g, ob = some g → B g ∧ g ≠ p
def HeapAt (H : Array Obj) (B : Nat → Prop) (p n : Nat) (l : List Pl) : Prop := ∃ a c ob, HeapIs H B p n l a c ob
theorem HeapIs.fr {S : Nat → Prop} {w w' : World} {B : Nat → Prop} {p n : Nat} {l : List Pl} {a : Option Addr} {c : Nat} {ob : Option Nat} (h : HeapIs w.heap B p n l a c ob) (f : Fr S w w') (hs : ∀ k, B k → ¬ S k) : HeapIs w'.heap B p n l a c ob :=
  ⟨h.len, h.box.fr f (hs _ h.bp), h.own.fr f (fun g hg => hs _ (h.bo g hg).1), h.bp, h.bo⟩
theorem HeapIs.cell {w : World} {B : Nat → Prop} {p n : Nat} {l : List Pl} {a : Option Addr} {c : Nat} {ob : Option Nat} (h : HeapIs w.heap B p n l a c ob) : w.cell? ⟨p, 0, none⟩ = some (.slice a n c) := by rw [h.box.cell 0]; rfl

/-- One of two; nothing has turned. -/
def RetB (w : World) (e : Ending) (w' : World) : Prop := ∃ b : Bool, e = .returned (.bool b) ∧ ∃ n, w' = w.drewN n

theorem hlen_any (a : Option Addr) (n c : Nat) (w : World) : Calls Tryd.prog 38 #[.slice a n c] w (fun e w' => e = .returned (.int .i64 n) ∧ w = w') := by
  go_enter Tryd.func38, Tryd.ntmps38
  go_wp2
  go_ret
  exact ⟨rfl, rfl⟩

set_option maxRecDepth 100000 in
theorem hless_any {l : List Pl} (a : Option Addr) (c : Nat) (w : World) (hL : Recs w.heap a 2 Pl.cells l) (hl : l.length ≤ 100000) (i k : Nat) (hi : i < l.length) (hk : k < l.length) :
    Calls Tryd.prog 82 #[.slice a l.length c, .int .i64 i, .int .i64 k] w (RetB w) := by
  obtain ⟨b, off, rfl, hb, hc⟩ := Recs.pos hL Pl.cells_len (by omega) (by omega)
  have c0 := hc w rfl i 0 hi (by omega)
  have c1 := hc w rfl k 0 hk (by omega)
  clear hc hL
  generalize nth l i = x at *
  generalize nth l k = y at *
  simp only [Pl.cells, List.getElem?_cons_zero, Nat.add_zero] at c0 c1
  generalize hn : l.length = n at *
  clear hn
  go_enter Tryd.func82, Tryd.ntmps82
  go_wp2
  (refine wp_region_mix (fun _ => True) 10 (by kernel_rfl) (by kernel_rfl) (trivial) ?_; simp only [List.take_succ_cons, List.take_zero, List.drop_succ_cons, List.drop_zero])
  (refine wpMix_earlyN 10 (by kernel_rfl) (by kernel_rfl) ?_; simp only [List.take_succ_cons, List.take_zero, List.drop_succ_cons, List.drop_zero]; (repeat (go_big_quiet_step (fail))); refine wpQuiet_nil ?_)
  go_wp2
  refine wpMix_nil ?_
  go_wp2
  go_ret
  exact ⟨_, rfl, ⟨1, rfl⟩⟩

theorem pl_set (l : List Pl) (i : Nat) (x : Pl) (h : i < l.length) : ((plCells l).set (i * 2) (.int .i64 x.f)).set (i * 2 + 1) (.int .i64 x.v) = plCells (l.set i x) := by
  induction l generalizing i with
  | nil => simp at h
  | cons y l ih =>
    cases i with
    | zero => simp [plCells]
    | succ i =>
      have := ih i (by simpa using h)
      simp only [plCells, List.flatMap_cons, List.set_cons_succ] at this ⊢
      rw [← this, show (i + 1) * 2 = i * 2 + 1 + 1 by omega]
      simp
def swapL (l : List Pl) (i k : Nat) : List Pl := (l.set i (nth l k)).set k (nth l i)
theorem swapL_len (l : List Pl) (i k : Nat) : (swapL l i k).length = l.length := by simp [swapL]

set_option maxRecDepth 100000 in
set_option maxHeartbeats 1000000 in
theorem hswap_any {l : List Pl} {n : Nat} (a : Option Addr) (c : Nat) (ob : Option Nat) (w : World) (hO : Own w.heap 74 2 a n c (plCells l) ob) (hn : l.length = n) (hl : n ≤ 100000) (i k : Nat) (hi : i < n) (hk : k < n) :
    Calls Tryd.prog 85 #[.slice a n c, .int .i64 i, .int .i64 k] w (fun e w' => e = .returned (.tuple #[]) ∧ Own w'.heap 74 2 a n c (plCells (swapL l i k)) ob ∧ Fr (fun g => ob = some g) w w') := by
  obtain ⟨g, rfl, rfl, hg, hc, hf⟩ := hO.pos (by omega)
  have g0 := fun (i : Nat) (hi : i < l.length) (j : Nat) (hj : j < 2) => (hc (i * 2 + j) (by omega)).trans (flat_get Pl.cells 2 Pl.cells_len l i j hi hj)
  have c0 := g0 i (by omega) 0 (by omega)
  have c1 := g0 i (by omega) 1 (by omega)
  have c2 := g0 k (by omega) 0 (by omega)
  have c3 := g0 k (by omega) 1 (by omega)
  have f0 := hf (i * 2)
  have f1 := hf (i * 2 + 1)
  have f2 := hf (k * 2)
  have f3 := hf (k * 2 + 1)
  have s1 := hO.set rfl (i * 2) (.int .i64 (nth l k).f)
  have s2 := s1.set rfl (i * 2 + 1) (.int .i64 (nth l k).v)
  have s3 := s2.set rfl (k * 2) (.int .i64 (nth l i).f)
  have s4 := s3.set rfl (k * 2 + 1) (.int .i64 (nth l i).v)
  rw [pl_set l i _ (by omega), pl_set _ k _ (by simp; omega)] at s4
  have S4 := Lib.hid (show Own _ _ _ _ _ _ (plCells (swapL l i k)) _ from s4)
  clear s1 s2 s3 s4 hc hf g0 hO
  generalize nth l i = x at *
  generalize nth l k = y at *
  obtain ⟨xf, xv⟩ := x
  obtain ⟨yf, yv⟩ := y
  simp only [Pl.cells, List.getElem?_cons_zero, List.getElem?_cons_succ, Nat.add_zero] at c0 c1 c2 c3
  clear hn
  go_enter Tryd.func85, Tryd.ntmps85
  go_wp2
  (refine wp_region_mix (fun _ => True) 14 (by kernel_rfl) (by kernel_rfl) (trivial) ?_; simp only [List.take_succ_cons, List.take_zero, List.drop_succ_cons, List.drop_zero])
  (refine wpMix_earlyN 2 (by kernel_rfl) (by kernel_rfl) ?_; simp only [List.take_succ_cons, List.take_zero, List.drop_succ_cons, List.drop_zero]; (repeat (go_big_quiet_step (fail))); refine wpQuiet_nil ?_)
  (refine wpMix_lateN 2 (trivial) (by kernel_rfl) ?_; simp only [List.take_succ_cons, List.take_zero, List.drop_succ_cons, List.drop_zero]; (repeat (go_big_quiet_step (fail))); refine wpQuiet_nil ?_)
  (refine wpMix_earlyN 9 (by kernel_rfl) (by kernel_rfl) ?_; simp only [List.take_succ_cons, List.take_zero, List.drop_succ_cons, List.drop_zero]; (repeat (go_big_quiet_step (fail))); refine wpQuiet_nil ?_)
  obtain ⟨v0, e0⟩ := cell?_setCell_some (w := w.setCell ⟨g, i * 2, Option.none⟩ (.int .i64 yf)) (p := ⟨g, i * 2 + 1, Option.none⟩) (x := .int .i64 yv) (q := ⟨g, k * 2, Option.none⟩) (cell?_setCell_some (w := w) (p := ⟨g, i * 2, Option.none⟩) (x := .int .i64 yf) (q := ⟨g, k * 2, Option.none⟩) c2).choose_spec
  obtain ⟨v1, e1⟩ := cell?_setCell_some (w := w.setCell ⟨g, i * 2, Option.none⟩ (.int .i64 yf)) (p := ⟨g, i * 2 + 1, Option.none⟩) (x := .int .i64 yv) (q := ⟨g, k * 2 + 1, Option.none⟩) (cell?_setCell_some (w := w) (p := ⟨g, i * 2, Option.none⟩) (x := .int .i64 yf) (q := ⟨g, k * 2 + 1, Option.none⟩) c3).choose_spec
  refine wpMix_eff (by kernel_rfl) ?_
  go_wp2
  refine wpMix_nil ?_
  go_wp2
  go_end0
  refine ⟨rfl, S4.out, Fr.drew ?_⟩
  exact ((((Fr.refl (fun k => some g = some k) w).setCell (fun _ => rfl) _).setCell (fun _ => rfl) _).setCell (fun _ => rfl) _).setCell (fun _ => rfl) _

theorem perm_swap (l : List Pl) (i k : Nat) (hi : i < l.length) (hk : k < l.length) : (swapL l i k).Perm l := by
  unfold swapL
  rw [nth_eq l i hi, nth_eq l k hk]
  exact List.set_set_perm hi hk

/-- 'Push'. -/
def PostHeap (w : World) (B : Nat → Prop) (p n : Nat) (v : Value) (l : List Pl) (e : Ending) (w' : World) : Prop := e = .returned v ∧ HeapAt w'.heap B p n l ∧ Fr B w w'
set_option maxRecDepth 100000 in
set_option maxHeartbeats 1000000 in
theorem hpush_any {l : List Pl} {B : Nat → Prop} {p n : Nat} (w : World) (hH : HeapAt w.heap B p n l) (hB : ∀ k, w.heap.size ≤ k → B k) (hl : n ≤ 100000) (x : Pl) :
    Calls Tryd.prog 84 #[.pointer (some ⟨p, 0, none⟩), .iface 74 (.agg #[.int .i64 x.f, .int .i64 x.v])] w (PostHeap w B p (n + 1) (.tuple #[]) (l ++ [x])) := by
  obtain ⟨a, c, ob, hln, hbx, hO, hp, hob⟩ := hH
  obtain ⟨xf, xv⟩ := x
  have hlt := hbx.lt
  have q0 : ∀ c' : Cls (fun k => k ≠ p) w, c'.wo.cell? ⟨p, 0, none⟩ = some (.slice a n c) := fun c' => by
    rw [c'.fr.cell hlt (fun h => h rfl), hbx.cell 0]; rfl
  have q1 : w.cell? ⟨p, 0, none⟩ = some (.slice a n c) := by rw [hbx.cell 0]; rfl
  have tA : ∀ w : World, (Instr.typeAssert (.iface 74 (.agg #[.int .i64 xf, .int .i64 xv])) 20 74 false).run Tryd.prog w = .ok (.agg #[.int .i64 xf, .int .i64 xv]) w := fun _ => by kernel_rfl
  have HLN := Lib.hid hln
  clear hln
  go_enter Tryd.func84, Tryd.ntmps84
  go_wp2
  (refine wp_region_mix (fun w' => ∃ c : Cls (fun k => k ≠ p) w, w' = c.wo) 8 (by kernel_rfl) (by kernel_rfl) (⟨⟨_, (Fr.refl _ _).drew⟩, rfl⟩) ?_; simp only [List.take_succ_cons, List.take_zero, List.drop_succ_cons, List.drop_zero])
  (refine wpMix_lateN 4 (⟨⟨_, (Fr.refl _ _).drew⟩, rfl⟩) (by kernel_rfl) ?_; simp only [List.take_succ_cons, List.take_zero, List.drop_succ_cons, List.drop_zero]; (repeat (go_big_quiet_step (fail))); refine wpQuiet_nil ?_)
  (refine wpMix_earlyN 2 (by kernel_rfl) (by kernel_rfl) ?_; simp only [List.take_succ_cons, List.take_zero, List.drop_succ_cons, List.drop_zero]; (repeat (go_big_quiet_step (fail))); refine wpQuiet_nil ?_)
  refine wpMix_eff (by kernel_rfl) ?_
  go_wp2
  refine ⟨⟨⟨_, ((Fr.refl _ _).alloc _).drew⟩, rfl⟩, ?_⟩
  refine wpMix_eff (by kernel_rfl) ?_
  have hrd := (Own.made w 74 2 1 [.int .i64 xf, .int .i64 xv] rfl (by decide)).rd
  go_wp2_with (at_builtin; refine wpList_app rfl _ _ 76 rfl Tryd.underlying76 infoPl rfl (by decide) rfl rfl (hO.alloc _) hrd (by simp [Value.oneCell']) (by omega) (by omega) ?_)
  intro a' c' w6 ob' z1 z2 z3
  have hF6 : Fr (fun k => ob = some k) w w6 := (((Fr.refl _ w).alloc _).drew).trans z2
  have hobp : ob ≠ some p := fun h => (hob p h).2 rfl
  have hb6 := hbx.fr hF6 hobp
  have b0 := hb6.cell 0
  have b1 := hb6.frozen 0
  have hN6 : ∀ g, ob' = some g → B g ∧ g ≠ p := fun g hg => by
    rcases z3 with z3 | ⟨g', z3, z4⟩
    · exact hob g (by rw [← z3, hg])
    · rw [z3] at hg; cases hg; exact ⟨hB _ (by omega), by omega⟩
  have e6 : plCells l ++ [.int .i64 xf, .int .i64 xv] = plCells (l ++ [⟨xf, xv⟩]) := by simp [plCells]
  have hHI : HeapIs (w6.setCell ⟨p, 0, none⟩ (.slice a' (n + 1) c')).heap B p (n + 1) (l ++ [⟨xf, xv⟩]) a' c' ob' := by
    refine ⟨by simp [HLN.out], hb6.set 0 _, ?_, hp, hN6⟩
    rw [← e6]
    exact z1.other (p := ⟨p, 0, none⟩) (fun h => (hN6 p h).2 rfl) _
  have HH := Lib.hid hHI
  have hF7 : Fr B w (w6.setCell ⟨p, 0, none⟩ (.slice a' (n + 1) c')) := ((hF6.mono (fun i _ h => (hob i h).1)).setCell (fun _ => hp) _)
  have hF8 : Fr (fun k => k ≠ p) w w6 := hF6.mono (fun i _ h => (hob i h).2)
  have hl6 := hb6.lt
  simp only [List.getElem?_cons_zero] at b0
  clear z1 z2 z3 hHI e6 hb6 hO hrd hob
  go_wp2
  refine ⟨⟨⟨_, hF8⟩, rfl⟩, ?_⟩
  refine wpMix_nil ?_
  go_wp2
  go_end0
  exact ⟨rfl, ⟨a', c', ob', HH.out⟩, hF7⟩

theorem own_cut {H : Array Obj} {E : TypeId} {sz : Nat} {a : Option Addr} {n cap : Nat} {xs : List Value} {ob : Option Nat} (h : Own H E sz a n cap xs ob) {m : Nat} (hm : m ≤ n) : Own H E sz a m cap (xs.take (m * sz)) ob := by
  have h1 : m * sz ≤ n * sz := Nat.mul_le_mul_right _ hm
  refine ⟨by rw [List.length_take, h.len]; omega, ?_⟩
  rcases h.is with ⟨r1, r2, r3, r4⟩ | ⟨g, cur, r0, r1, r2, r3, r4, r5, r6⟩
  · exact .inl ⟨r1, by omega, r3, r4⟩
  · refine .inr ⟨g, cur, r0, r1, r2, by omega, r4, r5, ?_⟩
    rw [← r6, List.take_take, Nat.min_eq_left h1]

set_option maxRecDepth 100000 in
set_option maxHeartbeats 1000000 in
theorem hpop_any {l : List Pl} {B : Nat → Prop} {p n : Nat} (w : World) (x : Pl) (hH : HeapAt w.heap B p (n + 1) (l ++ [x])) (hl : n ≤ 100000) :
    Calls Tryd.prog 83 #[.pointer (some ⟨p, 0, none⟩)] w (PostHeap w B p n (.iface 74 (.agg #[.int .i64 x.f, .int .i64 x.v])) l) := by
  obtain ⟨a, c, ob, hln, hbx, hO, hp, hob⟩ := hH
  have hln' : l.length = n := by simpa using hln
  have hlt := hbx.lt
  have b0 := hbx.cell 0
  have b1 := hbx.frozen 0
  simp only [List.getElem?_cons_zero] at b0
  have hcap := hO.cap
  obtain ⟨g, rfl, rfl, hg, hc, -⟩ := hO.pos (by omega)
  have g0 := fun (j : Nat) (hj : j < 2) => (hc (n * 2 + j) (by omega)).trans (flat_get Pl.cells 2 Pl.cells_len (l ++ [x]) n j (by omega) hj)
  have hn : nth (l ++ [x]) n = x := by rw [nth_append_right _ _ _ (by omega), hln', Nat.sub_self]; rfl
  rw [hn] at g0
  have c0 := g0 0 (by omega)
  have c1 := g0 1 (by omega)
  have hcut := own_cut hO (Nat.le_succ n)
  have hfl : (plCells (l ++ [x])).take (n * 2) = plCells l := by
    simp only [plCells, List.flatMap_append]
    rw [List.take_append_of_le_length (by rw [flat_len _ 2 Pl.cells_len]; omega), List.take_of_length_le (by rw [flat_len _ 2 Pl.cells_len]; omega)]
  rw [hfl] at hcut
  clear hc g0 hn hfl
  obtain ⟨xf, xv⟩ := x
  simp only [Pl.cells, List.getElem?_cons_zero, List.getElem?_cons_succ, Nat.add_zero] at c0 c1
  have hI : HeapIs (w.setCell ⟨p, 0, none⟩ (.slice (some ⟨g, 0, none⟩) n c)).heap B p n l (some ⟨g, 0, none⟩) c (some g) :=
    ⟨hln', hbx.set 0 _, hcut.other (p := ⟨p, 0, none⟩) (fun h => (hob p h).2 rfl) _, hp, hob⟩
  have HI := Lib.hid hI
  clear hO hbx hob hln' hln hcut hI
  go_enter Tryd.func83, Tryd.ntmps83
  go_wp2
  go_ret
  exact ⟨rfl, ⟨_, _, _, HI.out.fr (S := fun _ => False) ((Fr.refl _ _).alloc _) (fun _ _ h => h)⟩, ((Fr.refl _ w).setCell (fun _ => hp) _).alloc _⟩
end Go.Proofs.YtakkljdeencfbaaDoor
