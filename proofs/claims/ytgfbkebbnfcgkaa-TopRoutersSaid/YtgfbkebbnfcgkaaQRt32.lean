import Derived.Test.YtgfbkebbnfcgkaaQRt30
import Derived.Test.YtgfbkebbnfcgkaaQRt29
import Derived.IntWalk
import Derived.Deep.LoopGhost
section
namespace Go.Proofs.Ytgfbkebbnfcgkaa
open Go.RowKit

theorem infoPl : (Try.prog.info? 84).map (fun i => (i.zero, i.size, i.bytes)) = some (some (.agg #[.int .i64 0, .int .i64 0]), 2, 16) := by kernel_rfl
abbrev plCells (l : List Pl) : List Value := l.flatMap Pl.cells
theorem pl_one (x : Pl) : ∀ u ∈ Pl.cells x, u.oneCell' = true := by simp [Value.oneCell']

/-- What the heap's interface value answers. -/
theorem ahLen (p : Addr) (w : World) : (nilAhead 296 82 (.pointer (some p)) "Len").run Try.prog w = .ok (some false) w := by kernel_rfl
theorem ahLess (p : Addr) (w : World) : (nilAhead 296 82 (.pointer (some p)) "Less").run Try.prog w = .ok (some false) w := by kernel_rfl
theorem ahSwap (p : Addr) (w : World) : (nilAhead 296 82 (.pointer (some p)) "Swap").run Try.prog w = .ok (some false) w := by kernel_rfl
theorem ahPush (p : Addr) (w : World) : (nilAhead 296 82 (.pointer (some p)) "Push").run Try.prog w = .ok (some false) w := by kernel_rfl
theorem ahPop (p : Addr) (w : World) : (nilAhead 296 82 (.pointer (some p)) "Pop").run Try.prog w = .ok (some false) w := by kernel_rfl
theorem mePush (p : Addr) (w : World) : (method 296 82 (.pointer (some p)) "Push").run Try.prog w = .ok (110, .pointer (some p)) w := by kernel_rfl
theorem mePop (p : Addr) (w : World) : (method 296 82 (.pointer (some p)) "Pop").run Try.prog w = .ok (109, .pointer (some p)) w := by kernel_rfl
theorem meLen0 (p : Addr) (w : World) : (method 296 82 (.pointer (some p)) "Len").run Try.prog w = (do let v ← loadVar 86 p; pure (30, v)).run Try.prog w := by kernel_rfl
theorem meLess0 (p : Addr) (w : World) : (method 296 82 (.pointer (some p)) "Less").run Try.prog w = (do let v ← loadVar 86 p; pure (108, v)).run Try.prog w := by kernel_rfl
theorem meSwap0 (p : Addr) (w : World) : (method 296 82 (.pointer (some p)) "Swap").run Try.prog w = (do let v ← loadVar 86 p; pure (111, v)).run Try.prog w := by kernel_rfl
theorem meLen {p : Addr} {w : World} {v : Value} (h : w.cell? p = some v) : (method 296 82 (.pointer (some p)) "Len").run Try.prog w = .ok (30, v) w := by
  rw [meLen0]; simp [loadVar, isAgg, underlying, Try.underlying86, h, Result.andThen]
theorem meLess {p : Addr} {w : World} {v : Value} (h : w.cell? p = some v) : (method 296 82 (.pointer (some p)) "Less").run Try.prog w = .ok (108, v) w := by
  rw [meLess0]; simp [loadVar, isAgg, underlying, Try.underlying86, h, Result.andThen]
theorem meSwap {p : Addr} {w : World} {v : Value} (h : w.cell? p = some v) : (method 296 82 (.pointer (some p)) "Swap").run Try.prog w = .ok (111, v) w := by
  rw [meSwap0]; simp [loadVar, isAgg, underlying, Try.underlying86, h, Result.andThen]

/-- The heap in its box, in memory from B on. -/
structure HeapIs (H : Array Obj) (B : Nat → Prop) (p n : Nat) (l : List Pl) (a : Option Addr) (c : Nat) (ob : Option Nat) : Prop where
  len : l.length = n
  box : Blk H p 86 [.slice a n c]
  own : Ownd H 84 2 a n c (plCells l) ob
  bp : B p
  bo : ∀ g, ob = some g → B g ∧ g ≠ p
def HeapAt (H : Array Obj) (B : Nat → Prop) (p n : Nat) (l : List Pl) : Prop := ∃ a c ob, HeapIs H B p n l a c ob
theorem HeapIs.fr {S : Nat → Prop} {w w' : World} {B : Nat → Prop} {p n : Nat} {l : List Pl} {a : Option Addr} {c : Nat} {ob : Option Nat} (h : HeapIs w.heap B p n l a c ob) (f : Fr S w w') (hs : ∀ k, B k → ¬ S k) : HeapIs w'.heap B p n l a c ob :=
  ⟨h.len, h.box.fr f (hs _ h.bp), h.own.fr f (fun g hg => hs _ (h.bo g hg).1), h.bp, h.bo⟩
theorem HeapIs.cell {w : World} {B : Nat → Prop} {p n : Nat} {l : List Pl} {a : Option Addr} {c : Nat} {ob : Option Nat} (h : HeapIs w.heap B p n l a c ob) : w.cell? ⟨p, 0, none⟩ = some (.slice a n c) := by rw [h.box.cell 0]; rfl

/-- One of two; nothing has turned. -/
def RetB (w : World) (e : Ending) (w' : World) : Prop := ∃ b : Bool, e = .returned (.bool b) ∧ ∃ n, w' = w.drewN n

theorem hlen_any (a : Option Addr) (n c : Nat) (w : World) : Calls Try.prog 30 #[.slice a n c] w (fun e w' => e = .returned (.int .i64 n) ∧ w = w') := by
  go_enter Try.func30, Try.ntmps30
  go_wp2
  go_ret
  exact ⟨rfl, rfl⟩

set_option maxRecDepth 100000 in
theorem hless_any {l : List Pl} (a : Option Addr) (c : Nat) (w : World) (hL : Recs w.heap a 2 Pl.cells l) (hl : l.length ≤ 100000) (i k : Nat) (hi : i < l.length) (hk : k < l.length) :
    Calls Try.prog 108 #[.slice a l.length c, .int .i64 i, .int .i64 k] w (RetB w) := by
  obtain ⟨b, off, rfl, hb, hc⟩ := Recs.pos hL Pl.cells_len (by omega) (by omega)
  have c0 := hc w rfl i 0 hi (by omega)
  have c1 := hc w rfl k 0 hk (by omega)
  clear hc hL
  generalize nth l i = x at *
  generalize nth l k = y at *
  simp only [Pl.cells, List.getElem?_cons_zero, Nat.add_zero] at c0 c1
  generalize hn : l.length = n at *
  clear hn
  go_enter Try.func108, Try.ntmps108
  go_wp2
  (refine wp_region_mix (fun _ => True) 10 (by kernel_rfl) (by kernel_rfl) (trivial) ?_; simp only [List.take_succ_cons, List.take_zero, List.drop_succ_cons, List.drop_zero])
  (refine wpMix_earlyN 10 (by kernel_rfl) (by kernel_rfl) ?_; simp only [List.take_succ_cons, List.take_zero, List.drop_succ_cons, List.drop_zero]; (repeat (go_big_quiet_step (fail))); refine wpQuiet_nil ?_)
  go_wp2
  refine wpMix_nil ?_
  go_wp2
  go_ret
  exact ⟨_, rfl, ⟨1, rfl⟩⟩

theorem pl_set (l : List Pl) (i : Nat) (x : Pl) (h : i < l.length) : ((plCells l).set (i * 2) (.int .i64 x.f)).set (i * 2 + 1) (.int .i64 x.v) = plCells (l.set i x) := by
  induction l generalizing i with
  | nil => simp at h
  | cons y l ih =>
    cases i with
    | zero => simp [plCells]
    | succ i =>
      have := ih i (by simpa using h)
      simp only [plCells, List.flatMap_cons, List.set_cons_succ] at this ⊢
      rw [← this, show (i + 1) * 2 = i * 2 + 1 + 1 by omega]
      simp
def swapL (l : List Pl) (i k : Nat) : List Pl := (l.set i (nth l k)).set k (nth l i)
theorem swapL_len (l : List Pl) (i k : Nat) : (swapL l i k).length = l.length := by simp [swapL]

set_option maxRecDepth 100000 in
set_option maxHeartbeats 1000000 in
theorem hswap_any {l : List Pl} {n : Nat} (a : Option Addr) (c : Nat) (ob : Option Nat) (w : World) (hO : Ownd w.heap 84 2 a n c (plCells l) ob) (hn : l.length = n) (hl : n ≤ 100000) (i k : Nat) (hi : i < n) (hk : k < n) :
    Calls Try.prog 111 #[.slice a n c, .int .i64 i, .int .i64 k] w (fun e w' => e = .returned (.tuple #[]) ∧ Ownd w'.heap 84 2 a n c (plCells (swapL l i k)) ob ∧ Fr (fun g => ob = some g) w w') := by
  obtain ⟨g, rfl, rfl, hg, hc, hf⟩ := hO.pos (by omega)
  have g0 := fun (i : Nat) (hi : i < l.length) (j : Nat) (hj : j < 2) => (hc (i * 2 + j) (by omega)).trans (flat_get Pl.cells 2 Pl.cells_len l i j hi hj)
  have c0 := g0 i (by omega) 0 (by omega)
  have c1 := g0 i (by omega) 1 (by omega)
  have c2 := g0 k (by omega) 0 (by omega)
  have c3 := g0 k (by omega) 1 (by omega)
  have f0 := hf (i * 2)
  have f1 := hf (i * 2 + 1)
  have f2 := hf (k * 2)
  have f3 := hf (k * 2 + 1)
  have s1 := hO.set rfl (i * 2) (.int .i64 (nth l k).f)
  have s2 := s1.set rfl (i * 2 + 1) (.int .i64 (nth l k).v)
  have s3 := s2.set rfl (k * 2) (.int .i64 (nth l i).f)
  have s4 := s3.set rfl (k * 2 + 1) (.int .i64 (nth l i).v)
  rw [pl_set l i _ (by omega), pl_set _ k _ (by simp; omega)] at s4
  have S4 := Lib.hid (show Ownd _ _ _ _ _ _ (plCells (swapL l i k)) _ from s4)
  clear s1 s2 s3 s4 hc hf g0 hO
  generalize nth l i = x at *
  generalize nth l k = y at *
  obtain ⟨xf, xv⟩ := x
  obtain ⟨yf, yv⟩ := y
  simp only [Pl.cells, List.getElem?_cons_zero, List.getElem?_cons_succ, Nat.add_zero] at c0 c1 c2 c3
  clear hn
  go_enter Try.func111, Try.ntmps111
  go_wp2
  (refine wp_region_mix (fun _ => True) 14 (by kernel_rfl) (by kernel_rfl) (trivial) ?_; simp only [List.take_succ_cons, List.take_zero, List.drop_succ_cons, List.drop_zero])
  (refine wpMix_earlyN 2 (by kernel_rfl) (by kernel_rfl) ?_; simp only [List.take_succ_cons, List.take_zero, List.drop_succ_cons, List.drop_zero]; (repeat (go_big_quiet_step (fail))); refine wpQuiet_nil ?_)
  (refine wpMix_lateN 2 (trivial) (by kernel_rfl) ?_; simp only [List.take_succ_cons, List.take_zero, List.drop_succ_cons, List.drop_zero]; (repeat (go_big_quiet_step (fail))); refine wpQuiet_nil ?_)
  (refine wpMix_earlyN 9 (by kernel_rfl) (by kernel_rfl) ?_; simp only [List.take_succ_cons, List.take_zero, List.drop_succ_cons, List.drop_zero]; (repeat (go_big_quiet_step (fail))); refine wpQuiet_nil ?_)
  obtain ⟨v0, e0⟩ := cell?_setCell_some (w := w.setCell ⟨g, i * 2, Option.none⟩ (.int .i64 yf)) (p := ⟨g, i * 2 + 1, Option.none⟩) (x := .int .i64 yv) (q := ⟨g, k * 2, Option.none⟩) (cell?_setCell_some (w := w) (p := ⟨g, i * 2, Option.none⟩) (x := .int .i64 yf) (q := ⟨g, k * 2, Option.none⟩) c2).choose_spec
  obtain ⟨v1, e1⟩ := cell?_setCell_some (w := w.setCell ⟨g, i * 2, Option.none⟩ (.int .i64 yf)) (p := ⟨g, i * 2 + 1, Option.none⟩) (x := .int .i64 yv) (q := ⟨g, k * 2 + 1, Option.none⟩) (cell?_setCell_some (w := w) (p := ⟨g, i * 2, Option.none⟩) (x := .int .i64 yf) (q := ⟨g, k * 2 + 1, Option.none⟩) c3).choose_spec
  refine wpMix_eff (by kernel_rfl) ?_
  go_wp2
  refine wpMix_nil ?_
  go_wp2
  go_end0
  refine ⟨rfl, S4.out, Fr.drew ?_⟩
  exact ((((Fr.refl (fun k => some g = some k) w).setCell (fun _ => rfl) _).setCell (fun _ => rfl) _).setCell (fun _ => rfl) _).setCell (fun _ => rfl) _

theorem perm_swap (l : List Pl) (i k : Nat) (hi : i < l.length) (hk : k < l.length) : (swapL l i k).Perm l := by
  unfold swapL
  rw [nth_eq l i hi, nth_eq l k hk]
  exact List.set_set_perm hi hk

/-- 'Push'. -/
def PostHeap (w : World) (B : Nat → Prop) (p n : Nat) (v : Value) (l : List Pl) (e : Ending) (w' : World) : Prop := e = .returned v ∧ HeapAt w'.heap B p n l ∧ Fr B w w'
set_option maxRecDepth 100000 in
set_option maxHeartbeats 1000000 in
theorem hpush_any {l : List Pl} {B : Nat → Prop} {p n : Nat} (w : World) (hH : HeapAt w.heap B p n l) (hB : ∀ k, w.heap.size ≤ k → B k) (hl : n ≤ 100000) (x : Pl) :
    Calls Try.prog 110 #[.pointer (some ⟨p, 0, none⟩), .iface 84 (.agg #[.int .i64 x.f, .int .i64 x.v])] w (PostHeap w B p (n + 1) (.tuple #[]) (l ++ [x])) := by
  obtain ⟨a, c, ob, hln, hbx, hO, hp, hob⟩ := hH
  obtain ⟨xf, xv⟩ := x
  have hlt := hbx.lt
  have q0 : ∀ c' : Cls (fun k => k ≠ p) w, c'.wo.cell? ⟨p, 0, none⟩ = some (.slice a n c) := fun c' => by
    rw [c'.fr.cell hlt (fun h => h rfl), hbx.cell 0]; rfl
  have q1 : w.cell? ⟨p, 0, none⟩ = some (.slice a n c) := by rw [hbx.cell 0]; rfl
  have tA : ∀ w : World, (Instr.typeAssert (.iface 84 (.agg #[.int .i64 xf, .int .i64 xv])) 20 84 false).run Try.prog w = .ok (.agg #[.int .i64 xf, .int .i64 xv]) w := fun _ => by kernel_rfl
  have HLN := Lib.hid hln
  clear hln
  go_enter Try.func110, Try.ntmps110
  go_wp2
  (refine wp_region_mix (fun w' => ∃ c : Cls (fun k => k ≠ p) w, w' = c.wo) 8 (by kernel_rfl) (by kernel_rfl) (⟨⟨_, (Fr.refl _ _).drew⟩, rfl⟩) ?_; simp only [List.take_succ_cons, List.take_zero, List.drop_succ_cons, List.drop_zero])
  (refine wpMix_lateN 4 (⟨⟨_, (Fr.refl _ _).drew⟩, rfl⟩) (by kernel_rfl) ?_; simp only [List.take_succ_cons, List.take_zero, List.drop_succ_cons, List.drop_zero]; (repeat (go_big_quiet_step (fail))); refine wpQuiet_nil ?_)
  (refine wpMix_earlyN 2 (by kernel_rfl) (by kernel_rfl) ?_; simp only [List.take_succ_cons, List.take_zero, List.drop_succ_cons, List.drop_zero]; (repeat (go_big_quiet_step (fail))); refine wpQuiet_nil ?_)
  refine wpMix_eff (by kernel_rfl) ?_
  go_wp2
  refine ⟨⟨⟨_, ((Fr.refl _ _).alloc _).drew⟩, rfl⟩, ?_⟩
  refine wpMix_eff (by kernel_rfl) ?_
  have hrd := (Ownd.made w 84 2 1 [.int .i64 xf, .int .i64 xv] rfl (by decide)).rd
  go_wp2_with (at_builtin; refine wpList_app rfl _ _ 86 rfl Try.underlying86 infoPl rfl (by decide) rfl rfl (hO.alloc _) hrd (by simp [Value.oneCell']) (by omega) (by omega) ?_)
  intro a' c' w6 ob' z1 z2 z3
  have hF6 : Fr (fun k => ob = some k) w w6 := (((Fr.refl _ w).alloc _).drew).trans z2
  have hobp : ob ≠ some p := fun h => (hob p h).2 rfl
  have hb6 := hbx.fr hF6 hobp
  have b0 := hb6.cell 0
  have b1 := hb6.frozen 0
  have hN6 : ∀ g, ob' = some g → B g ∧ g ≠ p := fun g hg => by
    rcases z3 with z3 | ⟨g', z3, z4⟩
    · exact hob g (by rw [← z3, hg])
    · rw [z3] at hg; cases hg; exact ⟨hB _ (by omega), by omega⟩
  have e6 : plCells l ++ [.int .i64 xf, .int .i64 xv] = plCells (l ++ [⟨xf, xv⟩]) := by simp [plCells]
  have hHI : HeapIs (w6.setCell ⟨p, 0, none⟩ (.slice a' (n + 1) c')).heap B p (n + 1) (l ++ [⟨xf, xv⟩]) a' c' ob' := by
    refine ⟨by simp [HLN.out], hb6.set 0 _, ?_, hp, hN6⟩
    rw [← e6]
    exact z1.other (p := ⟨p, 0, none⟩) (fun h => (hN6 p h).2 rfl) _
  have HH := Lib.hid hHI
  have hF7 : Fr B w (w6.setCell ⟨p, 0, none⟩ (.slice a' (n + 1) c')) := ((hF6.mono (fun i _ h => (hob i h).1)).setCell (fun _ => hp) _)
  have hF8 : Fr (fun k => k ≠ p) w w6 := hF6.mono (fun i _ h => (hob i h).2)
  have hl6 := hb6.lt
  simp only [List.getElem?_cons_zero] at b0
  clear z1 z2 z3 hHI e6 hb6 hO hrd hob
  go_wp2
  refine ⟨⟨⟨_, hF8⟩, rfl⟩, ?_⟩
  refine wpMix_nil ?_
  go_wp2
  go_end0
  exact ⟨rfl, ⟨a', c', ob', HH.out⟩, hF7⟩

theorem own_cut {H : Array Obj} {E : TypeId} {sz : Nat} {a : Option Addr} {n cap : Nat} {xs : List Value} {ob : Option Nat} (h : Ownd H E sz a n cap xs ob) {m : Nat} (hm : m ≤ n) : Ownd H E sz a m cap (xs.take (m * sz)) ob := by
  have h1 : m * sz ≤ n * sz := Nat.mul_le_mul_right _ hm
  refine ⟨by rw [List.length_take, h.len]; omega, ?_⟩
  rcases h.is with ⟨r1, r2, r3, r4⟩ | ⟨g, cur, r0, r1, r2, r3, r4, r5, r6⟩
  · exact .inl ⟨r1, by omega, r3, r4⟩
  · refine .inr ⟨g, cur, r0, r1, r2, by omega, r4, r5, ?_⟩
    rw [← r6, List.take_take, Nat.min_eq_left h1]

set_option maxRecDepth 100000 in
set_option maxHeartbeats 1000000 in
theorem hpop_any {l : List Pl} {B : Nat → Prop} {p n : Nat} (w : World) (x : Pl) (hH : HeapAt w.heap B p (n + 1) (l ++ [x])) (hl : n ≤ 100000) :
    Calls Try.prog 109 #[.pointer (some ⟨p, 0, none⟩)] w (PostHeap w B p n (.iface 84 (.agg #[.int .i64 x.f, .int .i64 x.v])) l) := by
  obtain ⟨a, c, ob, hln, hbx, hO, hp, hob⟩ := hH
  have hln' : l.length = n := by simpa using hln
  have hlt := hbx.lt
  have b0 := hbx.cell 0
  have b1 := hbx.frozen 0
  simp only [List.getElem?_cons_zero] at b0
  have hcap := hO.cap
  obtain ⟨g, rfl, rfl, hg, hc, -⟩ := hO.pos (by omega)
  have g0 := fun (j : Nat) (hj : j < 2) => (hc (n * 2 + j) (by omega)).trans (flat_get Pl.cells 2 Pl.cells_len (l ++ [x]) n j (by omega) hj)
  have hn : nth (l ++ [x]) n = x := by rw [nth_append_right _ _ _ (by omega), hln', Nat.sub_self]; rfl
  rw [hn] at g0
  have c0 := g0 0 (by omega)
  have c1 := g0 1 (by omega)
  have hcut := own_cut hO (Nat.le_succ n)
  have hfl : (plCells (l ++ [x])).take (n * 2) = plCells l := by
    simp only [plCells, List.flatMap_append]
    rw [List.take_append_of_le_length (by rw [flat_len _ 2 Pl.cells_len]; omega), List.take_of_length_le (by rw [flat_len _ 2 Pl.cells_len]; omega)]
  rw [hfl] at hcut
  clear hc g0 hn hfl
  obtain ⟨xf, xv⟩ := x
  simp only [Pl.cells, List.getElem?_cons_zero, List.getElem?_cons_succ, Nat.add_zero] at c0 c1
  have hI : HeapIs (w.setCell ⟨p, 0, none⟩ (.slice (some ⟨g, 0, none⟩) n c)).heap B p n l (some ⟨g, 0, none⟩) c (some g) :=
    ⟨hln', hbx.set 0 _, hcut.other (p := ⟨p, 0, none⟩) (fun h => (hob p h).2 rfl) _, hp, hob⟩
  have HI := Lib.hid hI
  clear hO hbx hob hln' hln hcut hI
  go_enter Try.func109, Try.ntmps109
  go_wp2
  go_ret
  exact ⟨rfl, ⟨_, _, _, HI.out.fr (S := fun _ => False) ((Fr.refl _ _).alloc _) (fun _ _ h => h)⟩, ((Fr.refl _ w).setCell (fun _ => hp) _).alloc _⟩
end Go.Proofs.Ytgfbkebbnfcgkaa
end

section
namespace Go.Proofs.Ytgfbkebbnfcgkaa
open Go.RowKit

/-- One of two, by integers. -/
theorem less_at {l : List Pl} {B : Nat → Prop} {p n : Nat} {a : Option Addr} {c : Nat} {ob : Option Nat} (w : World) (hH : HeapIs w.heap B p n l a c ob) (hl : n ≤ 100000) (I K : Int) (hI : 0 ≤ I ∧ I < n) (hK : 0 ≤ K ∧ K < n) :
    Calls Try.prog 108 #[.slice a n c, .int .i64 I, .int .i64 K] w (RetB w) := by
  obtain ⟨i, rfl⟩ := Int.eq_ofNat_of_zero_le hI.1
  obtain ⟨k, rfl⟩ := Int.eq_ofNat_of_zero_le hK.1
  obtain rfl := hH.len
  exact hless_any a c w hH.own.rd hl i k (by omega) (by omega)
/-- Two change places. -/
def PostSwap (w : World) (B : Nat → Prop) (p n : Nat) (l : List Pl) (a : Option Addr) (c : Nat) (ob : Option Nat) (e : Ending) (w' : World) : Prop :=
  e = .returned (.tuple #[]) ∧ (∃ l' : List Pl, l'.Perm l ∧ HeapIs w'.heap B p n l' a c ob) ∧ Fr B w w'
theorem swap_at {l : List Pl} {B : Nat → Prop} {p n : Nat} {a : Option Addr} {c : Nat} {ob : Option Nat} (w : World) (hH : HeapIs w.heap B p n l a c ob) (hl : n ≤ 100000) (I K : Int) (hI : 0 ≤ I ∧ I < n) (hK : 0 ≤ K ∧ K < n) :
    Calls Try.prog 111 #[.slice a n c, .int .i64 I, .int .i64 K] w (PostSwap w B p n l a c ob) := by
  obtain ⟨i, rfl⟩ := Int.eq_ofNat_of_zero_le hI.1
  obtain ⟨k, rfl⟩ := Int.eq_ofNat_of_zero_le hK.1
  refine (hswap_any a c ob w hH.own hH.len hl i k (by omega) (by omega)).mono ?_
  rintro e w' ⟨rfl, hO, hF⟩
  have hbp : ob ≠ some p := fun h => (hH.bo p h).2 rfl
  exact ⟨rfl, ⟨_, perm_swap l i k (by rw [hH.len]; omega) (by rw [hH.len]; omega), ⟨by rw [swapL_len]; exact hH.len, hH.box.fr hF hbp, hO, hH.bp, hH.bo⟩⟩, hF.mono (fun i _ h => (hH.bo i h).1)⟩

/-- The heap, its places in another order. -/
def PostPerm (w : World) (B : Nat → Prop) (p n : Nat) (l : List Pl) (a : Option Addr) (c : Nat) (ob : Option Nat) (e : Ending) (w' : World) : Prop :=
  (∃ v, e = .returned v) ∧ (∃ l' : List Pl, l'.Perm l ∧ HeapIs w'.heap B p n l' a c ob) ∧ Fr B w w'

set_option maxRecDepth 100000 in
set_option maxHeartbeats 1000000 in
theorem up_any {l : List Pl} {B : Nat → Prop} {p n : Nat} {a : Option Addr} {c : Nat} {ob : Option Nat} (w : World) (hH : HeapIs w.heap B p n l a c ob) (hl : n ≤ 100000) (J : Int) (hJ : 0 ≤ J ∧ J < n) :
    Calls Try.prog 56 #[.iface 82 (.pointer (some ⟨p, 0, none⟩)), .int .i64 J] w (PostPerm w B p n l a c ob) := by
  have a1 := ahLess ⟨p, 0, none⟩
  have a2 := ahSwap ⟨p, 0, none⟩
  obtain ⟨j0, j1⟩ := hJ
  go_enter Try.func56, Try.ntmps56
  go_wp2
  go_loopw [1] (fun s1 wr => ∃ (j : Int) (l' : List Pl), s1 = .int .i64 j ∧ 0 ≤ j ∧ j < n ∧ Hid (l'.Perm l) ∧ HeapIs wr.heap B p n l' a c ob ∧ Fr B w wr) (fun s _ => (intOf s).toNat)
  case atStart => exact ⟨J, l, rfl, j0, j1, List.Perm.refl _, hH, Fr.refl _ _⟩
  case round =>
    clear hH j0 j1
    obtain ⟨j, l', rfl, j0, j1, hP, hH, hF⟩ := hrel
    have m1 := meLess hH.cell
    have m2 := fun k : Nat => meSwap (w := wr.drewN k) hH.cell
    by_cases h0 : j = 0
    · subst h0
      go_wp2
      go_end0
      exact ⟨⟨_, rfl⟩, ⟨l', hP.out, hH⟩, hF⟩
    · have k0 : 0 ≤ j - 1 := by omega
      have k1 : 1 ≤ j := by omega
      have k2 : ((j - 1) / 2 == j) = false := by simp; omega
      have k3 : ¬ (j - 1) / 2 = j := by omega
      clear h0
      go_wp2_with (go_at_call 108; refine (less_at _ hH hl j ((j - 1) / 2) ⟨j0, j1⟩ ⟨by omega, by omega⟩).mono ?_; rintro e1 w1 ⟨b, rfl, n1, rfl⟩)
      · go_end0
        exact ⟨⟨_, rfl⟩, ⟨l', hP.out, hH⟩, hF.drewN n1⟩
      · go_wp2_with (go_at_call 111; refine (swap_at _ (hH.fr ((Fr.refl (fun _ => False) wr).drewN n1) (fun _ _ h => h)) hl ((j - 1) / 2) j ⟨by omega, by omega⟩ ⟨j0, j1⟩).mono ?_; rintro e2 w2 ⟨rfl, ⟨l2, hP2, hH2⟩, hF2⟩)
        have HP := Lib.hid (hP2.trans hP.out)
        clear hP2
        go_wp2
        go_roundw
        case rel => exact ⟨(j - 1) / 2, l2, rfl, by omega, by omega, HP, hH2, (hF.drewN n1).trans hF2⟩
        case measure => simp [intOf]; omega

set_option maxRecDepth 100000 in
set_option maxHeartbeats 2000000 in
theorem down_any {l : List Pl} {B : Nat → Prop} {p n : Nat} {a : Option Addr} {c : Nat} {ob : Option Nat} (w : World) (hH : HeapIs w.heap B p n l a c ob) (hl : n ≤ 100000) (M : Int) (hM : 0 ≤ M ∧ M ≤ n) :
    Calls Try.prog 55 #[.iface 82 (.pointer (some ⟨p, 0, none⟩)), .int .i64 0, .int .i64 M] w (PostPerm w B p n l a c ob) := by
  have a1 := ahLess ⟨p, 0, none⟩
  have a2 := ahSwap ⟨p, 0, none⟩
  obtain ⟨m0, m1⟩ := hM
  go_enter Try.func55, Try.ntmps55
  go_wp2
  go_loopw [7] (fun s7 wr => ∃ (i : Int) (l' : List Pl), s7 = .int .i64 i ∧ 0 ≤ i ∧ i ≤ M ∧ Hid (l'.Perm l) ∧ HeapIs wr.heap B p n l' a c ob ∧ Fr B w wr) (fun s _ => (M - intOf s).toNat)
  case atStart => exact ⟨0, l, rfl, by omega, by omega, List.Perm.refl _, hH, Fr.refl _ _⟩
  case round =>
    clear hH
    obtain ⟨i, l', rfl, i0, i1, hP, hH, hF⟩ := hrel
    have m1 := fun k : Nat => meLess (w := wr.drewN k) hH.cell
    have m2 := fun k : Nat => meSwap (w := wr.drewN k) hH.cell
    have m3 := meLess hH.cell
    by_cases h0 : 2 * i + 1 < M
    · have k1 : ¬ M ≤ 2 * i + 1 := by omega
      have k2 : 0 ≤ 2 * i := by omega
      have k3 : 0 ≤ 2 * i + 1 := by omega
      have k4 : ¬ 2 * i + 1 < 0 := by omega
      by_cases h1 : 2 * i + 1 + 1 < M
      · go_wp2_with (fail)
        refine (less_at _ hH hl (2 * i + 1 + 1) (2 * i + 1) ⟨by omega, by omega⟩ ⟨by omega, by omega⟩).mono ?_
        rintro e1 w1 ⟨b, rfl, n1, rfl⟩
        cases b
        · go_wp2_with (fail)
          refine (less_at _ (HeapIs.fr (S := fun _ => False) hH ((Fr.refl _ wr).drewN n1) (fun _ _ h => h)) hl (2 * i + 1) i ⟨by omega, by omega⟩ ⟨by omega, by omega⟩).mono ?_
          rintro e2 w2 ⟨b2, rfl, n2, rfl⟩
          cases b2
          · go_wp2_with (fail)
            go_ret
            exact ⟨⟨_, rfl⟩, ⟨l', hP.out, hH⟩, hF.drewN (n1 + n2)⟩
          · go_wp2_with (fail)
            refine (swap_at _ (HeapIs.fr (S := fun _ => False) hH ((Fr.refl _ wr).drewN (n1 + n2)) (fun _ _ h => h)) hl i (2 * i + 1) ⟨by omega, by omega⟩ ⟨by omega, by omega⟩).mono ?_
            rintro e3 w3 ⟨rfl, ⟨l3, hP3, hH3⟩, hF3⟩
            have HP := Lib.hid (hP3.trans hP.out)
            clear hP3
            go_wp2
            go_roundw
            case rel => exact ⟨2 * i + 1, l3, rfl, by omega, by omega, HP, hH3, (hF.drewN (n1 + n2)).trans hF3⟩
            case measure => simp [intOf]; omega
        · go_wp2_with (fail)
          refine (less_at _ (HeapIs.fr (S := fun _ => False) hH ((Fr.refl _ wr).drewN n1) (fun _ _ h => h)) hl (2 * i + 1 + 1) i ⟨by omega, by omega⟩ ⟨by omega, by omega⟩).mono ?_
          rintro e2 w2 ⟨b2, rfl, n2, rfl⟩
          cases b2
          · go_wp2_with (fail)
            go_ret
            exact ⟨⟨_, rfl⟩, ⟨l', hP.out, hH⟩, hF.drewN (n1 + n2)⟩
          · go_wp2_with (fail)
            refine (swap_at _ (HeapIs.fr (S := fun _ => False) hH ((Fr.refl _ wr).drewN (n1 + n2)) (fun _ _ h => h)) hl i (2 * i + 1 + 1) ⟨by omega, by omega⟩ ⟨by omega, by omega⟩).mono ?_
            rintro e3 w3 ⟨rfl, ⟨l3, hP3, hH3⟩, hF3⟩
            have HP := Lib.hid (hP3.trans hP.out)
            clear hP3
            go_wp2
            go_roundw
            case rel => exact ⟨2 * i + 1 + 1, l3, rfl, by omega, by omega, HP, hH3, (hF.drewN (n1 + n2)).trans hF3⟩
            case measure => simp [intOf]; omega
      · have k5 : M ≤ 2 * i + 1 + 1 := by omega
        go_wp2_with (fail)
        refine (less_at _ hH hl (2 * i + 1) i ⟨by omega, by omega⟩ ⟨by omega, by omega⟩).mono ?_
        rintro e2 w2 ⟨b2, rfl, n2, rfl⟩
        cases b2
        · go_wp2_with (fail)
          go_ret
          exact ⟨⟨_, rfl⟩, ⟨l', hP.out, hH⟩, (hF).drewN n2⟩
        · go_wp2_with (fail)
          refine (swap_at _ (HeapIs.fr (S := fun _ => False) hH ((Fr.refl _ _).drewN n2) (fun _ _ h => h)) hl i (2 * i + 1) ⟨by omega, by omega⟩ ⟨by omega, by omega⟩).mono ?_
          rintro e3 w3 ⟨rfl, ⟨l3, hP3, hH3⟩, hF3⟩
          have HP := Lib.hid (hP3.trans hP.out)
          clear hP3
          go_wp2
          go_roundw
          case rel => exact ⟨2 * i + 1, l3, rfl, by omega, by omega, HP, hH3, ((hF).drewN n2).trans hF3⟩
          case measure => simp [intOf]; omega
    · have k1 : M ≤ 2 * i + 1 := by omega
      have k2 : 0 ≤ 2 * i := by omega
      have k3 : 0 ≤ 2 * i + 1 := by omega
      clear h0
      go_wp2
      go_ret
      exact ⟨⟨_, rfl⟩, ⟨l', hP.out, hH⟩, hF⟩

/-- One more on the heap. -/
def PostPut (w : World) (B : Nat → Prop) (p n : Nat) (l : List Pl) (x : Pl) (e : Ending) (w' : World) : Prop :=
  e = .returned (.tuple #[]) ∧ (∃ l' : List Pl, l'.Perm (x :: l) ∧ HeapAt w'.heap B p (n + 1) l') ∧ Fr B w w'
set_option maxRecDepth 100000 in
set_option maxHeartbeats 1000000 in
theorem put_any {l : List Pl} {B : Nat → Prop} {p n : Nat} (w : World) (hH : HeapAt w.heap B p n l) (hB : ∀ k, w.heap.size ≤ k → B k) (hl : n < 100000) (xf xv : Int) :
    Calls Try.prog 32 #[.iface 82 (.pointer (some ⟨p, 0, none⟩)), .iface 84 (.agg #[.int .i64 xf, .int .i64 xv])] w (PostPut w B p n l ⟨xf, xv⟩) := by
  have a1 := ahPush ⟨p, 0, none⟩
  have a2 := ahLen ⟨p, 0, none⟩
  have m1 := mePush ⟨p, 0, none⟩
  go_enter Try.func32, Try.ntmps32
  go_wp2_with (fail)
  refine (hpush_any w hH hB (by omega) ⟨xf, xv⟩).mono ?_
  rintro e1 w1 ⟨rfl, ⟨a, c, ob, hH1⟩, hF1⟩
  have m2 := meLen hH1.cell
  have m3 : IntKind.i64.wrap ((n : Int) + 1) = (n : Int) + 1 := IntWalk.i64_in _ (by omega)
  go_wp2_with (fail)
  refine (hlen_any a (n + 1) c w1).mono ?_
  rintro e2 w2 ⟨rfl, rfl⟩
  clear m3
  go_wp2_with (fail)
  refine (up_any w1 hH1 (by omega) n ⟨by omega, by omega⟩).mono ?_
  rintro e3 w3 ⟨⟨v, rfl⟩, ⟨l3, hP3, hH3⟩, hF3⟩
  have HP := Lib.hid (hP3.trans (List.perm_append_singleton (⟨xf, xv⟩ : Pl) l))
  clear hP3
  go_wp2
  go_end0
  exact ⟨rfl, ⟨l3, HP.out, ⟨a, c, ob, hH3⟩⟩, hF1.trans hF3⟩

/-- One is taken. -/
def PostGot (w : World) (B : Nat → Prop) (p n : Nat) (l : List Pl) (e : Ending) (w' : World) : Prop :=
  ∃ (x : Pl) (l' : List Pl), e = .returned (.iface 84 (.agg #[.int .i64 x.f, .int .i64 x.v])) ∧ (x :: l').Perm l ∧ HeapAt w'.heap B p n l' ∧ Fr B w w'
set_option maxRecDepth 100000 in
set_option maxHeartbeats 1000000 in
theorem got_any {l : List Pl} {B : Nat → Prop} {p n : Nat} (w : World) (hH : HeapAt w.heap B p (n + 1) l) (hl : n < 100000) :
    Calls Try.prog 31 #[.iface 82 (.pointer (some ⟨p, 0, none⟩))] w (PostGot w B p n l) := by
  have a1 := ahPop ⟨p, 0, none⟩
  have a2 := ahLen ⟨p, 0, none⟩
  have a3 := ahSwap ⟨p, 0, none⟩
  have m1 := mePop ⟨p, 0, none⟩
  obtain ⟨a, c, ob, hH⟩ := hH
  have m2 := meLen hH.cell
  have m3 := meSwap hH.cell
  go_enter Try.func31, Try.ntmps31
  go_wp2_with (fail)
  refine (hlen_any a (n + 1) c w).mono ?_
  rintro e1 w1 ⟨rfl, rfl⟩
  go_wp2_with (fail)
  refine (swap_at _ hH (by omega) 0 n ⟨by omega, by omega⟩ ⟨by omega, by omega⟩).mono ?_
  rintro e2 w2 ⟨rfl, ⟨l2, hP2, hH2⟩, hF2⟩
  go_wp2_with (fail)
  refine (down_any w2 hH2 (by omega) n ⟨by omega, by omega⟩).mono ?_
  rintro e3 w3 ⟨⟨v, rfl⟩, ⟨l3, hP3, hH3⟩, hF3⟩
  have HP := Lib.hid (hP3.trans hP2)
  have hne : l3 ≠ [] := fun h => by have := hH3.len; rw [h] at this; simp at this
  obtain ⟨l4, x, rfl⟩ : ∃ l4 x, l3 = l4 ++ [x] := ⟨_, _, (List.dropLast_concat_getLast hne).symm⟩
  clear hP3 hP2 hne
  go_wp2_with (fail)
  refine (hpop_any w3 x ⟨a, c, ob, hH3⟩ (by omega)).mono ?_
  rintro e4 w4 ⟨rfl, hH4, hF4⟩
  go_wp2
  go_ret
  exact ⟨x, l4, rfl, (List.perm_append_singleton x l4).symm.trans HP.out, hH4, (hF2.trans hF3).trans hF4⟩
end Go.Proofs.Ytgfbkebbnfcgkaa
end

section
namespace Go.Proofs.Ytgfbkebbnfcgkaa
open Go.RowKit

def farErr (n : Int) (l : List Lk) (s : Int) : Option Int := match graphErr n l with
  | some k => some k
  | none => if s < 0 ∨ n ≤ s then some 1 else none
abbrev costF (n : Nat) (l : List Lk) (i k : Nat) : Int := at2 (costsM n l) i k
/-- How far all are; or what is wrong. -/
def RetFar (w : World) (n : Int) (l : List Lk) (s : Int) (r : Option Int) (e : Ending) (w' : World) : Prop :=
  match r with
  | some k => RetV w (.tuple #[.slice none 0 0, errv k]) e w'
  | none => ∃ far, IsFar n.toNat (costF n.toNat l) s.toNat far ∧ RetNew w 3 1 n.toNat (ivals .i64 far) (fun v => .tuple #[v, .nilIface]) e w'
theorem RetFar.err {w w' : World} {n : Int} {l : List Lk} {s : Int} {r : Option Int} {k : Int} {e : Ending} (h : r = some k) (he : e = .returned (.tuple #[.slice none 0 0, errv k])) (hF : Fr (fun _ => False) w w') : RetFar w n l s r e w' := by subst h; exact ⟨he, hF⟩
theorem RetFar.ok {w w' : World} {n : Int} {l : List Lk} {s : Int} {r : Option Int} {far : List Int} {e : Ending} (h : r = none) (hf : IsFar n.toNat (costF n.toNat l) s.toNat far) (hR : RetNew w 3 1 n.toNat (ivals .i64 far) (fun v => .tuple #[v, .nilIface]) e w') : RetFar w n l s r e w' := by subst h; exact ⟨far, hf, hR⟩

set_option maxRecDepth 100000 in
set_option maxHeartbeats 4000000 in
theorem far_any (n : Int) (l : List Lk) (a : Option Addr) (c : Nat) (s : Int) (w : World) (hL : Links w.heap a l) (hl : l.length ≤ 9223372036854775807) (hw : ∀ x ∈ l, (Lit.int .i64 x.a).wf = true ∧ (Lit.int .i64 x.b).wf = true ∧ (Lit.int .i64 x.c).wf = true) :
    Calls Try.prog 11 #[.int .i64 n, .slice a l.length c, .int .i64 s] w (RetFar w n l s (farErr n l s)) := by
  go_enter Try.func11, Try.ntmps11
  go_wp2_with (go_at_call 4; refine (costs_any n l a c _ hL hl hw).mono ?_)
  intro e1 w1 R1
  rcases costsE_cases n l with ⟨k, h1, h2⟩ | ⟨N, rfl, hN1, hN8, h1, h2, hT⟩
  · rw [h2] at R1
    obtain ⟨rfl, hF1⟩ := R1
    have hX := Lib.hid (show farErr n l s = some k by unfold farErr; rw [h1])
    clear h1 h2
    go_wp2
    go_ret2
    exact RetFar.err hX.out rfl hF1
  · rw [h2] at R1
    obtain ⟨am, cm, obm, G, C, rfl, hM, hF1⟩ := R1
    have hE : farErr N l s = if s < 0 ∨ (N : Int) ≤ s then some 1 else none := by unfold farErr; rw [h1]
    have HE := Lib.hid hE
    clear h1 h2 hE
    have HT := Lib.hid hT
    have hln := hT.sq.len
    clear hT
    generalize hCM : costsM N l = CM at *
    have HCM := Lib.hid hCM
    clear hCM
    rw [hln] at *
    by_cases hs : s < 0 ∨ (N : Int) ≤ s
    · have hX := Lib.hid (HE.out.trans (if_pos hs))
      go_wp2
      all_goals go_ret2
      all_goals exact RetFar.err hX.out rfl hF1
    · have hX := Lib.hid (HE.out.trans (if_neg hs))
      obtain ⟨S, rfl⟩ : ∃ S : Nat, s = S := ⟨s.toNat, by omega⟩
      have hS : S < N := by omega
      have hd0 : decide ((S : Int) < 0) = false := by simp
      have hC0 := fun (i k : Nat) (hi : i < N) (hk : k < N) => (HT.out.bd i k hi hk).1
      have HC0 := Lib.hid hC0
      clear hs HE hC0 hln
      have hlit := (Ownd.made w1 3 1 1 [.int .i64 16] rfl (by decide)).rd
      go_wp2_with (go_at_call 13; refine (repeat_int 16 _ 1 N _ hlit (by omega) (by omega)).mono ?_)
      intro e2 w2 R2
      obtain ⟨a1, c1, ob1, rfl, hO1, hF2, hN1'⟩ := R2
      have hF12 : Fr (fun _ => False) w1 w2 := ((Fr.refl _ _).alloc _).trans hF2
      obtain ⟨g, rfl, rfl, hg, hc, hfz⟩ := hO1.pos (by omega)
      have hgn : w1.heap.size ≤ g := by have := hN1' g rfl; simp at this; omega
      have hM2 := hM.fr hF12 (fun _ _ _ h => h)
      have hci := (hc S (by omega)).trans (ivals_get .i64 (List.replicate N (16 : Int)) S (by simpa using hS))
      have hfi := hfz S
      have e : (ivals .i64 (List.replicate N (16 : Int))).set S (.int .i64 0) = ivals .i64 ((List.replicate N (16 : Int)).set S 0) := by simp [ivals, List.map_set]
      have hO2 := hO1.set rfl S (.int .i64 0)
      rw [e] at hO2
      have hO4 := (hO2.alloc (.cells #[.int .i64 0, .int .i64 S] 84)).alloc (.cells #[.slice (some ⟨w2.heap.size, 0, none⟩) 1 1] 86)
      have HO4 := Lib.hid hO4
      have HFW : Hid (Fr (fun _ => False) w w2) := hF1.trans hF12
      have hne : ∀ k, k = g → (∀ i, i < CM.length → G i ≠ k) ∧ obm ≠ some k := fun k hk => by
        subst hk
        exact ⟨fun i hi => by have := (hM.row i hi).lt _ rfl; omega, fun h => by have := hM.top.lt _ h; omega⟩
      have HNE := Lib.hid hne
      clear hc hfz hO1 e hlit hO2 hO4 hM hne
      go_wp2
      have atS : HeapAt (((w2.setCell ⟨g, S, none⟩ (.int .i64 0)).alloc (.cells #[.int .i64 0, .int .i64 S] 84)).alloc (.cells #[.slice (some ⟨w2.heap.size, 0, none⟩) 1 1] 86)).heap (fun k => w2.heap.size ≤ k) (w2.heap.size + 1) 1 [⟨0, S⟩] := by
        refine ⟨some ⟨w2.heap.size, 0, none⟩, 1, some w2.heap.size, rfl, ?_, ?_, by omega, fun g' h => by cases h; omega⟩
        · have := Blk.made ((w2.setCell ⟨g, S, none⟩ (.int .i64 0)).alloc (.cells #[.int .i64 0, .int .i64 S] 84)) 86 [.slice (some ⟨w2.heap.size, 0, none⟩) 1 1]
          simpa using this
        · have := (Ownd.made (w2.setCell ⟨g, S, none⟩ (.int .i64 0)) 84 2 1 [.int .i64 0, .int .i64 S] rfl (by decide)).alloc (.cells #[.slice (some ⟨w2.heap.size, 0, none⟩) 1 1] 86)
          simpa using this
      go_loopg [] 300 (fun f wr => ∃ (far : List Int) (hp : List Pl) (m : Nat), HeapAt wr.heap (fun k => w2.heap.size ≤ k) (w2.heap.size + 1) m hp ∧ Ownd wr.heap 3 1 (some ⟨g, 0, none⟩) N c1 (ivals .i64 far) (some g) ∧ Hid (Going N (at2 CM) S far hp (fun _ _ => False)) ∧ Fr (fun k => k = g) w2 wr ∧ Hid (2 * farW far + m ≤ f ∧ f ≤ 300))
      case atStart =>
        refine ⟨_, _, 1, atS, HO4.out, Going.start (at2 CM) hS, (((Fr.refl (fun k => k = g) w2).setCell (fun _ => rfl) _).alloc _).alloc _, ?_, by omega⟩
        have h := Going.start (at2 CM) hS
        have := farW_le h.len (fun v hv => (h.bd v hv).2)
        omega
      case round =>
        clear atS hci hfi HO4
        obtain ⟨far, hp, m, ⟨ah, ch, obh, hH⟩, hO, hG, hF, hW⟩ := hrel
        have hbox := hH.cell
        have hsz := hF.size
        by_cases hm : m = 0
        · subst hm
          have hp0 : hp = [] := List.eq_nil_of_length_eq_zero hH.len
          have hX2 := Lib.hid hX.out
          go_wp2_with (fail)
          refine (hlen_any ah 0 ch wr).mono ?_
          rintro e3 w3 ⟨rfl, rfl⟩
          go_wp2
          go_ret2
          have hG0 := hG.out
          rw [hp0] at hG0
          refine RetFar.ok hX2.out (far := far) ?_ ⟨some ⟨g, 0, none⟩, c1, some g, rfl, hO, ?_, fun g' h => by cases h; have := hF1.size; omega⟩
          · show IsFar N (at2 (costsM N l)) S far
            rw [HCM.out]
            exact hG0.isFar HC0.out
          · exact HFW.out.trans' hF (fun i hi h => by have := hF1.size; omega)
        · obtain ⟨m, rfl⟩ : ∃ m' : Nat, m = m' + 1 := ⟨m - 1, by omega⟩
          clear hm
          have hm3 : m < 100000 := by have := hW.out; omega
          go_wp2_with (fail)
          refine (hlen_any ah (m + 1) ch wr).mono ?_
          rintro e3 w3 ⟨rfl, rfl⟩
          go_wp2_with (fail)
          refine (got_any wr ⟨ah, ch, obh, hH⟩ hm3).mono ?_
          rintro e4 w4 ⟨⟨xf, xv⟩, hp', rfl, hPerm, ⟨ah4, ch4, obh4, hH4⟩, hF4⟩
          have tA : ∀ w : World, (Instr.typeAssert (.iface 84 (.agg #[.int .i64 xf, .int .i64 xv])) 20 84 false).run Try.prog w = .ok (.agg #[.int .i64 xf, .int .i64 xv]) w := fun _ => by kernel_rfl
          have hG4 := hG.out.perm hPerm
          obtain ⟨v0, v1, f0, f1, fle⟩ := hG4.pl ⟨xf, xv⟩ (by simp)
          simp only at v0 v1 f0 f1 fle
          obtain ⟨V, rfl⟩ := Int.eq_ofNat_of_zero_le v0
          have hV : V < N := by omega
          simp only [Int.toNat_natCast] at fle
          have hHG := Lib.hid hG4
          have hfl := hG4.len
          have hW4 : Hid (2 * farW far + m + 1 ≤ gk ∧ gk ≤ 300) := by have := hW.out; exact ⟨by omega, by omega⟩
          have hF04 : Fr (fun k => k = g) w2 w4 := hF.trans' hF4 (fun i hi h => by omega)
          have hO4 := hO.fr hF4 (fun g' h h2 => by cases h; omega)
          have hO5 := hO4.alloc (.cells #[.int .i64 xf, .int .i64 V] 84)
          have hF05 := hF04.alloc (.cells #[.int .i64 xf, .int .i64 V] 84)
          have hsz4 := hF04.size
          obtain ⟨_, hh, hh2, hg4, hcv, -⟩ := hO4.pos (by omega)
          cases hh
          have cv := (hcv V (by omega)).trans (ivals_get .i64 far V (by omega))
          clear hcv hh2 hPerm hG hW hO hO4 hF hbox hH hG4 hsz v0 v1
          have HFL := Lib.hid hfl
          clear hfl
          generalize hfv : nth far V = fv at *
          have HFV := Lib.hid hfv
          clear hfv
          by_cases hst : fv < xf
          · go_wp2
            (refine wp_region_mix (fun _ => True) 7 (by kernel_rfl) (by kernel_rfl) (trivial) ?_; simp only [List.take_succ_cons, List.take_zero, List.drop_succ_cons, List.drop_zero])
            (refine wpMix_earlyN 7 (by kernel_rfl) (by kernel_rfl) ?_; simp only [List.take_succ_cons, List.take_zero, List.drop_succ_cons, List.drop_zero]; (repeat (go_big_quiet_step (fail))); refine wpQuiet_nil ?_)
            go_wp2
            refine wpMix_nil ?_
            go_wp2
            go_roundg (gk - 1)
            case measure => have := hW4.out; omega
            case rel => exact ⟨far, hp', m, ⟨ah4, ch4, obh4, hH4.fr ((Fr.refl (fun _ => False) _).alloc _).drew (fun _ _ h => h)⟩, hO5, hHG.out.stale (by simp only [Int.toNat_natCast]; rw [HFV.out]; exact hst), hF05.drew, by have := hW4.out; exact ⟨by omega, by omega⟩⟩
          · obtain rfl : fv = xf := by omega
            clear hst fle
            go_wp2
            (refine wp_region_mix (fun _ => True) 7 (by kernel_rfl) (by kernel_rfl) (trivial) ?_; simp only [List.take_succ_cons, List.take_zero, List.drop_succ_cons, List.drop_zero])
            (refine wpMix_earlyN 7 (by kernel_rfl) (by kernel_rfl) ?_; simp only [List.take_succ_cons, List.take_zero, List.drop_succ_cons, List.drop_zero]; (repeat (go_big_quiet_step (fail))); refine wpQuiet_nil ?_)
            go_wp2
            refine wpMix_nil ?_
            have hM5 := hM2.fr' hF05 HNE.out
            obtain ⟨bm, om, rfl, m1, -, -⟩ := OMat.cells hM5 HT.out.sq.len HT.out.sq.rows V 0 hV (by omega)
            have hH5 := hH4.fr ((Fr.refl (fun _ => False) w4).alloc (.cells #[.int .i64 fv, .int .i64 V] 84)) (fun _ _ h => h)
            have hX4 := Blk.made w4 84 [.int .i64 fv, .int .i64 V]
            have hHS : HeapAt (w4.alloc (.cells #[.int .i64 fv, .int .i64 V] 84)).drew.heap (fun k => w2.heap.size ≤ k ∧ k ≠ w4.heap.size) (w2.heap.size + 1) m hp' :=
              ⟨ah4, ch4, obh4, hH5.len, hH5.box, hH5.own, ⟨hH5.bp, by have := hH4.box.lt; omega⟩, fun q hq => ⟨⟨(hH5.bo q hq).1, by have := hH4.own.lt q hq; omega⟩, (hH5.bo q hq).2⟩⟩
            have HG5 : Hid (Going N (at2 CM) S far hp' (fun u j => u = V ∧ 0 ≤ j) ∧ nth far V = fv) := ⟨by simpa using hHG.out.take, HFV.out⟩
            obtain ⟨go, rfl⟩ : ∃ go : Nat, go = gk := ⟨_, rfl⟩
            obtain ⟨wo, rfl⟩ : ∃ wo : World, wo = wr := ⟨_, rfl⟩
            clear hHG HFV hH5 hM5
            go_wp2
            go_loopw [65] (fun s65 wr => ∃ (k : Nat) (far' : List Int) (hp : List Pl) (m' : Nat), s65 = .int .i64 k ∧ k ≤ N ∧ HeapAt wr.heap (fun k => w2.heap.size ≤ k ∧ k ≠ w4.heap.size) (w2.heap.size + 1) m' hp ∧ Ownd wr.heap 3 1 (some ⟨g, 0, none⟩) N c1 (ivals .i64 far') (some g) ∧ Hid (Going N (at2 CM) S far' hp (fun u j => u = V ∧ k ≤ j) ∧ nth far' V = fv) ∧ Fr (fun k => k = g) w2 wr ∧ Blk wr.heap w4.heap.size 84 [.int .i64 fv, .int .i64 V] ∧ Hid (2 * farW far' + m' + 1 ≤ go ∧ go ≤ 300)) (fun s _ => N - (intOf s).toNat)
            case atStart => exact ⟨0, far, hp', m, rfl, by omega, hHS, hO5, HG5, hF05.drew, hX4, hW4⟩
            case round =>
              clear hHS hO5 HG5 hX4 hW4 m1 HFL cv
              obtain ⟨k, far', hp, m', rfl, hk, hH, hO, hG, hF, hX4, hW⟩ := hrel
              by_cases hkN : k < N
              · have hMk := hM2.fr' hF HNE.out
                obtain ⟨_, _, hh, -, m2, -⟩ := OMat.cells hMk HT.out.sq.len HT.out.sq.rows V k hV hkN
                cases hh
                have x0 := hX4.cell 0
                simp only [List.getElem?_cons_zero] at x0
                have hbd := HT.out.bd V k hV hkN
                simp only [at2] at hbd
                obtain ⟨g0, hGV⟩ := hG.out
                have hfl := g0.len
                obtain ⟨_, hh, hh2, hg6, hcv, hfr6⟩ := hO.pos (by omega)
                cases hh
                have cv := (hcv k (by omega)).trans (ivals_get .i64 far' k (by omega))
                have f6 := hfr6 k
                have hb6 := g0.bd k hkN
                generalize hdk : nth (nth CM V) k = dk at *
                generalize hfk : nth far' k = fk at *
                have HDK := Lib.hid hdk
                have HFK := Lib.hid hfk
                have HFL := Lib.hid hfl
                have HGV := Lib.hid hGV
                have HG0 := Lib.hid g0
                clear hcv hfr6 hh2 hG hMk hdk hfk hfl hGV g0
                have d0 : 0 ≤ dk + fv := by omega
                by_cases hlt : dk + fv < fk
                · have hset := hO.set rfl k (.int .i64 (dk + fv))
                  have e : (ivals .i64 far').set k (.int .i64 (dk + fv)) = ivals .i64 (far'.set k (dk + fv)) := by simp [ivals, List.map_set]
                  rw [e] at hset
                  have hsw := hX4.lt
                  have hHS : HeapAt (wr.setCell ⟨g, k, none⟩ (.int .i64 (dk + fv))).heap (fun k => w2.heap.size ≤ k ∧ k ≠ w4.heap.size) (w2.heap.size + 1) m' hp := by
                    obtain ⟨q1, q2, q3, q4⟩ := hH
                    exact ⟨q1, q2, q3, q4.fr ((Fr.refl (fun k => k = g) wr).setCell (fun _ => rfl) _) (fun k hk h => by subst h; omega)⟩
                  have hXs := hX4.fr ((Fr.refl (fun k => k = g) wr).setCell (p := ⟨g, k, none⟩) (fun _ => rfl) (.int .i64 (dk + fv))) (by omega)
                  have hFs := hF.setCell (p := ⟨g, k, none⟩) (fun _ => rfl) (.int .i64 (dk + fv))
                  have hm' : m' < 100000 := by have := hW.out; omega
                  have HO2 := Lib.hid hset
                  clear e hH hO hset hX4 hF
                  go_wp2_with (fail)
                  refine (put_any _ hHS (fun q hq => by simp at hq; omega) hm' (dk + fv) k).mono ?_
                  rintro e8 w8 ⟨rfl, ⟨hp8, hPerm8, hH8⟩, hF8⟩
                  have hO8 := HO2.out.fr hF8 (fun q hq h => by cases hq; omega)
                  have hX8 := hXs.fr hF8 (fun h => h.2 rfl)
                  have hFw := hFs.trans' hF8 (fun i hi h => by omega)
                  have ht := HG0.out.tell (d := dk + fv) hV hkN hS (HC0.out V k hV hkN) (HT.out.dia V hV) (by rw [HGV.out]; show dk + fv = fv + nth (nth CM V) k; rw [HDK.out]; omega) (by rw [HFK.out]; exact hlt) hPerm8
                  have hwl := farW_set (far := far') (k := k) (d := dk + fv) (by rw [HFL.out]; exact hkN) d0 (by rw [HFK.out]; exact hlt)
                  have HT8 := Lib.hid ht
                  have hW8 : Hid (2 * farW (far'.set k (dk + fv)) + (m' + 1) + 1 ≤ go ∧ go ≤ 300) := by have := hW.out; exact ⟨by omega, by omega⟩
                  clear ht hwl hPerm8 hF8 hFs hXs hHS hW
                  go_wp2
                  go_roundw
                  case rel => exact ⟨k + 1, far'.set k (dk + fv), hp8, m' + 1, by go_num, by omega, hH8, hO8, ⟨HT8.out.1, HT8.out.2.trans HGV.out⟩, hFw, hX8, hW8⟩
                  case measure => simp [intOf]; omega
                · go_wp2
                  go_roundw
                  case rel => exact ⟨k + 1, far', hp, m', by go_num, by omega, hH, hO, ⟨HG0.out.skip (by rw [HFK.out, HGV.out]; show fk ≤ fv + nth (nth CM V) k; rw [HDK.out]; omega), HGV.out⟩, hF, hX4, hW⟩
                  case measure => simp [intOf]; omega
              · obtain rfl : k = N := by omega
                obtain ⟨ah6, ch6, obh6, hH6⟩ := hH
                go_wp2
                go_roundg (go - 1)
                case measure => have := hW.out; omega
                case rel => exact ⟨far', hp, m', ⟨ah6, ch6, obh6, hH6.len, hH6.box, hH6.own, hH6.bp.1, fun q hq => ⟨(hH6.bo q hq).1.1, (hH6.bo q hq).2⟩⟩, hO, hG.out.1.told, hF, by have := hW.out; exact ⟨by omega, by omega⟩⟩
end Go.Proofs.Ytgfbkebbnfcgkaa
end
