import Derived.Test.YtbmeeglehbaggaaNetClone
import Derived.RangeFuncBox
import Derived.RangeFuncNested
import Derived.RangeFuncLeaves
import Derived.Shelf.Abstract
import Derived.WalkKit
import Derived.OwnWalkIn
import Derived.TacticsInMore
import Derived.LoopNIn
import Derived.LoopIn
import Derived.Maps.AppendAt
namespace Go.Proofs.Ytbmeeglehbaggaa
open Go.RowKit Go.Shelf
attribute [local go_sem] Oper.semAt_some

/-! slices.Collect over slices.Values, at []api.Net. -/
theorem belowFrN {w w' : World} (h : Below w.heap.size w w') : Fr (fun _ => False) w w' := ⟨h.os, h.tape, h.output, h.size, fun k hk _ => h.block k hk⟩
theorem cells_new (w : World) (xs : List Value) (T : TypeId) : ∀ j u, xs[j]? = some u → (w.alloc (.cells xs.toArray T)).cell? ((⟨w.heap.size, 0, none⟩ : Addr).add j) = some u := fun j u h => by
  have := (Blk.made w T xs).cell j
  rw [Addr.add_lit, Nat.zero_add, this, h]
theorem blk_own {β : Type} (B : Nat) (t : TypeId) (f : β → List Value) : Own (fun s W => Blk W.heap B t (f s)) := fun s X Y row hs hg hrow =>
  (hg.block B hs.lt (fun e' => by
    obtain ⟨o, ho, hc⟩ := hrow B e'.symm
    have h : X.heap[B]? = some (.cells (f s).toArray t (0, 0)) := hs
    rw [h] at ho; cases ho; cases hc)).trans hs
abbrev ntv (x : Nt) : Value := .agg #[.int .u32 x.a, .int .i64 x.n]

set_option maxRecDepth 100000 in
set_option maxHeartbeats 2000000 in
theorem valuesN1_in (F : Fence) (n : Nat) (h7 : F.fn 80) (hro : F.round = none) (hn : 1 ≤ n) (l Bs n₀ : Nat) (a : Option Addr) (cap : Nat) (zs : List Nt) (hlen : zs.length ≤ 9223372036854775807) (J Jx : List Nt → World → Prop) (hJa : ∀ pre W o, J pre W → n₀ ≤ W.heap.size → J pre (W.alloc o))
    (hY : ∀ pre x W, J pre W → pre.length < zs.length → YieldAt F (n - 1) Try.prog l #[ntv x] W fun e W' =>
      (e = .returned (.bool true) ∧ J (pre ++ [x]) W' ∧ Below n₀ W W') ∨ (e = .returned (.bool false) ∧ Jx (pre ++ [x]) W'))
    (W : World) (hn₀ : n₀ ≤ W.heap.size) (hBs : W.cell? ⟨Bs, 0, none⟩ = some (.slice a zs.length cap)) (hc : Recs W.heap a 2 Nt.cells zs) (hb : 0 < zs.length → ∀ b off, a = some ⟨b, off, none⟩ → b < n₀) (h0 : J [] W) :
    CallsIn F n Try.prog 80 #[.func (.yield l) #[] #[], .pointer (some ⟨Bs, 0, none⟩)] W fun e W' => (∃ v, e = .returned v) ∧
      ((∃ ys, ys = zs ∧ J ys W') ∨ (∃ pre, pre <+: zs ∧ Jx pre W')) := by
  refine callsIn_of_wp Try.func80 rfl h7 ?_ hro
  simp only [Try.ntmps80, List.size_toArray, List.length_cons, List.length_nil, Nat.reduceAdd, Nat.reduceSub, Array.replicate_succ, Array.replicate_zero, List.push_toArray, List.append_toArray, List.nil_append, List.cons_append]
  have HC := Lib.hid hc
  clear hc
  gi_wp2
  gi_loopw [7] (fun i wr => ∃ k : Nat, k ≤ zs.length ∧ i = .int .i64 k ∧ J (zs.take k) wr ∧ Below n₀ W wr)
    (fun i _ => zs.length - (intOf i).toNat)
  case atStart => exact ⟨0, Nat.zero_le _, rfl, by simpa using h0, Below.refl _ _⟩
  case round =>
    obtain ⟨k, hk, rfl, hJs, hnx⟩ := hrel
    by_cases hlt : k < zs.length
    · obtain ⟨b, off, rfl, hbl, hcs⟩ := Recs.pos HC.out Nt.cells_len (by omega) (by omega)
      have hbn := hb (by omega) b off rfl
      have d0 := (hnx.cell (p := ⟨b, off + (k * 2 + 0), none⟩) hbn).trans (hcs W rfl k 0 hlt (by omega))
      have d1 := (hnx.cell (p := ⟨b, off + (k * 2 + 1), none⟩) hbn).trans (hcs W rfl k 1 hlt (by omega))
      have htk := take_succ_nth zs k hlt
      have hnr := Nat.le_trans hn₀ hnx.size
      obtain ⟨fn, tmps, assign, body, hy, hR⟩ := hY _ (nth zs k) (wr.alloc (.cells #[.int .u32 (nth zs k).a, .int .i64 (nth zs k).n] 26)) (hJa _ _ _ hJs hnr) (by rw [List.length_take]; omega)
      rw [← htk] at hR
      generalize nth zs k = y at *
      obtain ⟨ya, yn⟩ := y
      simp only [Nt.cells, List.getElem?_cons_zero, List.getElem?_cons_succ, ← Nat.add_assoc, Nat.add_zero] at d0 d1
      have hbA : Below n₀ wr (wr.alloc (.cells #[.int .u32 ya, .int .i64 yn] 26)) := (Below.refl n₀ wr).alloc hnr _
      clear hcs htk hJs
      gi_wp2
      refine hR.mono ?_
      rintro e W3 (⟨rfl, hJ3, hk3⟩ | ⟨rfl, hJx3⟩)
      · gi_wp2
        go_roundw
        case rel => exact ⟨k + 1, by omega, by go_num, hJ3, (hnx.trans hbA).trans hk3⟩
        case measure => simp [intOf]; omega
      · gi_wp2
        refine bodyPost_ret (results_none rfl _ _ _) rfl ?_
        exact ⟨⟨_, rfl⟩, .inr ⟨_, List.take_prefix _ _, hJx3⟩⟩
    · obtain rfl : k = zs.length := by omega
      rw [List.take_length] at hJs
      gi_wp2
      go_end0
      exact ⟨⟨_, rfl⟩, .inl ⟨_, rfl, hJs⟩⟩

set_option maxHeartbeats 1000000 in
theorem valuesN_any (a : Option Addr) (len cap : Nat) (w : World) :
    Calls Try.prog 60 #[.slice a len cap] w fun e w' => e = .returned (.func (.func 80) #[] #[.pointer (some ⟨w.heap.size, 0, none⟩)]) ∧ w' = w.alloc (.cells #[.slice a len cap] 36) := by
  go_enter Try.func60, Try.ntmps60
  go_wp2
  go_ret
  exact ⟨rfl, rfl⟩

theorem valuesN_stops (F : Fence) (n : Nat) (h7 : F.fn 80) (hro : F.round = none) (hn : 1 ≤ n) (Bs n₀ : Nat) (a : Option Addr) (cap : Nat) (zs : List Nt) (hlen : zs.length ≤ 9223372036854775807) (w : World) (hBs : Bs < w.heap.size) (hn₀ : n₀ ≤ w.heap.size)
    (hc : w.cell? ⟨Bs, 0, none⟩ = some (.slice a zs.length cap)) (hI : Recs w.heap a 2 Nt.cells zs) (hb : 0 < zs.length → ∀ b off, a = some ⟨b, off, none⟩ → b < n₀) :
    SeqStopsK F n Try.prog 80 #[.pointer (some ⟨Bs, 0, none⟩)] (fun x : Nt => #[ntv x]) (Below n₀) (fun ys => ys = zs) (fun pre => pre <+: zs) zs.length w := fun l J Jx W hW hJ _ hY h0 => by
  have hc' := (hW.cell (p := ⟨Bs, 0, none⟩) hBs).trans hc
  exact valuesN1_in F n h7 hro hn l Bs n₀ a cap zs hlen J Jx (fun pre W o h _ => hJ pre W _ none h (World.grownBy_alloc W o none) (fun r e => by cases e)) hY W (Nat.le_trans hn₀ hW.size) hc' (hI.fr (belowFrN hW) (fun _ _ _ h => h)) hb h0

set_option maxRecDepth 100000 in
set_option maxHeartbeats 2000000 in
theorem appendSeqN_any (Bs : Nat) (a : Option Addr) (cap : Nat) (zs : List Nt) (hlen : zs.length * 16 ≤ 140737488355328) (w : World) (hBs : Bs < w.heap.size)
    (hc : w.cell? ⟨Bs, 0, none⟩ = some (.slice a zs.length cap)) (hI : Recs w.heap a 2 Nt.cells zs) :
    Calls Try.prog 93 #[.slice none 0 0, .func (.func 80) #[] #[.pointer (some ⟨Bs, 0, none⟩)]] w (fun e W' => ∃ v, e = .returned v ∧ W'.ownsRow w.heap.size 26 2 v zs.length (zs.flatMap Nt.cells) ∧ Below w.heap.size w W') := by
  obtain ⟨i0, hi, hz0, hz1, hz2⟩ := info_parts infoNt
  refine (callsIn_wide (n := 5)).1 ?_
  refine callsIn_of_wp_marks Try.func93 rfl trivial ?_ rfl
  simp only [Try.ntmps93, List.size_toArray, List.length_cons, List.length_nil, Nat.reduceAdd, Nat.reduceSub, Array.replicate_succ, Array.replicate_zero, List.push_toArray, List.append_toArray, List.nil_append, List.cons_append]
  have hI2 : Recs (w.alloc (.cells #[.slice none 0 0] 36)).heap a 2 Nt.cells zs := hI.fr ((Fr.refl (fun _ => False) w).alloc _) (fun _ _ _ h => h)
  have hc2 : (w.alloc (.cells #[.slice none 0 0] 36)).cell? ⟨Bs, 0, none⟩ = some (.slice a zs.length cap) := by
    rw [((Fr.refl (fun _ => False) w).alloc (.cells #[.slice none 0 0] 36)).cell (p := ⟨Bs, 0, none⟩) hBs (fun h => h)]; exact hc
  gi_wp2
  have bO := Boxed.new w 36 (.slice none 0 0)
  have hB0 : Below w.heap.size w (w.alloc (.cells #[.slice none 0 0] 36)) := (Below.refl _ w).alloc (Nat.le_refl _) _
  refine wpIn_rangeFunc_ownH rfl (by decide) (gf := 80) (lb := #[.pointer (some ⟨Bs, 0, none⟩)]) rfl trivial (enters_of Try.func80 (by kernel_rfl) rfl)
    (valuesN_stops Fence.wide 4 trivial rfl (by omega) Bs w.heap.size a cap zs (by omega) _ (by rw [World.size_alloc]; omega) (by rw [World.size_alloc]; omega) hc2 hI2 (fun hp b off e => by obtain ⟨b', off', e', h1, -⟩ := Recs.pos hI Nt.cells_len (by omega) hp; rw [e] at e'; cases e'; exact h1)) belowK_t (belowK_b (by rw [World.size_alloc]; omega)) (Below.refl _ _) (fun _ => rfl)
    (fun (pre : List Nt) W => (∃ v, Boxed W w.heap.size 36 v ∧ W.ownsRow w.heap.size 26 2 v pre.length (pre.flatMap Nt.cells) ∧ True) ∧ Below w.heap.size w W)
    (fun _ _ _ => False)
    (OwnFrom.and (Own.from (holdsRow_own w.heap.size w.heap.size 36 26 2 (fun (pre : List Nt) => pre.length) (fun pre => pre.flatMap Nt.cells) (fun _ _ => True)) _) (ownFrom_below (Nat.le_refl _) (by simp)))
    (fun _ _ _ _ _ hs _ _ => hs)
    ⟨⟨_, bO, World.ownsRow_nil _ _ _ _, trivial⟩, hB0⟩
    (fun x a' W => ∃ Bx, w.heap.size < Bx ∧ Blk W.heap Bx 26 (Nt.cells x) ∧ a' = { tmps := #[.slice none 0 0, .func (.func 80) #[] #[.pointer (some ⟨Bs, 0, none⟩)], .pointer (some ⟨w.heap.size, 0, none⟩), undef, .slice none 0 0, .pointer (some ⟨Bx, 0, none⟩), .func (.func 80) #[] #[.pointer (some ⟨Bs, 0, none⟩)], ntv x, undef, undef, undef, undef, undef], defers := [] })
    (fun x a' _ X Y row hs hg hr => by obtain ⟨Bx, h1, h2, h3⟩ := hs; exact ⟨Bx, h1, blk_own Bx 26 (fun (_ : Unit) => Nt.cells x) () X Y row h2 hg (fun r e => (hr r e).2), h3⟩)
    ?assign ?body ?done ?stop
  case assign =>
    rintro l pre ⟨xa, xn⟩ W K ⟨⟨v, hv, hrow, -⟩, hB⟩ hK
    gi_wp2
    exact hK _ _ ((KeepsOthers.alloc _ _).from _) ((Below.refl _ W).alloc hB.size _) ⟨⟨v, hv.alloc _, hrow.alloc _, trivial⟩, hB.alloc hB.size _⟩ ⟨W.heap.size, hv.lt, Blk.made W 26 [.int .u32 xa, .int .i64 xn], rfl⟩
  case body =>
    rintro l pre ⟨xa, xn⟩ a' W hl - ⟨⟨v, hv, hrow, -⟩, hB⟩ ⟨Bx, hBx, bX, rfl⟩ hlt
    have hc := hv.cell
    have cx0 := bX.cell 0
    have cx1 := bX.cell 1
    simp only [Nt.cells, List.getElem?_cons_zero, List.getElem?_cons_succ] at cx0 cx1
    gi_wp2_with (gi_at_builtin; refine wpListIn_append_own _ rfl _ _ 36 rfl w.heap.size 26 i0 (.agg #[.int .u32 0, .int .i64 0]) 2 16 Try.underlying36 hi hz0 hz1 hz2 rfl (by decide) _ _ _ rfl (hrow.alloc _) ⟨W.heap.size, 0, none⟩ 1 1 [.int .u32 xa, .int .i64 xn] rfl rfl (cells_new _ _ _) (by simp [Value.oneCell']) (by unfold maxLen; omega) (by omega) (by have := hB.size; simp; omega) ?_; intro v' w1 hown' hgrow _; obtain ⟨g', cap', rfl⟩ := ownsRow_succ hown'; obtain ⟨hv1, hv2, hr2, hk2, hb2⟩ := hv.appended (by decide) hrow hB.size (Nat.le_refl _) hown' hgrow; have hc1 := hv1.cell; have hf1 := hv1.frozen)
    exact ⟨hk2.from _, hb2, ⟨_, hv2, by simpa using hr2, trivial⟩, hB.trans hb2⟩
  case done =>
    rintro D ys W hD rfl ⟨⟨v, hv, hrow, -⟩, hB⟩ hK
    have hc := hv.cell
    gi_wp2
    refine ⟨by simp, .inl ⟨_, _, rfl, run_takeDeferred hK, ?_⟩⟩
    exact ⟨_, results_tmp rfl _ _ _, v, rfl, ownsRow_putObj hrow _ hK rfl, hB.trans (belowK_b (w := w) (Nat.le_refl _) W D _ _ (by simp at hD; omega) hK rfl rfl)⟩
  case stop =>
    rintro D c pre W _ _ h _
    exact h.elim

set_option maxHeartbeats 1000000 in
/-- A copy, by way of an iterator. -/
theorem collectN_any (Bs : Nat) (a : Option Addr) (cap : Nat) (zs : List Nt) (hlen : zs.length * 16 ≤ 140737488355328) (w : World) (hBs : Bs < w.heap.size)
    (hc : w.cell? ⟨Bs, 0, none⟩ = some (.slice a zs.length cap)) (hI : Recs w.heap a 2 Nt.cells zs) :
    Calls Try.prog 78 #[.func (.func 80) #[] #[.pointer (some ⟨Bs, 0, none⟩)]] w (RetNew w 26 2 zs.length (zs.flatMap Nt.cells) id) := by
  have hf := appendSeqN_any Bs a cap zs hlen w hBs hc hI
  clear hI hc
  go_enter Try.func78, Try.ntmps78
  go_wp2_with (fail)
  refine hf.mono ?_
  rintro e1 w1 ⟨v, rfl, hr, hB⟩
  obtain ⟨a1, c1, ob1, rfl, hO, hN⟩ := Ownd.of_owns hr
  go_wp2
  go_ret
  exact ⟨a1, c1, ob1, rfl, hO, belowFrN hB, hN⟩
end Go.Proofs.Ytbmeeglehbaggaa
