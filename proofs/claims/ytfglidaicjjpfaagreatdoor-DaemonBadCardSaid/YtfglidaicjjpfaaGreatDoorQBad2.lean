import Derived.Test.YtfglidaicjjpfaaGreatDoorInsLib
import Derived.Lib.SliceRun
import Derived.Test.YtfglidaicjjpfaaGreatDoorQBad1
import Derived.Test.YtfglidaicjjpfaaGreatDoorErr
import Derived.Test.YtfglidaicjjpfaaGreatDoorRecs
import Derived.Test.YtfglidaicjjpfaaGreatDoorNetW
import Derived.Shelf.Small.Bits
import Derived.Test.YtfglidaicjjpfaaGreatDoorAnyW
section
namespace Go
open Go.RowKit

/-- 'clear(s[i:])', s the call's own, i below its length: what is left is as it was. -/
theorem wpList_clr {P : Program} {w : World} {ops : Array Oper} {rest : List Oper} {o : Oper} {a : Act} {Q : Exit → Act → World → Prop}
    (hg : o.guard = none) (x : Operand) (t : TypeId) (hop : o.op = Op.call { callee := Callee.builtin Builtin.clear, args := #[x], argTypes := #[t] })
    {e : TypeId} {z : Value} {size : Nat} (ht : P.underlying t = some (.slice e)) (hz : ∀ w, (zeroValue e).run P w = .ok z w) (hsz : z.cells.size = size) (h1 : ∀ u ∈ z.cells.toList, u.oneCell' = true)
    {E : TypeId} {g i m c n cap : Nat} (hx : a.eval x = .slice (some ⟨g, i * size, none⟩) m c) {xs : List Value} (hown : Own w.heap E size (some ⟨g, 0, none⟩) n cap xs (some g)) (hi : i + m = n) (hm : 0 < m)
    (hK : ∀ w', Own w'.heap E size (some ⟨g, 0, none⟩) i cap (xs.take (i * size)) (some g) → Fr (fun k => k = g) w w' → wpList P ops Q rest (a.put o.dst (.tuple #[])) w') :
    wpList P ops Q (o :: rest) a w := by
  obtain ⟨g', cur, hga, hgo, hB, hn, hc, hl, htk⟩ := hown.blk (by omega)
  cases hga
  have hzl : (Builtin.zeroCells z.cells m).toList.length = m * size := by rw [← hsz]; simp [Builtin.zeroCells]
  have hz1 : ∀ u ∈ (Builtin.zeroCells z.cells m).toList, u.oneCell' = true := fun u hu => by
    simp only [Builtin.zeroCells, Array.toList_map, Array.toList_range, List.mem_map, List.mem_range] at hu
    obtain ⟨j, hj, rfl⟩ := hu
    have hs0 : 0 < z.cells.size := by
      rcases Nat.eq_zero_or_pos z.cells.size with h | h
      · rw [h] at hj; simp at hj
      · exact h
    have hjs : j % z.cells.size < z.cells.size := Nat.mod_lt _ hs0
    rw [getElem!_pos z.cells _ hjs]
    exact h1 _ (by simp)
  have hlen : i * size + (Builtin.zeroCells z.cells m).toList.length ≤ cur.length := by
    rw [hzl, hl, ← Nat.add_mul, hi]
    exact Nat.mul_le_mul_right _ hn
  have hst := run_storeCells_at P g (i * size) E (Builtin.zeroCells z.cells m).toList 0 cur.toArray w hB (by simpa using hlen) hz1
  simp only [Nat.add_zero] at hst
  refine wpList_plain hg fun K hK' => ?_
  obtain ⟨m', rfl⟩ : ∃ m', m = m' + 1 := ⟨m - 1, by omega⟩
  have hrun : (Builtin.clear_ #[t] o.type #[.slice (some ⟨g, i * size, none⟩) (m' + 1) c]).run P w = .ok (.tuple #[]) (w.setRow g (splice cur (i * size) (Builtin.zeroCells z.cells (m' + 1)).toList).toArray) := by
    simp [Builtin.clear_, run_underlying ht, hz, hst, splice]
  unfold Oper.wp
  simp [execOp, hop, resolve, invoke, builtin, hx, hrun, Result.andThen]
  refine hK' _ _ (hK _ ?_ ?_)
  · have hB' : Blk (w.setRow g (splice cur (i * size) (Builtin.zeroCells z.cells (m' + 1)).toList).toArray).heap g E (splice cur (i * size) (Builtin.zeroCells z.cells (m' + 1)).toList) := setRow_heap w g _ _ E _ hB
    refine Own.of_blk hB' (by omega) hc ?_ ?_
    · unfold splice
      simp only [List.length_append, List.length_take, List.length_drop]
      omega
    · unfold splice
      have : i * size ≤ cur.length := by omega
      rw [List.take_append_of_le_length (by rw [List.length_take]; omega), List.take_take, Nat.min_self, ← htk, List.take_take, Nat.min_eq_left (Nat.mul_le_mul_right _ (by omega))]
  · exact ⟨rfl, rfl, rfl, by simp [World.setRow], fun k hk hs => setRow_other w g k _ hs⟩
end Go
end

section
namespace Go.Proofs.YtfglidaicjjpfaaGreatDoor
open Go.RowKit

/-! slices.Clone, slices.IndexFunc, slices.DeleteFunc at api.Best -/


theorem dbest_set (l : List BestR) (i : Nat) (x : BestR) (h : i < l.length) : (((((l.flatMap BestR.cells).set (i * 4) (.int .u32 x.a)).set (i * 4 + 1) (.int .i64 x.n)).set (i * 4 + 2) (.int .i64 x.m)).set (i * 4 + 3) (.slice x.A x.h.length x.C)) = (l.set i x).flatMap BestR.cells := by
  induction l generalizing i with
  | nil => simp at h
  | cons y l ih =>
    cases i with
    | zero => rfl
    | succ i =>
      have := ih i (by simpa using h)
      rw [List.set_cons_succ, List.flatMap_cons, List.flatMap_cons, ← this]
      rw [show (i + 1) * 4 = i * 4 + 1 + 1 + 1 + 1 by omega]
      rfl
/-- The first of which it is so. -/
def dbest_Idx (w : World) (l : List BestR) (p : BestR → Bool) (e : Ending) (w' : World) : Prop :=
  ∃ i : Int, e = .returned (.int .i64 i) ∧ Fr (fun _ => False) w w' ∧ ((∃ k : Nat, k < l.length ∧ i = k ∧ p (nth l k) = true ∧ ∀ j, j < k → p (nth l j) = false) ∨ (i = -1 ∧ ∀ j, j < l.length → p (nth l j) = false))
set_option maxRecDepth 100000 in
set_option maxHeartbeats 1000000 in
theorem dbest_idx {n : Nat} (l : List BestR) (p : BestR → Bool) (a : Option Addr) (c : Nat)  (w : World) (hL : Recs w.heap a 4 BestR.cells l) (hn : l.length = n) (hl : n ≤ 9223372036854775806)
    (hp : ∀ (x : BestR), x ∈ l → ∀ (w' : World), Fr (fun _ => False) w w' → Calls Tryz.prog 45 #[.agg #[.int .u32 x.a, .int .i64 x.n, .int .i64 x.m, .slice x.A x.h.length x.C]] w' (RetV w' (.bool (p x)))) :
    Calls Tryz.prog 71 #[.slice a n c, .func (.func 45) #[] #[]] w (dbest_Idx w l p) := by
  have HN := Lib.hid hn
  have HP := Lib.hid hp
  clear hn hp
  go_enter Tryz.func71, Tryz.ntmps71
  go_wp2
  go_loopw [8] (fun s8 wr => ∃ (k : Nat), k ≤ n ∧ s8 = .int .i64 k ∧ Fr (fun _ => False) w wr ∧ Hid (∀ j, j < k → p (nth l j) = false)) (fun s _ => n - (intOf s).toNat)
  case atStart => exact ⟨0, by omega, rfl, Fr.refl _ _, Lib.hid (fun j hj => absurd hj (Nat.not_lt_zero _))⟩
  case round =>
    obtain ⟨k, hk, rfl, hF, hE⟩ := hrel
    by_cases hkl : k < n
    · have hkl' : k < l.length := by rw [HN.out]; exact hkl
      obtain ⟨b, off, rfl, hbb, hc⟩ := Recs.pos hL BestR.cells_len (by omega) (by omega)
      have dd := fun (j : Nat) (hj : j < 4) => (hF.cell (p := ⟨b, off + (k * 4 + j), none⟩) hbb (fun h => h)).trans (hc w rfl k j hkl' hj)
      have d0 := dd 0 (by omega)
      have d1 := dd 1 (by omega)
      have d2 := dd 2 (by omega)
      have d3 := dd 3 (by omega)
      obtain ⟨x, hx⟩ : ∃ x, x = nth l k := ⟨_, rfl⟩
      rw [← hx] at d0 d1 d2 d3
      obtain ⟨xa, xn, xm, xh, xA, xC⟩ := x
      simp only [BestR.cells, List.getElem?_cons_zero, List.getElem?_cons_succ, ← Nat.add_assoc, Nat.add_zero] at d0 d1 d2 d3
      have HX := Lib.hid hx
      clear hc hx dd hkl'
      go_wp2_with (fail)
      refine (HP.out ⟨xa, xn, xm, xh, xA, xC⟩ (by rw [HX.out]; exact nth_mem l k (by rw [HN.out]; exact hkl)) wr hF).mono ?_
      rintro e1 w1 ⟨rfl, hF1⟩
      cases hpx : p ⟨xa, xn, xm, xh, xA, xC⟩ with
      | false =>
        have HPX := Lib.hid hpx
        clear hpx
        go_wp2
        go_roundw
        case rel => exact ⟨k + 1, by omega, by go_num, hF.trans hF1, Lib.hid (fun j hj => by
          rcases Nat.lt_succ_iff_lt_or_eq.1 hj with h | h
          · exact hE.out j h
          · subst h; rw [← HX.out]; exact HPX.out)⟩
        case measure => simp [intOf]; omega
      | true =>
        have HPX := Lib.hid hpx
        clear hpx
        go_wp2
        go_ret
        exact ⟨k, rfl, hF.trans hF1, .inl ⟨k, by rw [HN.out]; exact hkl, rfl, by rw [← HX.out]; exact HPX.out, hE.out⟩⟩
    · obtain rfl : k = n := by omega
      go_wp2
      go_ret
      exact ⟨-1, rfl, hF, .inr ⟨rfl, fun j hj => hE.out j (by rw [← HN.out]; exact hj)⟩⟩

/-- What is left: of those of which it is not so, in the old block. -/
def dbest_Del (w : World) (l : List BestR) (p : BestR → Bool) (ob : Option Nat) (e : Ending) (w' : World) : Prop :=
  ∃ a c m, e = .returned (.slice a m c) ∧ m = (l.filter fun x => !p x).length ∧ Own w'.heap 66 4 a m c ((l.filter fun x => !p x).flatMap BestR.cells) ob ∧ Fr (fun k => ob = some k) w w'
theorem zerodbest : ∀ w : World, (zeroValue 66).run Tryz.prog w = .ok (.agg #[.int .u32 0, .int .i64 0, .int .i64 0, .slice none 0 0]) w := fun w => by kernel_rfl
set_option maxRecDepth 100000 in
set_option maxHeartbeats 2000000 in
theorem dbest_del {n : Nat} (l : List BestR) (p : BestR → Bool) (a : Option Addr) (c : Nat) (ob : Option Nat)  (w : World) (hO : Own w.heap 66 4 a n c (l.flatMap BestR.cells) ob) (hn : l.length = n) (hl : n ≤ 9223372036854775806)
    (hp : ∀ (x : BestR), x ∈ l → ∀ (w' : World), Fr (fun k => ob = some k) w w' → Calls Tryz.prog 45 #[.agg #[.int .u32 x.a, .int .i64 x.n, .int .i64 x.m, .slice x.A x.h.length x.C]] w' (RetV w' (.bool (p x)))) :
    Calls Tryz.prog 43 #[.slice a n c, .func (.func 45) #[] #[]] w (dbest_Del w l p ob) := by
  have HN := Lib.hid hn
  have HP := Lib.hid hp
  have hL : Recs w.heap a 4 BestR.cells l := by unfold Recs; rw [hn]; exact hO.rd
  clear hn hp
  go_enter Tryz.func43, Tryz.ntmps43
  go_wp2_with (fail)
  refine (dbest_idx l p a c  w hL HN.out hl (fun x hx w' hF => HP.out x hx w' (hF.none _))).mono ?_
  rintro e1 w1 ⟨i0, rfl, hF1, hI⟩
  have hO1 := hO.fr hF1 (fun _ _ h => h)
  rcases hI with ⟨k0, hk0, rfl, hpk, hlt⟩ | ⟨rfl, hno⟩
  · have hk0n : k0 < n := by rw [← HN.out]; exact hk0
    obtain ⟨g, rfl, rfl, hgl, -, -⟩ := hO1.pos (by omega)
    have hst : (l.take (k0 + 1)).filter (fun x => !p x) = l.take k0 := by
      rw [take_succ_nth l k0 hk0, List.filter_append, List.filter_eq_self.2 (fun x hx => ?_)]
      · simp [hpk]
      · obtain ⟨j, hj, rfl⟩ := List.getElem_of_mem hx
        have hjk : j < k0 := by simp at hj; omega
        have h1 := hlt j hjk
        rw [nth_eq l j (by omega)] at h1
        simp [h1]
    have hb0 : ((k0 : Int) == -1) = false := by simp
    have HS : Hid ((l.take (k0 + 1)).filter (fun x => !p x) = l.take k0) := hst
    clear hst hpk hlt hL
    go_wp2
    go_loopw [6, 5] (fun s6 s5 wr => ∃ (j i : Nat) (m : List BestR), s6 = .int .i64 j ∧ s5 = .int .i64 i ∧ i < j ∧ j ≤ n ∧ Own wr.heap 66 4 (some ⟨g, 0, none⟩) n c (m.flatMap BestR.cells) (some g) ∧ Hid (m.length = n ∧ m.take i = (l.take j).filter (fun x => !p x) ∧ m.drop j = l.drop j) ∧ Fr (fun k => some g = some k) w wr) (fun s _ _ => n - (intOf s).toNat)
    case atStart => exact ⟨k0 + 1, k0, l, by go_num, rfl, by omega, by omega, hO1, ⟨HN.out, HS.out.symm, rfl⟩, hF1.none _⟩
    case round =>
      clear hO1
      obtain ⟨j, i, m, rfl, rfl, hij, hj, hO, hM, hF⟩ := hrel
      by_cases hjn : j < n
      · obtain ⟨hm1, hm2, hm3⟩ := hM.out
        obtain ⟨_, hh, hh2, hgl', hc, hf⟩ := hO.pos (by omega)
        cases hh
        have dd := fun (q : Nat) (hq : q < 4) => (hc (j * 4 + q) (by omega)).trans (flat_get BestR.cells 4 BestR.cells_len m j q (by omega) hq)
        have d0 := dd 0 (by omega)
        have d1 := dd 1 (by omega)
        have d2 := dd 2 (by omega)
        have d3 := dd 3 (by omega)
        have fi := fun q => hf q
        have f0 := fi (i * 4)
        have f1 := fi (i * 4 + 1)
        have f2 := fi (i * 4 + 2)
        have f3 := fi (i * 4 + 3)
        have hnj : nth m j = nth l j := by
          have h1 := drop_nth m j (by omega)
          have h2 := drop_nth l j (by rw [HN.out]; exact hjn)
          rw [hm3] at h1
          rw [h1] at h2
          exact (List.cons.inj h2).1
        have cc := fun (q : Nat) (hq : q < 4) => (hc (i * 4 + q) (by omega)).trans (flat_get BestR.cells 4 BestR.cells_len m i q (by omega) hq)
        have e0 := cc 0 (by omega)
        have e1 := cc 1 (by omega)
        have e2 := cc 2 (by omega)
        have e3 := cc 3 (by omega)
        rw [hnj] at d0 d1 d2 d3
        obtain ⟨x, hx⟩ : ∃ x, x = nth l j := ⟨_, rfl⟩
        rw [← hx] at d0 d1 d2 d3
        generalize nth m i = y at *
        obtain ⟨xa, xn, xm, xh, xA, xC⟩ := x
        obtain ⟨ya, yn, ym, yh, yA, yC⟩ := y
        simp only [BestR.cells, List.getElem?_cons_zero, List.getElem?_cons_succ, Nat.add_zero] at d0 d1 d2 d3 e0 e1 e2 e3
        have HX := Lib.hid hx
        have hset := ((((hO.set rfl (i * 4) (.int .u32 xa)).set rfl (i * 4 + 1) (.int .i64 xn)).set rfl (i * 4 + 2) (.int .i64 xm)).set rfl (i * 4 + 3) (.slice xA xh.length xC))
        rw [dbest_set m i ⟨xa, xn, xm, xh, xA, xC⟩ (by omega)] at hset
        have HSET := Lib.hid hset
        have htk : l.take (j + 1) = l.take j ++ [nth l j] := take_succ_nth l j (by rw [HN.out]; exact hjn)
        have HTK := Lib.hid htk
        clear hc hf dd cc fi hx hset htk hm1 hm2 hm3 hnj hh2
        go_wp2_with (fail)
        refine (HP.out ⟨xa, xn, xm, xh, xA, xC⟩ (by rw [HX.out]; exact nth_mem l j (by rw [HN.out]; exact hjn)) _ (hF.alloc _)).mono ?_
        rintro e2 w2 ⟨rfl, hF2⟩
        have hF02 := ((Fr.refl (fun _ => False) wr).alloc (.cells #[.int .u32 xa, .int .i64 xn, .int .i64 xm, .slice xA xh.length xC] 66)).trans hF2
        have hltb := Nat.lt_of_lt_of_le (show wr.heap.size < (wr.alloc (.cells #[.int .u32 xa, .int .i64 xn, .int .i64 xm, .slice xA xh.length xC] 66)).heap.size by simp) hF2.size
        have hbx := (Blk.made wr 66 [.int .u32 xa, .int .i64 xn, .int .i64 xm, .slice xA xh.length xC]).fr hF2 (fun h => h)
        have h0 := hbx.cell 0
        have h1 := hbx.cell 1
        have h2 := hbx.cell 2
        have h3 := hbx.cell 3
        have e0 := (hF02.cell (p := ⟨g, i * 4, none⟩) hgl' (fun h => h)).trans e0
        have f0 := (hF02.frozen (p := ⟨g, i * 4, none⟩) hgl' (fun h => h)).trans f0
        have e1 := (hF02.cell (p := ⟨g, i * 4 + 1, none⟩) hgl' (fun h => h)).trans e1
        have f1 := (hF02.frozen (p := ⟨g, i * 4 + 1, none⟩) hgl' (fun h => h)).trans f1
        have e2 := (hF02.cell (p := ⟨g, i * 4 + 2, none⟩) hgl' (fun h => h)).trans e2
        have f2 := (hF02.frozen (p := ⟨g, i * 4 + 2, none⟩) hgl' (fun h => h)).trans f2
        have e3 := (hF02.cell (p := ⟨g, i * 4 + 3, none⟩) hgl' (fun h => h)).trans e3
        have f3 := (hF02.frozen (p := ⟨g, i * 4 + 3, none⟩) hgl' (fun h => h)).trans f3
        have hgl2 := Nat.lt_of_lt_of_le hgl' hF02.size
        have hgne : g ≠ wr.heap.size := by omega
        simp only [List.getElem?_cons_zero, List.getElem?_cons_succ] at h0 h1 h2 h3
        cases hpx : p ⟨xa, xn, xm, xh, xA, xC⟩ with
        | false =>
          have hM' : Hid ((m.set i ⟨xa, xn, xm, xh, xA, xC⟩).length = n ∧ (m.set i ⟨xa, xn, xm, xh, xA, xC⟩).take (i + 1) = (l.take (j + 1)).filter (fun x => !p x) ∧ (m.set i ⟨xa, xn, xm, xh, xA, xC⟩).drop (j + 1) = l.drop (j + 1)) := by
            obtain ⟨hm1, hm2, hm3⟩ := hM.out
            refine ⟨by simp [hm1], ?_, ?_⟩
            · rw [HTK.out, List.filter_append, ← hm2, ← HX.out]
              rw [take_succ_nth _ i (by simp; omega), nth_set _ _ _ _ (by omega), if_pos rfl, List.take_set_of_le (Nat.le_refl _)]
              simp [hpx]
            · rw [List.drop_set_of_lt (by omega), ← List.drop_drop, hm3, List.drop_drop]
          clear hpx hM
          have hO2 : Own ((((w2.setCell ⟨g, i * 4, none⟩ (.int .u32 xa)).setCell ⟨g, i * 4 + 1, none⟩ (.int .i64 xn)).setCell ⟨g, i * 4 + 2, none⟩ (.int .i64 xm)).setCell ⟨g, i * 4 + 3, none⟩ (.slice xA xh.length xC)).heap 66 4 (some ⟨g, 0, none⟩) n c ((m.set i ⟨xa, xn, xm, xh, xA, xC⟩).flatMap BestR.cells) (some g) := by
            have h0 := hO.fr hF02 (fun _ _ h => h)
            have hset := ((((h0.set rfl (i * 4) (.int .u32 xa)).set rfl (i * 4 + 1) (.int .i64 xn)).set rfl (i * 4 + 2) (.int .i64 xm)).set rfl (i * 4 + 3) (.slice xA xh.length xC))
            rw [dbest_set m i ⟨xa, xn, xm, xh, xA, xC⟩ (by have := hM'.out.1; simp at this; omega)] at hset
            exact hset
          have HO2 := Lib.hid hO2
          clear hO2 hO hbx HSET
          go_wp2
          go_roundw
          case rel => exact ⟨j + 1, i + 1, m.set i ⟨xa, xn, xm, xh, xA, xC⟩, by go_num, by go_num, by omega, by omega, HO2.out, hM', (((((hF.trans (hF02.none _)).setCell (fun _ => rfl) _).setCell (fun _ => rfl) _).setCell (fun _ => rfl) _).setCell (fun _ => rfl) _)⟩
          case measure => simp [intOf]; omega
        | true =>
          have hM' : Hid (m.length = n ∧ m.take i = (l.take (j + 1)).filter (fun x => !p x) ∧ m.drop (j + 1) = l.drop (j + 1)) := by
            obtain ⟨hm1, hm2, hm3⟩ := hM.out
            refine ⟨hm1, ?_, ?_⟩
            · rw [HTK.out, List.filter_append, ← hm2, ← HX.out]
              simp [hpx]
            · rw [← List.drop_drop, hm3, List.drop_drop]
          have hO2 := hO.fr hF02 (fun _ _ h => h)
          clear hpx hM hO hbx HSET
          go_wp2
          go_roundw
          case rel => exact ⟨j + 1, i, m, by go_num, rfl, by omega, by omega, hO2, hM', hF.trans (hF02.none _)⟩
          case measure => simp [intOf]; omega
      · obtain rfl : j = n := by omega
        have hcap := hO.cap
        have hne : ¬ c = i := by omega
        go_wp2_with (refine wpList_clr rfl _ 37 rfl Tryz.underlying37 zerodbest rfl (by simp [Value.cells, Value.oneCell']) (i := i) (m := j - i) rfl hO (by omega) (by omega) ?_)
        intro w3 hO3 hF3
        have htk : (m.flatMap BestR.cells).take (i * 4) = (l.filter fun x => !p x).flatMap BestR.cells := by
          obtain ⟨hm1, hm2, hm3⟩ := hM.out
          rw [flat_take BestR.cells 4 BestR.cells_len, hm2, List.take_of_length_le (by rw [HN.out]; omega)]
        rw [htk] at hO3
        have hml : i = (l.filter fun x => !p x).length := by
          have := hO3.len
          rw [flat_len _ 4 BestR.cells_len] at this
          omega
        have HML := Lib.hid hml
        have hF03 : Fr (fun k => some g = some k) w w3 := hF.trans (hF3.mono (fun k _ h => by rw [h]))
        clear hO hM htk hml hF3
        go_wp2
        go_ret
        exact ⟨some ⟨g, 0, none⟩, c, i, rfl, HML.out, hO3, hF03⟩
  · have hfl : l.filter (fun x => !p x) = l := List.filter_eq_self.2 (fun x hx => by
      obtain ⟨j, hj, rfl⟩ := List.getElem_of_mem hx
      have h1 := hno j hj
      rw [nth_eq l j hj] at h1
      simp [h1])
    have HFL := Lib.hid hfl
    clear hfl hno hO hL
    go_wp2
    go_ret
    exact ⟨a, c, n, rfl, by rw [HFL.out, HN.out], by rw [HFL.out]; exact hO1, hF1.none _⟩
end Go.Proofs.YtfglidaicjjpfaaGreatDoor
end

section
namespace Go.Proofs.YtfglidaicjjpfaaGreatDoor
open Go.RowKit Go.Maps

theorem bestD_bd {w : World} {base : Nat} {D : DC} {now : Int} {l : List Td} {bad : Int} (h : Dmn w base D now l bad) (q : Nt) : 1 ≤ (bestD D l q).1 ∧ (bestD D l q).1 ≤ 16 ∧ (bestD D l q).2.length ≤ 4 ∧ ∀ z ∈ (bestD D l q).2, 0 ≤ z ∧ z < D.costs.length := by
  unfold bestD
  split
  · exact ⟨by simp, by simp, by simp, fun _ hz => nomatch hz⟩
  · have hl : ∀ x ∈ hdL l, 1 ≤ x.m ∧ x.m ≤ 16 := fun x hx => by
      obtain ⟨y, hy, rfl⟩ := List.mem_map.1 hx
      have := h.ok.each y hy
      exact ⟨this.m0, this.m1⟩
    obtain ⟨p1, p2, p3, p4, -⟩ := chK_bd (fun i => lastO (hdL l) i q.a q.n) D.costs (fun i m hm => lastO_bd hl hm) (nearE_ok h.near).2 D.costs.length (Nat.le_refl _)
    exact ⟨by unfold bestM; omega, p2, p3, fun z hz => by have := p4 z hz; omega⟩
/-- The ways that there are. -/
structure TabR (D : DC) (l : List Td) (R : List BestR) : Prop where
  srt : NSorted (R.map bnet)
  mem : ∀ q : Nt, q ∈ R.map bnet ↔ (q ∈ D.own ∨ ∃ x ∈ l, (⟨x.a, x.n⟩ : Nt) = q) ∧ (bestD D l q).1 < 16
  val : ∀ r ∈ R, (r.m, r.h) = bestD D l (bnet r)
  len : R.length ≤ 89
def RetDTab (w : World) (D : DC) (l : List Td) (e : Ending) (w' : World) : Prop :=
  ∃ (R : List BestR) (aR : Option Addr) (cR : Nat) (ob : Option Nat), e = .returned (.slice aR R.length cR) ∧ Alls w.heap.size w'.heap R aR cR ob ∧ TabR D l R ∧ Fr (fun _ => False) w w'
set_option maxRecDepth 100000 in
theorem table1_any (x : BestR) (w : World) : Calls Tryz.prog 45 #[.agg #[.int .u32 x.a, .int .i64 x.n, .int .i64 x.m, .slice x.A x.h.length x.C]] w (RetV w (.bool (x.m == 16))) := by
  obtain ⟨xa, xn, xm, xh, xA, xC⟩ := x
  simp only
  generalize xh.length = xl
  go_enter Tryz.func45, Tryz.ntmps45
  go_wp2
  go_ret
  exact RetV.mk rfl rfl ((Fr.refl _ _).alloc _)
theorem tabR_of {w : World} {base : Nat} {D : DC} {now : Int} {l : List Td} {bad : Int} (h : Dmn w base D now l bad) {R : List BestR} (hR : AllR D l R) : TabR D l (R.filter fun x => !(x.m == 16)) := by
  have hm : ∀ r ∈ R, (bestD D l (bnet r)).1 = r.m := fun r hr => by rw [← hR.val r hr]
  refine ⟨?_, fun q => ?_, fun r hr => hR.val r (List.mem_filter.1 hr).1, Nat.le_trans (List.length_filter_le _ _) hR.len⟩
  · exact List.Pairwise.sublist ((List.filter_sublist).map bnet) hR.srt
  · rw [List.mem_map]
    have hbd := bestD_bd h q
    constructor
    · rintro ⟨r, hr, rfl⟩
      obtain ⟨h1, h2⟩ := List.mem_filter.1 hr
      refine ⟨(hR.mem _).1 (List.mem_map.2 ⟨r, h1, rfl⟩), ?_⟩
      have h3 := hm r h1
      have h4 : r.m ≠ 16 := by simpa using h2
      omega
    · rintro ⟨h1, h2⟩
      obtain ⟨r, hr, rfl⟩ := List.mem_map.1 ((hR.mem q).2 h1)
      refine ⟨r, List.mem_filter.2 ⟨hr, ?_⟩, rfl⟩
      have h3 := hm r hr
      have h4 : r.m ≠ 16 := by omega
      simpa using h4
theorem Alls.filter {base : Nat} {w w' : World} {R : List BestR} {a a' : Option Addr} {c c' : Nat} {ob : Option Nat} (h : Alls base w.heap R a c ob) (p : BestR → Bool) (hO : Own w'.heap 66 4 a' (R.filter p).length c' ((R.filter p).flatMap BestR.cells) ob) (hF : Fr (fun k => ob = some k) w w') : Alls base w'.heap (R.filter p) a' c' ob :=
  ⟨hO, h.new, fun x hx => by
    obtain ⟨o, h1, h2⟩ := h.row x (List.mem_filter.1 hx).1
    exact ⟨o, h1.fr hF (fun g hg e => (h2 g hg).2 e), h2⟩, h.pw.sublist List.filter_sublist⟩
set_option maxRecDepth 100000 in
set_option maxHeartbeats 2000000 in
theorem dtab_any {base : Nat} {D : DC} {now : Int} {l : List Td} {bad : Int} (w : World) (hD : Dmn w base D now l bad) :
    Calls Tryz.prog 9 #[.pointer (some ⟨D.bd, 0, none⟩)] w (RetDTab w D l) := by
  have H := Lib.hid hD
  go_enter Tryz.func9, Tryz.ntmps9
  go_wp2_with (fail)
  refine (dall_any w hD).mono ?_
  rintro e1 w1 ⟨R, aR, cR, ob, rfl, hA, hR, hF⟩
  have hle := hR.len
  have HR := Lib.hid hR
  have HA := Lib.hid hA
  obtain ⟨n, hn⟩ : ∃ n, n = R.length := ⟨_, rfl⟩
  have hO : Own w1.heap 66 4 aR n cR (R.flatMap BestR.cells) ob := by rw [hn]; exact hA.own
  rw [← hn] at hle
  rw [show (Value.slice aR R.length cR) = .slice aR n cR by rw [hn]]
  have HN := Lib.hid hn.symm
  clear hD hR hA hn
  go_wp2_with (fail)
  refine (dbest_del R (fun x => x.m == 16) aR cR ob w1 hO HN.out (by omega) (fun x _ w' _ => table1_any x w')).mono ?_
  rintro e2 w2 ⟨a2, c2, m2, rfl, hm2, hO2, hF2⟩
  subst hm2
  have HT := Lib.hid (tabR_of H.out HR.out)
  have HA2 := Lib.hid (HA.out.filter (fun x => !(x.m == 16)) hO2 hF2)
  have hFe : Fr (fun _ => False) w w2 := hF.trans' hF2 (fun q hq e => by have := HA.out.new q e; omega)
  generalize (R.filter fun x => !(x.m == 16)) = S at *
  clear hO2 hF2 hO
  go_wp2
  go_ret
  exact ⟨S, a2, c2, ob, rfl, HA2.out, HT.out, hFe⟩
end Go.Proofs.YtfglidaicjjpfaaGreatDoor
end

section
namespace Go.Proofs.YtfglidaicjjpfaaGreatDoor
open Go.RowKit
/-- An entry: a net, a tag, a hop, how far. -/
structure En where
  (a n t p m : Int)
deriving Inhabited, DecidableEq
abbrev En.cells (x : En) : List Value := [.int .u32 x.a, .int .i64 x.n, .int .i64 x.t, .int .u32 x.p, .int .i64 x.m]
theorem En.cells_len (x : En) : (En.cells x).length = 5 := rfl
theorem infoEn : (Tryz.prog.info? 87).map (fun i => (i.zero, i.size, i.bytes)) = some (some (.agg #[.int .u32 0, .int .i64 0, .int .i64 0, .int .u32 0, .int .i64 0]), 5, 40) := by kernel_rfl
theorem en_one (x : En) : ∀ u ∈ En.cells x, u.oneCell' = true := by simp [Value.oneCell']
end Go.Proofs.YtfglidaicjjpfaaGreatDoor
end

section
namespace Go.Proofs.YtfglidaicjjpfaaGreatDoor
open Go.RowKit
/-! ### Messages as bytes: the plain model -/
def entErr (e : En) : Option Int := match netErr e.a e.n with
  | some k => some k
  | none => if e.t < 0 ∨ 65535 < e.t ∨ e.m < 1 ∨ 16 < e.m then some 1 else none
def entsErr : List En → Option Int
  | [] => none
  | e :: l => match entErr e with
    | some k => some k
    | none => entsErr l
/-- What is wrong with a message. -/
def msgErr (l : List En) : Option Int := if 25 < l.length then some 4 else entsErr l
/-- A number in so many bytes. -/
def beB (n : Int) : Nat → List Int
  | 0 => []
  | k + 1 => n / 2 ^ (8 * k) % 256 :: beB n k
def entB (e : En) : List Int := beB 2 2 ++ beB e.t 2 ++ beB e.a 4 ++ beB (maskV e.n.toNat) 4 ++ beB e.p 4 ++ beB e.m 4
/-- The bytes of a message. -/
def encD (ask : Bool) (l : List En) : List Int := (if ask then 1 else 2) :: 2 :: 0 :: 0 :: l.flatMap entB
def numB (l : List Int) : Int := l.foldl (fun n c => n * 256 % 4294967296 + c) 0
def mlenO (m : Int) : Option Nat := (List.range 33).find? fun k => decide (maskV k = m)
/-- The entry of twenty bytes. -/
def entD (b : List Int) : Option En := match mlenO (numB ((b.drop 8).take 4)) with
  | none => none
  | some k => if numB (b.take 2) = 2 ∧ entErr ⟨numB ((b.drop 4).take 4), k, numB ((b.drop 2).take 2), numB ((b.drop 12).take 4), numB ((b.drop 16).take 4)⟩ = none then
      some ⟨numB ((b.drop 4).take 4), k, numB ((b.drop 2).take 2), numB ((b.drop 12).take 4), numB ((b.drop 16).take 4)⟩ else none
def baseF (p : List Int) : List Int := if 8 < p.length ∧ p.length < 12 ∧ nth p (p.length - 1) ≠ 255 then [0, 2, 0, 0, 0, 0, 0, 0, 0, 0, 0, 0, 0, 0, 0, 0, 0, 0, 0, 1] else [0, 2, 0, 0, 0, 0, 0, 0, 255, 255, 255, 255, 0, 0, 0, 0, 0, 0, 0, 1]
def filledD (p : List Int) : List Int := p ++ (baseF p).drop p.length
def headD (b : List Int) : List Int := if b.length < 4 then b ++ [2, 2, 0, 0].drop b.length else b
def headBad (b : List Int) : Prop := (nth b 0 ≠ 1 ∧ nth b 0 ≠ 2) ∨ nth b 1 ≠ 2 ∨ nth b 2 ≠ 0 ∨ nth b 3 ≠ 0
instance (b : List Int) : Decidable (headBad b) := by unfold headBad; infer_instance
/-- The entries of bytes, behind others. -/
def partsD : Nat → List Int → List En → Option (List En)
  | 0, _, acc => some acc
  | k + 1, rest, acc => if rest = [] then some acc else match entD (filledD (rest.take 20)) with
    | none => none
    | some e => if acc.length = 25 then none else partsD k (rest.drop 20) (acc ++ [e])
def shortD (b : List Int) : Prop := b.length < 4 ∨ (b.length - 4) % 20 ≠ 0
instance (b : List Int) : Decidable (shortD b) := by unfold shortD; infer_instance
/-- The message of bytes. -/
def decD (b : List Int) : Except Int (Bool × List En) := if headBad (headD b) then .error 3 else match partsD b.length ((headD b).drop 4) [] with
  | none => .error 3
  | some l => if shortD b then .error 6 else .ok (decide (nth (headD b) 0 = 1), l)

/-- Numbers that may stand in an entry. -/
def En.wf (e : En) : Prop := (0 ≤ e.a ∧ e.a < 4294967296) ∧ (0 ≤ e.p ∧ e.p < 4294967296)
theorem beB_len (n : Int) : ∀ k, (beB n k).length = k
  | 0 => rfl
  | k + 1 => by rw [beB, List.length_cons, beB_len n k]
theorem beB_bd (n : Int) : ∀ k, ∀ x ∈ beB n k, 0 ≤ x ∧ x < 256
  | 0 => fun x hx => nomatch hx
  | k + 1 => fun x hx => by
    rcases List.mem_cons.1 hx with rfl | hx
    · omega
    · exact beB_bd n k x hx
theorem entB_len (e : En) : (entB e).length = 20 := by simp [entB, beB_len]
theorem entB_bd (e : En) : ∀ x ∈ entB e, 0 ≤ x ∧ x < 256 := by
  intro x hx
  unfold entB at hx
  simp only [List.mem_append] at hx
  rcases hx with ((((h | h) | h) | h) | h) | h <;> exact beB_bd _ _ x h
theorem encD_bd (ask : Bool) (l : List En) : ∀ x ∈ encD ask l, 0 ≤ x ∧ x < 256 := by
  intro x hx
  unfold encD at hx
  simp only [List.mem_cons, List.mem_flatMap] at hx
  rcases hx with rfl | rfl | rfl | rfl | ⟨e, _, h⟩
  · cases ask <;> decide
  · decide
  · decide
  · decide
  · exact entB_bd e x h
theorem flat_entB_len : ∀ l : List En, (l.flatMap entB).length = 20 * l.length
  | [] => rfl
  | e :: l => by rw [List.flatMap_cons, List.length_append, entB_len, flat_entB_len l, List.length_cons]; omega
theorem encD_len (ask : Bool) (l : List En) : (encD ask l).length = 4 + 20 * l.length := by
  unfold encD
  simp only [List.length_cons, flat_entB_len]
  omega
theorem numB4 (n : Int) (h : 0 ≤ n ∧ n < 4294967296) : numB (beB n 4) = n := by
  simp only [beB, numB, List.foldl_cons, List.foldl_nil, Nat.reduceMul, Nat.mul_zero, Nat.mul_one, Int.reducePow, Int.pow_zero]
  omega
theorem numB2 (n : Int) (h : 0 ≤ n ∧ n < 65536) : numB (beB n 2) = n := by
  simp only [beB, numB, List.foldl_cons, List.foldl_nil, Nat.reduceMul, Nat.mul_zero, Nat.mul_one, Int.reducePow, Int.pow_zero]
  omega
theorem maskV_bd (k : Nat) : 0 ≤ maskV k ∧ maskV k < 4294967296 := by unfold maskV; omega
theorem mlenO_mask : ∀ k, k < 33 → mlenO (maskV k) = some k := by decide +kernel
theorem mlenO_some {m : Int} {k : Nat} (h : mlenO m = some k) : k ≤ 32 ∧ maskV k = m := by
  have h1 := List.find?_some h
  have h2 := List.mem_of_find?_eq_some h
  exact ⟨by have := List.mem_range.1 h2; omega, of_decide_eq_true h1⟩
theorem mlenO_none {m : Int} (h : mlenO m = none) : ∀ k, k ≤ 32 → maskV k ≠ m := by
  intro k hk e
  have := List.find?_eq_none.1 h k (List.mem_range.2 (by omega))
  exact this (decide_eq_true e)
theorem netErr_rng {a n : Int} (h : netErr a n = none) : 0 ≤ n ∧ n ≤ 32 := by
  unfold netErr at h
  split at h
  · cases h
  · omega
theorem entErr_ok {e : En} (h : entErr e = none) : netErr e.a e.n = none ∧ 0 ≤ e.t ∧ e.t ≤ 65535 ∧ 1 ≤ e.m ∧ e.m ≤ 16 := by
  unfold entErr at h
  split at h
  · cases h
  · rename_i hn
    split at h
    · cases h
    · exact ⟨hn, by omega, by omega, by omega, by omega⟩
theorem take_cut {α : Type} (a b : List α) (k : Nat) (h : a.length = k) : (a ++ b).take k = a := by subst h; simp
theorem drop_cut {α : Type} (a b : List α) (k : Nat) (h : a.length = k) : (a ++ b).drop k = b := by subst h; simp
theorem entD_entB {e : En} (hw : En.wf e) (h : entErr e = none) : entD (entB e) = some e := by
  obtain ⟨h1, h2, h3, h4, h5⟩ := entErr_ok h
  obtain ⟨n1, n2⟩ := netErr_rng h1
  obtain ⟨a, n, t, p, m⟩ := e
  simp only at h1 h2 h3 h4 h5 n1 n2
  obtain ⟨k, rfl⟩ := Int.eq_ofNat_of_zero_le n1
  have q1 : (entB ⟨a, (k : Int), t, p, m⟩).take 2 = beB 2 2 := by
    unfold entB; simp only [List.append_assoc]; exact take_cut _ _ 2 (beB_len _ _)
  have d2 : (entB ⟨a, (k : Int), t, p, m⟩).drop 2 = beB t 2 ++ (beB a 4 ++ (beB (maskV k) 4 ++ (beB p 4 ++ beB m 4))) := by
    unfold entB; simp only [List.append_assoc, Int.toNat_natCast]; exact drop_cut _ _ 2 (beB_len _ _)
  have d4 : (entB ⟨a, (k : Int), t, p, m⟩).drop 4 = beB a 4 ++ (beB (maskV k) 4 ++ (beB p 4 ++ beB m 4)) := by
    rw [show (4 : Nat) = 2 + 2 from rfl, ← List.drop_drop, d2]; exact drop_cut _ _ 2 (beB_len _ _)
  have d8 : (entB ⟨a, (k : Int), t, p, m⟩).drop 8 = beB (maskV k) 4 ++ (beB p 4 ++ beB m 4) := by
    rw [show (8 : Nat) = 4 + 4 from rfl, ← List.drop_drop, d4]; exact drop_cut _ _ 4 (beB_len _ _)
  have d12 : (entB ⟨a, (k : Int), t, p, m⟩).drop 12 = beB p 4 ++ beB m 4 := by
    rw [show (12 : Nat) = 8 + 4 from rfl, ← List.drop_drop, d8]; exact drop_cut _ _ 4 (beB_len _ _)
  have d16 : (entB ⟨a, (k : Int), t, p, m⟩).drop 16 = beB m 4 := by
    rw [show (16 : Nat) = 12 + 4 from rfl, ← List.drop_drop, d12]; exact drop_cut _ _ 4 (beB_len _ _)
  unfold entD
  rw [q1, d2, d4, d8, d12, d16, take_cut _ _ 2 (beB_len _ _), take_cut _ _ 4 (beB_len _ _), take_cut _ _ 4 (beB_len _ _), take_cut _ _ 4 (beB_len _ _),
    List.take_of_length_le (by rw [beB_len]; omega), numB2 2 (by omega), numB2 t (by omega), numB4 a hw.1, numB4 (maskV k) (maskV_bd k), numB4 p hw.2, numB4 m (by omega), mlenO_mask k (by omega)]
  simp only
  rw [if_pos ⟨trivial, h⟩]
theorem baseF_len (p : List Int) : (baseF p).length = 20 := by unfold baseF; split <;> rfl
theorem filledD_len (p : List Int) (h : p.length ≤ 20) : (filledD p).length = 20 := by
  unfold filledD; rw [List.length_append, List.length_drop, baseF_len]; omega
theorem filledD_whole (p : List Int) (h : p.length = 20) : filledD p = p := by
  unfold filledD; rw [List.drop_of_length_le (by rw [baseF_len]; omega), List.append_nil]
theorem entsErr_ok {l : List En} (h : entsErr l = none) : ∀ e ∈ l, entErr e = none := by
  induction l with
  | nil => exact fun _ h => nomatch h
  | cons x l ih =>
    unfold entsErr at h
    split at h
    · cases h
    · intro e he
      rcases List.mem_cons.1 he with rfl | he
      · assumption
      · exact ih h e he
theorem msgErr_ok {l : List En} (h : msgErr l = none) : l.length ≤ 25 ∧ ∀ e ∈ l, entErr e = none := by
  unfold msgErr at h
  split at h
  · cases h
  · exact ⟨by omega, entsErr_ok h⟩
theorem partsD_enc : ∀ (l : List En) (k : Nat) (acc : List En), (∀ e ∈ l, En.wf e ∧ entErr e = none) → l.length ≤ k → acc.length + l.length ≤ 25 → partsD k (l.flatMap entB) acc = some (acc ++ l)
  | [], k, acc, _, _, _ => by
    cases k with
    | zero => simp [partsD]
    | succ k => simp [partsD]
  | e :: l, k, acc, h, hk, ha => by
    obtain ⟨j, rfl⟩ : ∃ j, k = j + 1 := ⟨k - 1, by simp only [List.length_cons] at hk; omega⟩
    obtain ⟨h1, h2⟩ := h e (by simp)
    have hne : ¬ entB e ++ l.flatMap entB = [] := fun hh => by
      have := congrArg List.length hh
      rw [List.length_append, entB_len] at this
      simp only [List.length_nil] at this; omega
    simp only [List.length_cons] at hk ha
    rw [List.flatMap_cons, partsD, if_neg hne, take_cut _ _ 20 (entB_len e), drop_cut _ _ 20 (entB_len e), filledD_whole _ (entB_len e), entD_entB h1 h2]
    simp only
    rw [if_neg (by omega), partsD_enc l j (acc ++ [e]) (fun x hx => h x (by simp [hx])) (by omega) (by simp only [List.length_append, List.length_singleton]; omega)]
    simp
/-- What was encoded is decoded. -/
theorem decD_encD (ask : Bool) (l : List En) (hw : ∀ e ∈ l, En.wf e) (h : msgErr l = none) : decD (encD ask l) = .ok (ask, l) := by
  obtain ⟨h1, h2⟩ := msgErr_ok h
  have hl := encD_len ask l
  have hh : headD (encD ask l) = encD ask l := by unfold headD; rw [if_neg (by omega)]
  have hd : (encD ask l).drop 4 = l.flatMap entB := rfl
  have hb : ¬ headBad (encD ask l) := by
    unfold headBad encD nth
    cases ask <;> simp
  have hs : ¬ shortD (encD ask l) := by unfold shortD; rw [hl]; omega
  have h0 : decide (nth (encD ask l) 0 = 1) = ask := by unfold encD nth; cases ask <;> simp
  unfold decD
  rw [hh, if_neg hb, hd, partsD_enc l _ [] (fun e he => ⟨hw e he, h2 e he⟩) (by omega) (by simpa using h1)]
  simp only
  rw [if_neg hs, h0]
  rfl
end Go.Proofs.YtfglidaicjjpfaaGreatDoor
end

section
namespace Go.Proofs
open Go.Shelf
def Tryz.bitsLz_ren : Go.Shelf.Ren := ⟨fun | 133 => 95 | 128 => 110 | n => n, fun | 51 => 50 | 3 => 3 | 4 => 4 | 46 => 143 | 5 => 5 | 9 => 9 | n => n, fun | n => n⟩
theorem Tryz.bitsLz : Go.Proofs.Lays.n133 Tryz.prog Tryz.bitsLz_ren := {
  mixed := by kernel_rfl
  f128 := Tryz.func110.trans (congrArg some (by kernel_rfl))
  f133 := Tryz.func95.trans (congrArg some (by kernel_rfl))
  t3 := Tryz.underlying3
  a3 := Tryz.isAgg3
  z3 := Tryz.sizeOf3
  v3 := Tryz.zeroValue3
  t4 := Tryz.underlying4
  a4 := Tryz.isAgg4
  z4 := Tryz.sizeOf4
  v4 := Tryz.zeroValue4
  t5 := Tryz.underlying5
  a5 := Tryz.isAgg5
  z5 := Tryz.sizeOf5
  v5 := Tryz.zeroValue5
  t9 := Tryz.underlying9
  a9 := Tryz.isAgg9
  z9 := Tryz.sizeOf9
  v9 := Tryz.zeroValue9
  t46 := Tryz.underlying143
  a46 := Tryz.isAgg143
  z46 := Tryz.sizeOf143
  v46 := Tryz.zeroValue143
  t51 := Tryz.underlying50
  a51 := Tryz.isAgg50
  z51 := Tryz.sizeOf50
  v51 := Tryz.zeroValue50
  }

end Go.Proofs
namespace Go.Proofs.YtfglidaicjjpfaaGreatDoor
open Go.RowKit
theorem lz32_any (x : Int) (w : World) (h0 : 0 ≤ x) (h1 : x ≤ 4294967295) :
    Calls Tryz.prog 95 #[.int .u32 x] w fun e w' => e = .returned (.int .i64 (32 - (Lib.bitLen x.toNat : Int))) ∧ w' = w := Any.bits_LeadingZeros32 Tryz.bitsLz x w h0 h1
end Go.Proofs.YtfglidaicjjpfaaGreatDoor
end

section
namespace Go.Proofs.YtfglidaicjjpfaaGreatDoor
open Go.RowKit
theorem infoU8 : (Tryz.prog.info? 5).map (fun i => (i.zero, i.size, i.bytes)) = some (some (.int .u8 0), 1, 1) := by kernel_rfl
/-! ### masks -/
theorem xor_full {m : Int} (h : 0 ≤ m ∧ m < 4294967296) : bits .xor .u32 IntKind.u32.max m = 4294967295 - m := by
  have e : IntKind.u32.max = 4294967295 := by decide
  rw [e, u32_xor 4294967295 m (by decide) (by decide) h.1 h.2]
  obtain ⟨M, rfl⟩ := Int.eq_ofNat_of_zero_le h.1
  have hM : M < 2 ^ 32 := by omega
  have h1 : (4294967295 : Nat) ^^^ M = 4294967295 - M := by
    have h2 := congrArg BitVec.toNat (BitVec.allOnes_xor (x := BitVec.ofNat 32 M))
    rw [BitVec.toNat_xor, BitVec.toNat_allOnes, BitVec.toNat_not, BitVec.toNat_ofNat, Nat.mod_eq_of_lt hM] at h2
    exact h2
  rw [show (4294967295 : Int).toNat = 4294967295 from rfl, Int.toNat_natCast, h1]
  omega
theorem mlen_lz : ∀ k, k < 33 → 32 - (Lib.bitLen (4294967295 - maskV k).toNat : Int) = k := by decide +kernel
/-- How long a mask is. -/
def RetMlen (w : World) (r : Option Nat) (e : Ending) (w' : World) : Prop := (match r with
  | some k => e = .returned (.tuple #[.int .i64 k, .nilIface])
  | none => e = .returned (.tuple #[.int .i64 0, errv 3])) ∧ w' = w
theorem RetMlen.some' {w : World} {r : Option Nat} {e : Ending} {w' : World} {k : Nat} (hr : r = some k) (h : e = .returned (.tuple #[.int .i64 k, .nilIface])) (hw : w' = w) : RetMlen w r e w' := by subst hr; exact ⟨h, hw⟩
theorem RetMlen.none' {w : World} {r : Option Nat} {e : Ending} {w' : World} (hr : r = none) (h : e = .returned (.tuple #[.int .i64 0, errv 3])) (hw : w' = w) : RetMlen w r e w' := by subst hr; exact ⟨h, hw⟩
set_option maxRecDepth 100000 in
set_option maxHeartbeats 1000000 in
theorem masklen_any (m : Int) (w : World) (hm : 0 ≤ m ∧ m < 4294967296) : Calls Tryz.prog 77 #[.int .u32 m] w (RetMlen w (mlenO m)) := by
  obtain ⟨R, hR⟩ : ∃ R, R = mlenO m := ⟨_, rfl⟩
  rw [← hR]
  have HR := Lib.hid hR
  have hl := Any.bitLen_le32 (4294967295 - m) (by omega) (by omega)
  obtain ⟨k, hk⟩ : ∃ k : Nat, 32 - (Lib.bitLen (4294967295 - m).toNat : Int) = k := ⟨32 - Lib.bitLen (4294967295 - m).toNat, by omega⟩
  have hk32 : k ≤ 32 := by omega
  have HK := Lib.hid hk
  have hx := xor_full hm
  clear hR hl hk
  go_enter Tryz.func77, Tryz.ntmps77
  go_wp2_with (fail)
  refine (lz32_any (4294967295 - m) _ (by omega) (by omega)).mono ?_
  rintro e1 w1 ⟨rfl, rfl⟩
  rw [HK.out]
  clear hx
  go_wp2_with (fail)
  refine (mask_ok k w1 hk32).mono ?_
  rintro e2 w2 ⟨rfl, rfl⟩
  by_cases hmk : maskV k = m
  · have HM := Lib.hid (show R = some k by rw [HR.out, ← hmk]; exact mlenO_mask k (by omega))
    have e1 : (maskV k != m) = false := by simp [hmk]
    clear hmk
    go_wp2
    go_ret2
    exact RetMlen.some' HM.out rfl rfl
  · have HM := Lib.hid (show R = none by
      rw [HR.out]
      cases ho : mlenO m with
      | none => rfl
      | some j =>
        obtain ⟨h1, h2⟩ := mlenO_some ho
        have h3 := mlen_lz j (by omega)
        rw [h2, HK.out] at h3
        have : k = j := by omega
        subst this
        exact absurd h2 hmk)
    have e1 : (maskV k != m) = true := by simp [hmk]
    clear hmk
    go_wp2
    go_ret2
    exact RetMlen.none' HM.out rfl rfl

/-! ### what is wrong with a message -/
theorem errO_eq (r : Option Int) : errO r = match r with | none => .nilIface | some k => errv k := by cases r <;> rfl
set_option maxRecDepth 100000 in
set_option maxHeartbeats 4000000 in
theorem wcheck_any {M : Nat} (ask : Bool) (l : List En) (al : Option Addr) (cl : Nat) (w : World) (hL : Recs w.heap al 5 En.cells l) (hw : ∀ e ∈ l, En.wf e) (hll : l.length ≤ 9223372036854775806) (hM : M = l.length) :
    Calls Tryz.prog 36 #[.agg #[.bool ask, .slice al M cl]] w (RetV w (errO (msgErr l))) := by
  subst hM
  obtain ⟨R, hR⟩ : ∃ R, R = msgErr l := ⟨_, rfl⟩
  rw [← hR]
  have HR := Lib.hid hR
  have HL := Lib.hid hL
  have HW := Lib.hid hw
  clear hR hL hw
  have hB := Blk.made w 26 [.bool ask, .slice al l.length cl]
  have b1 := hB.cell 1
  have bl := hB.lt
  have hF0 := (Fr.refl (fun _ => False) w).alloc (.cells #[.bool ask, .slice al l.length cl] 26)
  simp only [List.getElem?_cons_succ, List.getElem?_cons_zero] at b1
  clear hB
  go_enter Tryz.func36, Tryz.ntmps36
  by_cases h25 : 25 < l.length
  · have HX := Lib.hid (show R = some 4 by rw [HR.out]; unfold msgErr; rw [if_pos h25])
    go_wp2
    go_ret
    exact RetV.mk (show errv 4 = _ by rw [HX.out]; rfl) rfl hF0
  · have HX := Lib.hid (show R = entsErr l by rw [HR.out]; unfold msgErr; rw [if_neg h25])
    go_wp2
    go_loopw [14] (fun s14 wr => ∃ k : Nat, k ≤ l.length ∧ s14 = .int .i64 k ∧ Fr (fun _ => False) w wr ∧ Hid (R = entsErr (l.drop k))) (fun s _ => l.length - (intOf s).toNat)
    case atStart => exact ⟨0, by omega, rfl, hF0, Lib.hid HX.out⟩
    case round =>
      clear hF0 b1 bl
      obtain ⟨k, hk, rfl, hF, hE⟩ := hrel
      by_cases hkl : k < l.length
      · obtain ⟨g, o, rfl, hgl, hc⟩ := Recs.pos HL.out En.cells_len (by omega) (by omega)
        have dd := fun (j : Nat) (hj : j < 5) => (hF.cell (p := ⟨g, o + (k * 5 + j), none⟩) hgl (fun h => h)).trans (hc w rfl k j hkl hj)
        have d0 := dd 0 (by omega)
        have d1 := dd 1 (by omega)
        have d2 := dd 2 (by omega)
        have d3 := dd 3 (by omega)
        have d4 := dd 4 (by omega)
        have hx := HW.out _ (nth_mem l k hkl)
        have hD := drop_nth l k hkl
        generalize nth l k = x at *
        have hE1 : R = match entErr x with
          | some q => some q
          | none => entsErr (l.drop (k + 1)) := by rw [hE.out, hD]; rfl
        obtain ⟨xa, xn, xt, xp, xm⟩ := x
        simp only [En.cells, List.getElem?_cons_zero, List.getElem?_cons_succ, ← Nat.add_assoc, Nat.add_zero] at d0 d1 d2 d3 d4
        have HE1 := Lib.hid hE1
        have hFx := hF.alloc (.cells #[.int .u32 xa, .int .i64 xn, .int .i64 xt, .int .u32 xp, .int .i64 xm] 87)
        have hBx := Blk.made wr 87 [.int .u32 xa, .int .i64 xn, .int .i64 xt, .int .u32 xp, .int .i64 xm]
        have c0 := hBx.cell 0
        have c1 := hBx.cell 1
        have cl0 := hBx.lt
        simp only [List.getElem?_cons_succ, List.getElem?_cons_zero] at c0 c1
        have hgl' := Nat.lt_of_lt_of_le hgl hF.size
        clear dd hc hD hE1 hF
        go_wp2_with (fail)
        refine (pcheck_any xa xn _ hx.1).mono ?_
        rintro e1 w1 ⟨rfl, hF1⟩
        have hF01 := hFx.trans hF1
        have hB1 := hBx.fr hF1 (fun h => h)
        have c2 := hB1.cell 2
        have c4 := hB1.cell 4
        have cl1 := hB1.lt
        simp only [List.getElem?_cons_succ, List.getElem?_cons_zero] at c2 c4
        clear hFx hBx hF1 hB1 c0 c1 cl0 d0 d1 d2 d3 d4
        cases hne : netErr xa xn with
        | some q =>
          have HX2 := Lib.hid (show R = some q by rw [HE1.out]; unfold entErr; simp only [hne])
          rw [show errO (some q) = errv q from rfl]
          clear hne
          go_wp2
          go_ret
          exact RetV.mk (show errv q = _ by rw [HX2.out]; rfl) rfl hF01
        | none =>
          have HNE := Lib.hid hne
          rw [show errO none = .nilIface from rfl]
          clear hne
          by_cases hb : xt < 0 ∨ 65535 < xt ∨ xm < 1 ∨ 16 < xm
          · have HX2 := Lib.hid (show R = some 1 by rw [HE1.out]; unfold entErr; simp only [HNE.out]; rw [if_pos hb])
            have hb2 : xt < 0 ∨ (0 ≤ xt ∧ 65535 < xt) ∨ (0 ≤ xt ∧ xt ≤ 65535 ∧ xm < 1) ∨ (0 ≤ xt ∧ xt ≤ 65535 ∧ 1 ≤ xm ∧ 16 < xm) := by omega
            clear hb
            rcases hb2 with t1 | ⟨t1, t2⟩ | ⟨t1, t2, t3⟩ | ⟨t1, t2, t3, t4⟩
            all_goals
              go_wp2
              go_ret
              exact RetV.mk (show errv 1 = _ by rw [HX2.out]; rfl) rfl hF01
          · have HX2 := Lib.hid (show R = entsErr (l.drop (k + 1)) by rw [HE1.out]; unfold entErr; simp only [HNE.out]; rw [if_neg hb])
            obtain ⟨t1, t2, t3, t4⟩ : 0 ≤ xt ∧ xt ≤ 65535 ∧ 1 ≤ xm ∧ xm ≤ 16 := by omega
            clear hb
            go_wp2
            go_roundw
            case rel => exact ⟨k + 1, by omega, by go_num, hF01, HX2⟩
            case measure => simp [intOf]; omega
      · obtain rfl : k = l.length := by omega
        have HX2 := Lib.hid (show R = none by rw [hE.out, List.drop_length]; rfl)
        clear hE
        go_wp2
        go_ret
        exact RetV.mk (show Value.nilIface = _ by rw [HX2.out]; rfl) rfl hF

/-! ### numbers -/
theorem or_small {x c : Int} (h0 : 0 ≤ x) (h1 : x < 4294967296) (hx : x % 256 = 0) (c0 : 0 ≤ c) (c1 : c < 256) : bits .or .u32 x c = x + c := by
  rw [u32_or x c h0 h1 c0 (by omega)]
  obtain ⟨X, rfl⟩ := Int.eq_ofNat_of_zero_le h0
  obtain ⟨K, rfl⟩ := Int.eq_ofNat_of_zero_le c0
  have hd : X = (X / 256) <<< 8 := by rw [Nat.shiftLeft_eq]; omega
  have := Nat.shiftLeft_add_eq_or_of_lt (show K < 2 ^ 8 by omega) (X / 256)
  rw [← hd] at this
  simp only [Int.toNat_natCast]
  rw [← this]
  simp
theorem numB_snoc (l : List Int) (x : Int) : numB (l ++ [x]) = numB l * 256 % 4294967296 + x := by unfold numB; rw [List.foldl_append]; rfl
theorem numB_bd {l : List Int} (h : ∀ x ∈ l, 0 ≤ x ∧ x < 256) : 0 ≤ numB l ∧ numB l < 4294967296 := by
  have key : ∀ (l : List Int) (n : Int), (∀ x ∈ l, 0 ≤ x ∧ x < 256) → 0 ≤ n ∧ n < 4294967296 → 0 ≤ l.foldl (fun n c => n * 256 % 4294967296 + c) n ∧ l.foldl (fun n c => n * 256 % 4294967296 + c) n < 4294967296 := by
    intro l
    induction l with
    | nil => intro n _ hn; exact hn
    | cons x l ih =>
      intro n hl hn
      rw [List.foldl_cons]
      have := hl x (by simp)
      exact ih _ (fun y hy => hl y (by simp [hy])) (by omega)
  exact key l 0 h (by decide)
set_option maxRecDepth 100000 in
set_option maxHeartbeats 1000000 in
theorem number_any {M : Nat} (l : List Int) (a : Option Addr) (c : Nat) (w : World) (hL : Rd w.heap a M 1 (ivals .u8 l)) (hb : ∀ x ∈ l, 0 ≤ x ∧ x < 256) (hl : l.length ≤ 9223372036854775806) (hM : M = l.length) :
    Calls Tryz.prog 78 #[.slice a M c] w (RetQ w (.int .u32 (numB l))) := by
  subst hM
  have HB := Lib.hid hb
  clear hb
  go_enter Tryz.func78, Tryz.ntmps78
  go_wp2
  go_loopw [8, 3] (fun s8 s3 wr => ∃ (k : Nat) (n : Int), k ≤ l.length ∧ s8 = .int .i64 k ∧ s3 = .int .u32 n ∧ wr = w ∧ Hid (n = numB (l.take k)) ∧ 0 ≤ n ∧ n < 4294967296) (fun s _ _ => l.length - (intOf s).toNat)
  case atStart => exact ⟨0, 0, by omega, rfl, rfl, rfl, Lib.hid rfl, by omega, by omega⟩
  case round =>
    obtain ⟨k, n, hk, rfl, rfl, rfl, hE, n0, n1⟩ := hrel
    by_cases hkl : k < l.length
    · obtain ⟨g, o, rfl, hgl, hc⟩ := Ints.pos hL (by omega)
      have d0 := hc wr rfl k hkl
      have hx := HB.out _ (nth_mem l k hkl)
      have hT : numB (l.take (k + 1)) = n * 256 % 4294967296 + nth l k := by rw [take_succ_nth l k hkl, numB_snoc, hE.out]
      have hbd := numB_bd (l := l.take (k + 1)) (fun x hx => HB.out x (List.mem_of_mem_take hx))
      rw [hT] at hbd
      generalize nth l k = x at *
      have HT := Lib.hid hT
      have ho := or_small (x := n * 256 % 4294967296) (c := x) (by omega) (by omega) (by omega) hx.1 hx.2
      clear hc hT
      go_wp2
      go_roundw
      case rel => exact ⟨k + 1, n * 256 % 4294967296 + x, by omega, by go_num, (by first | rfl | trivial), (by first | rfl | trivial), Lib.hid HT.out.symm, hbd.1, hbd.2⟩
      case measure => simp [intOf]; omega
    · obtain rfl : k = l.length := by omega
      rw [List.take_length] at hE
      go_wp2
      go_ret
      exact RetQ.mk (x := .int .u32 n) (by rw [hE.out]) rfl 0 rfl
end Go.Proofs.YtfglidaicjjpfaaGreatDoor
end

section
namespace Go.Proofs.YtfglidaicjjpfaaGreatDoor
open Go.RowKit
/-- Bytes put behind others. -/
def RetPut (w : World) (xs : List Int) (ys : List Int) (N : Nat) (ob : Option Nat) (e : Ending) (w' : World) : Prop :=
  ∃ a c ob', e = .returned (.slice a N c) ∧ Own w'.heap 5 1 a N c (ivals .u8 (xs ++ ys)) ob' ∧ Fr (fun k => ob = some k) w w' ∧ (ob' = ob ∨ ∃ g, ob' = some g ∧ w.heap.size ≤ g)
theorem ivals_app (k : IntKind) (a b : List Int) : ivals k a ++ ivals k b = ivals k (a ++ b) := by simp [ivals]
theorem ivals_u8_one (k : IntKind) (l : List Int) : ∀ u ∈ ivals k l, u.oneCell' = true := ivals_one k l

set_option maxRecDepth 100000 in
set_option maxHeartbeats 4000000 in
theorem put2_any {M : Nat} {a : Option Addr} {c : Nat} {ob : Option Nat} (xs : List Int) (n : Int) (w : World) (hO : Own w.heap 5 1 a M c (ivals .u8 xs) ob) (hn : 0 ≤ n ∧ n < 4294967296) (hM : M ≤ 1000000) :
    Calls Tryz.prog 38 #[.slice a M c, .int .u32 n, .int .i64 2] w (RetPut w xs (beB n 2) (M + 2) ob) := by
  go_enter Tryz.func38, Tryz.ntmps38
  go_wp2
  go_loopw [7, 0] (fun s7 s0 wr => ∃ (s : Int) (i : Nat) (a' : Option Addr) (c' : Nat) (ob' : Option Nat), s7 = .int .i64 s ∧ ((s = 8 ∧ i = 0) ∨ (s = 0 ∧ i = 1) ∨ (s = -8 ∧ i = 2)) ∧ s0 = .slice a' (M + i) c' ∧ Own wr.heap 5 1 a' (M + i) c' (ivals .u8 (xs ++ (beB n 2).take i)) ob' ∧ Fr (fun k => ob = some k) w wr ∧ (ob' = ob ∨ ∃ g, ob' = some g ∧ w.heap.size ≤ g)) (fun s _ _ => (intOf s + 8).toNat)
  case atStart => exact ⟨8, 0, a, c, ob, rfl, by omega, rfl, by simpa using hO, Fr.refl _ _, .inl rfl⟩
  case round =>
    obtain ⟨s, i, a', c', ob', rfl, hs, rfl, hO1, hF, hob⟩ := hrel
    have hwsz := hF.size
    rcases hs with ⟨rfl, rfl⟩ | ⟨rfl, rfl⟩ | ⟨rfl, rfl⟩
    · have hv : n / 2 ^ (8 * 1) % 256 = n / 256 % 256 := by
        rw [show (2 : Int) ^ (8 * 1) = 256 by decide]
        try omega
      obtain ⟨zs, hzs⟩ : ∃ zs, zs = xs ++ (beB n 2).take 0 := ⟨_, rfl⟩
      obtain ⟨N, hN⟩ : ∃ N, N = M + 0 := ⟨_, rfl⟩
      rw [← hzs, ← hN] at hO1
      rw [← hN]
      have hN1 : N ≤ 1000004 := by omega
      have HE := Lib.hid (show ivals .u8 (xs ++ (beB n 2).take (0 + 1)) = ivals .u8 zs ++ [.int .u8 (n / 256 % 256)] by
        rw [show (beB n 2).take (0 + 1) = (beB n 2).take 0 ++ [n / 2 ^ (8 * 1) % 256] from rfl, hv, hzs]
        simp [ivals])
      have HN := Lib.hid hN
      have hrd := rd_lit wr 5 [.int .u8 (n / 256 % 256)]
      have hOa := hO1.alloc (.cells #[.int .u8 (n / 256 % 256)] 5)
      have hFa := hF.alloc (.cells #[.int .u8 (n / 256 % 256)] 5)
      clear hv hzs hN
      go_wp2_with (at_builtin; refine wpList_app rfl _ _ 27 rfl Tryz.underlying27 infoU8 rfl (by decide) rfl rfl hOa hrd (by simp [Value.oneCell']) (by omega) (by omega) ?_)
      intro a8 c8 w8 ob8 v1 v2 v3
      have hF8 : Fr (fun k => ob = some k) w w8 := hFa.trans' v2 (fun i hi e => by
        rcases hob with h | ⟨g, h, h2⟩
        · rw [← h]; exact e
        · rw [h] at e; cases e; omega)
      have hsa : (wr.alloc (.cells #[.int .u8 (n / 256 % 256)] 5)).heap.size = wr.heap.size + 1 := by simp
      have hob8 : ob8 = ob ∨ ∃ g, ob8 = some g ∧ w.heap.size ≤ g := by
        rcases v3 with h | ⟨g, h, h2⟩
        · rw [h]; exact hob
        · exact .inr ⟨g, h, by omega⟩
      have v1' : Own w8.heap 5 1 a8 (M + (0 + 1)) c8 (ivals .u8 (xs ++ (beB n 2).take (0 + 1))) ob8 := by
        rw [HE.out, show M + (0 + 1) = N + 1 by have := HN.out; omega]; exact v1
      clear v1 v2 v3 hOa hrd hFa hO1 hF hob
      go_wp2
      go_roundw
      case rel => exact ⟨0, 0 + 1, a8, c8, ob8, by go_num, by omega, by rw [show M + (0 + 1) = N + 1 by have := HN.out; omega], v1', hF8, hob8⟩
      case measure => simp [intOf]
    · have hv : n / 2 ^ (8 * 0) % 256 = n % 256 := by
        rw [show (2 : Int) ^ (8 * 0) = 1 by decide]
        try omega
      obtain ⟨zs, hzs⟩ : ∃ zs, zs = xs ++ (beB n 2).take 1 := ⟨_, rfl⟩
      obtain ⟨N, hN⟩ : ∃ N, N = M + 1 := ⟨_, rfl⟩
      rw [← hzs, ← hN] at hO1
      rw [← hN]
      have hN1 : N ≤ 1000004 := by omega
      have HE := Lib.hid (show ivals .u8 (xs ++ (beB n 2).take (1 + 1)) = ivals .u8 zs ++ [.int .u8 (n % 256)] by
        rw [show (beB n 2).take (1 + 1) = (beB n 2).take 1 ++ [n / 2 ^ (8 * 0) % 256] from rfl, hv, hzs]
        simp [ivals])
      have HN := Lib.hid hN
      have hrd := rd_lit wr 5 [.int .u8 (n % 256)]
      have hOa := hO1.alloc (.cells #[.int .u8 (n % 256)] 5)
      have hFa := hF.alloc (.cells #[.int .u8 (n % 256)] 5)
      clear hv hzs hN
      go_wp2_with (at_builtin; refine wpList_app rfl _ _ 27 rfl Tryz.underlying27 infoU8 rfl (by decide) rfl rfl hOa hrd (by simp [Value.oneCell']) (by omega) (by omega) ?_)
      intro a8 c8 w8 ob8 v1 v2 v3
      have hF8 : Fr (fun k => ob = some k) w w8 := hFa.trans' v2 (fun i hi e => by
        rcases hob with h | ⟨g, h, h2⟩
        · rw [← h]; exact e
        · rw [h] at e; cases e; omega)
      have hsa : (wr.alloc (.cells #[.int .u8 (n % 256)] 5)).heap.size = wr.heap.size + 1 := by simp
      have hob8 : ob8 = ob ∨ ∃ g, ob8 = some g ∧ w.heap.size ≤ g := by
        rcases v3 with h | ⟨g, h, h2⟩
        · rw [h]; exact hob
        · exact .inr ⟨g, h, by omega⟩
      have v1' : Own w8.heap 5 1 a8 (M + (1 + 1)) c8 (ivals .u8 (xs ++ (beB n 2).take (1 + 1))) ob8 := by
        rw [HE.out, show M + (1 + 1) = N + 1 by have := HN.out; omega]; exact v1
      clear v1 v2 v3 hOa hrd hFa hO1 hF hob
      go_wp2
      go_roundw
      case rel => exact ⟨-8, 1 + 1, a8, c8, ob8, by go_num, by omega, by rw [show M + (1 + 1) = N + 1 by have := HN.out; omega], v1', hF8, hob8⟩
      case measure => simp [intOf]
    · go_wp2
      go_ret
      exact ⟨a', c', ob', rfl, hO1, hF, hob⟩

set_option maxRecDepth 100000 in
set_option maxHeartbeats 4000000 in
theorem put4_any {M : Nat} {a : Option Addr} {c : Nat} {ob : Option Nat} (xs : List Int) (n : Int) (w : World) (hO : Own w.heap 5 1 a M c (ivals .u8 xs) ob) (hn : 0 ≤ n ∧ n < 4294967296) (hM : M ≤ 1000000) :
    Calls Tryz.prog 38 #[.slice a M c, .int .u32 n, .int .i64 4] w (RetPut w xs (beB n 4) (M + 4) ob) := by
  go_enter Tryz.func38, Tryz.ntmps38
  go_wp2
  go_loopw [7, 0] (fun s7 s0 wr => ∃ (s : Int) (i : Nat) (a' : Option Addr) (c' : Nat) (ob' : Option Nat), s7 = .int .i64 s ∧ ((s = 24 ∧ i = 0) ∨ (s = 16 ∧ i = 1) ∨ (s = 8 ∧ i = 2) ∨ (s = 0 ∧ i = 3) ∨ (s = -8 ∧ i = 4)) ∧ s0 = .slice a' (M + i) c' ∧ Own wr.heap 5 1 a' (M + i) c' (ivals .u8 (xs ++ (beB n 4).take i)) ob' ∧ Fr (fun k => ob = some k) w wr ∧ (ob' = ob ∨ ∃ g, ob' = some g ∧ w.heap.size ≤ g)) (fun s _ _ => (intOf s + 8).toNat)
  case atStart => exact ⟨24, 0, a, c, ob, rfl, by omega, rfl, by simpa using hO, Fr.refl _ _, .inl rfl⟩
  case round =>
    obtain ⟨s, i, a', c', ob', rfl, hs, rfl, hO1, hF, hob⟩ := hrel
    have hwsz := hF.size
    rcases hs with ⟨rfl, rfl⟩ | ⟨rfl, rfl⟩ | ⟨rfl, rfl⟩ | ⟨rfl, rfl⟩ | ⟨rfl, rfl⟩
    · have hv : n / 2 ^ (8 * 3) % 256 = n / 16777216 := by
        rw [show (2 : Int) ^ (8 * 3) = 16777216 by decide]
        try omega
      obtain ⟨zs, hzs⟩ : ∃ zs, zs = xs ++ (beB n 4).take 0 := ⟨_, rfl⟩
      obtain ⟨N, hN⟩ : ∃ N, N = M + 0 := ⟨_, rfl⟩
      rw [← hzs, ← hN] at hO1
      rw [← hN]
      have hN1 : N ≤ 1000004 := by omega
      have HE := Lib.hid (show ivals .u8 (xs ++ (beB n 4).take (0 + 1)) = ivals .u8 zs ++ [.int .u8 (n / 16777216)] by
        rw [show (beB n 4).take (0 + 1) = (beB n 4).take 0 ++ [n / 2 ^ (8 * 3) % 256] from rfl, hv, hzs]
        simp [ivals])
      have HN := Lib.hid hN
      have hrd := rd_lit wr 5 [.int .u8 (n / 16777216)]
      have hOa := hO1.alloc (.cells #[.int .u8 (n / 16777216)] 5)
      have hFa := hF.alloc (.cells #[.int .u8 (n / 16777216)] 5)
      clear hv hzs hN
      go_wp2_with (at_builtin; refine wpList_app rfl _ _ 27 rfl Tryz.underlying27 infoU8 rfl (by decide) rfl rfl hOa hrd (by simp [Value.oneCell']) (by omega) (by omega) ?_)
      intro a8 c8 w8 ob8 v1 v2 v3
      have hF8 : Fr (fun k => ob = some k) w w8 := hFa.trans' v2 (fun i hi e => by
        rcases hob with h | ⟨g, h, h2⟩
        · rw [← h]; exact e
        · rw [h] at e; cases e; omega)
      have hsa : (wr.alloc (.cells #[.int .u8 (n / 16777216)] 5)).heap.size = wr.heap.size + 1 := by simp
      have hob8 : ob8 = ob ∨ ∃ g, ob8 = some g ∧ w.heap.size ≤ g := by
        rcases v3 with h | ⟨g, h, h2⟩
        · rw [h]; exact hob
        · exact .inr ⟨g, h, by omega⟩
      have v1' : Own w8.heap 5 1 a8 (M + (0 + 1)) c8 (ivals .u8 (xs ++ (beB n 4).take (0 + 1))) ob8 := by
        rw [HE.out, show M + (0 + 1) = N + 1 by have := HN.out; omega]; exact v1
      clear v1 v2 v3 hOa hrd hFa hO1 hF hob
      go_wp2
      go_roundw
      case rel => exact ⟨16, 0 + 1, a8, c8, ob8, by go_num, by omega, by rw [show M + (0 + 1) = N + 1 by have := HN.out; omega], v1', hF8, hob8⟩
      case measure => simp [intOf]
    · have hv : n / 2 ^ (8 * 2) % 256 = n / 65536 % 256 := by
        rw [show (2 : Int) ^ (8 * 2) = 65536 by decide]
        try omega
      obtain ⟨zs, hzs⟩ : ∃ zs, zs = xs ++ (beB n 4).take 1 := ⟨_, rfl⟩
      obtain ⟨N, hN⟩ : ∃ N, N = M + 1 := ⟨_, rfl⟩
      rw [← hzs, ← hN] at hO1
      rw [← hN]
      have hN1 : N ≤ 1000004 := by omega
      have HE := Lib.hid (show ivals .u8 (xs ++ (beB n 4).take (1 + 1)) = ivals .u8 zs ++ [.int .u8 (n / 65536 % 256)] by
        rw [show (beB n 4).take (1 + 1) = (beB n 4).take 1 ++ [n / 2 ^ (8 * 2) % 256] from rfl, hv, hzs]
        simp [ivals])
      have HN := Lib.hid hN
      have hrd := rd_lit wr 5 [.int .u8 (n / 65536 % 256)]
      have hOa := hO1.alloc (.cells #[.int .u8 (n / 65536 % 256)] 5)
      have hFa := hF.alloc (.cells #[.int .u8 (n / 65536 % 256)] 5)
      clear hv hzs hN
      go_wp2_with (at_builtin; refine wpList_app rfl _ _ 27 rfl Tryz.underlying27 infoU8 rfl (by decide) rfl rfl hOa hrd (by simp [Value.oneCell']) (by omega) (by omega) ?_)
      intro a8 c8 w8 ob8 v1 v2 v3
      have hF8 : Fr (fun k => ob = some k) w w8 := hFa.trans' v2 (fun i hi e => by
        rcases hob with h | ⟨g, h, h2⟩
        · rw [← h]; exact e
        · rw [h] at e; cases e; omega)
      have hsa : (wr.alloc (.cells #[.int .u8 (n / 65536 % 256)] 5)).heap.size = wr.heap.size + 1 := by simp
      have hob8 : ob8 = ob ∨ ∃ g, ob8 = some g ∧ w.heap.size ≤ g := by
        rcases v3 with h | ⟨g, h, h2⟩
        · rw [h]; exact hob
        · exact .inr ⟨g, h, by omega⟩
      have v1' : Own w8.heap 5 1 a8 (M + (1 + 1)) c8 (ivals .u8 (xs ++ (beB n 4).take (1 + 1))) ob8 := by
        rw [HE.out, show M + (1 + 1) = N + 1 by have := HN.out; omega]; exact v1
      clear v1 v2 v3 hOa hrd hFa hO1 hF hob
      go_wp2
      go_roundw
      case rel => exact ⟨8, 1 + 1, a8, c8, ob8, by go_num, by omega, by rw [show M + (1 + 1) = N + 1 by have := HN.out; omega], v1', hF8, hob8⟩
      case measure => simp [intOf]
    · have hv : n / 2 ^ (8 * 1) % 256 = n / 256 % 256 := by
        rw [show (2 : Int) ^ (8 * 1) = 256 by decide]
        try omega
      obtain ⟨zs, hzs⟩ : ∃ zs, zs = xs ++ (beB n 4).take 2 := ⟨_, rfl⟩
      obtain ⟨N, hN⟩ : ∃ N, N = M + 2 := ⟨_, rfl⟩
      rw [← hzs, ← hN] at hO1
      rw [← hN]
      have hN1 : N ≤ 1000004 := by omega
      have HE := Lib.hid (show ivals .u8 (xs ++ (beB n 4).take (2 + 1)) = ivals .u8 zs ++ [.int .u8 (n / 256 % 256)] by
        rw [show (beB n 4).take (2 + 1) = (beB n 4).take 2 ++ [n / 2 ^ (8 * 1) % 256] from rfl, hv, hzs]
        simp [ivals])
      have HN := Lib.hid hN
      have hrd := rd_lit wr 5 [.int .u8 (n / 256 % 256)]
      have hOa := hO1.alloc (.cells #[.int .u8 (n / 256 % 256)] 5)
      have hFa := hF.alloc (.cells #[.int .u8 (n / 256 % 256)] 5)
      clear hv hzs hN
      go_wp2_with (at_builtin; refine wpList_app rfl _ _ 27 rfl Tryz.underlying27 infoU8 rfl (by decide) rfl rfl hOa hrd (by simp [Value.oneCell']) (by omega) (by omega) ?_)
      intro a8 c8 w8 ob8 v1 v2 v3
      have hF8 : Fr (fun k => ob = some k) w w8 := hFa.trans' v2 (fun i hi e => by
        rcases hob with h | ⟨g, h, h2⟩
        · rw [← h]; exact e
        · rw [h] at e; cases e; omega)
      have hsa : (wr.alloc (.cells #[.int .u8 (n / 256 % 256)] 5)).heap.size = wr.heap.size + 1 := by simp
      have hob8 : ob8 = ob ∨ ∃ g, ob8 = some g ∧ w.heap.size ≤ g := by
        rcases v3 with h | ⟨g, h, h2⟩
        · rw [h]; exact hob
        · exact .inr ⟨g, h, by omega⟩
      have v1' : Own w8.heap 5 1 a8 (M + (2 + 1)) c8 (ivals .u8 (xs ++ (beB n 4).take (2 + 1))) ob8 := by
        rw [HE.out, show M + (2 + 1) = N + 1 by have := HN.out; omega]; exact v1
      clear v1 v2 v3 hOa hrd hFa hO1 hF hob
      go_wp2
      go_roundw
      case rel => exact ⟨0, 2 + 1, a8, c8, ob8, by go_num, by omega, by rw [show M + (2 + 1) = N + 1 by have := HN.out; omega], v1', hF8, hob8⟩
      case measure => simp [intOf]
    · have hv : n / 2 ^ (8 * 0) % 256 = n % 256 := by
        rw [show (2 : Int) ^ (8 * 0) = 1 by decide]
        try omega
      obtain ⟨zs, hzs⟩ : ∃ zs, zs = xs ++ (beB n 4).take 3 := ⟨_, rfl⟩
      obtain ⟨N, hN⟩ : ∃ N, N = M + 3 := ⟨_, rfl⟩
      rw [← hzs, ← hN] at hO1
      rw [← hN]
      have hN1 : N ≤ 1000004 := by omega
      have HE := Lib.hid (show ivals .u8 (xs ++ (beB n 4).take (3 + 1)) = ivals .u8 zs ++ [.int .u8 (n % 256)] by
        rw [show (beB n 4).take (3 + 1) = (beB n 4).take 3 ++ [n / 2 ^ (8 * 0) % 256] from rfl, hv, hzs]
        simp [ivals])
      have HN := Lib.hid hN
      have hrd := rd_lit wr 5 [.int .u8 (n % 256)]
      have hOa := hO1.alloc (.cells #[.int .u8 (n % 256)] 5)
      have hFa := hF.alloc (.cells #[.int .u8 (n % 256)] 5)
      clear hv hzs hN
      go_wp2_with (at_builtin; refine wpList_app rfl _ _ 27 rfl Tryz.underlying27 infoU8 rfl (by decide) rfl rfl hOa hrd (by simp [Value.oneCell']) (by omega) (by omega) ?_)
      intro a8 c8 w8 ob8 v1 v2 v3
      have hF8 : Fr (fun k => ob = some k) w w8 := hFa.trans' v2 (fun i hi e => by
        rcases hob with h | ⟨g, h, h2⟩
        · rw [← h]; exact e
        · rw [h] at e; cases e; omega)
      have hsa : (wr.alloc (.cells #[.int .u8 (n % 256)] 5)).heap.size = wr.heap.size + 1 := by simp
      have hob8 : ob8 = ob ∨ ∃ g, ob8 = some g ∧ w.heap.size ≤ g := by
        rcases v3 with h | ⟨g, h, h2⟩
        · rw [h]; exact hob
        · exact .inr ⟨g, h, by omega⟩
      have v1' : Own w8.heap 5 1 a8 (M + (3 + 1)) c8 (ivals .u8 (xs ++ (beB n 4).take (3 + 1))) ob8 := by
        rw [HE.out, show M + (3 + 1) = N + 1 by have := HN.out; omega]; exact v1
      clear v1 v2 v3 hOa hrd hFa hO1 hF hob
      go_wp2
      go_roundw
      case rel => exact ⟨-8, 3 + 1, a8, c8, ob8, by go_num, by omega, by rw [show M + (3 + 1) = N + 1 by have := HN.out; omega], v1', hF8, hob8⟩
      case measure => simp [intOf]
    · go_wp2
      go_ret
      exact ⟨a', c', ob', rfl, hO1, hF, hob⟩
end Go.Proofs.YtfglidaicjjpfaaGreatDoor
end
