import Derived.Test.YtfglidaicjjpfaaDelLib
import Derived.Lib.SliceRun
import Derived.Test.YtfglidaicjjpfaaSortBest
namespace Go.Proofs.Ytfglidaicjjpfaa
open Go.RowKit

/-! slices.Clone, slices.IndexFunc, slices.DeleteFunc at api.Best -/


theorem dbest_set (l : List BestR) (i : Nat) (x : BestR) (h : i < l.length) : (((((l.flatMap BestR.cells).set (i * 4) (.int .u32 x.a)).set (i * 4 + 1) (.int .i64 x.n)).set (i * 4 + 2) (.int .i64 x.m)).set (i * 4 + 3) (.slice x.A x.h.length x.C)) = (l.set i x).flatMap BestR.cells := by
  induction l generalizing i with
  | nil => simp at h
  | cons y l ih =>
    cases i with
    | zero => rfl
    | succ i =>
      have := ih i (by simpa using h)
      rw [List.set_cons_succ, List.flatMap_cons, List.flatMap_cons, ← this]
      rw [show (i + 1) * 4 = i * 4 + 1 + 1 + 1 + 1 by omega]
      rfl
/-- The first of which it is so. -/
def dbest_Idx (w : World) (l : List BestR) (p : BestR → Bool) (e : Ending) (w' : World) : Prop :=
  ∃ i : Int, e = .returned (.int .i64 i) ∧ Fr (fun _ => False) w w' ∧ ((∃ k : Nat, k < l.length ∧ i = k ∧ p (nth l k) = true ∧ ∀ j, j < k → p (nth l j) = false) ∨ (i = -1 ∧ ∀ j, j < l.length → p (nth l j) = false))
set_option maxRecDepth 100000 in
set_option maxHeartbeats 1000000 in
theorem dbest_idx {n : Nat} (l : List BestR) (p : BestR → Bool) (a : Option Addr) (c : Nat)  (w : World) (hL : Recs w.heap a 4 BestR.cells l) (hn : l.length = n) (hl : n ≤ 9223372036854775806)
    (hp : ∀ (x : BestR), x ∈ l → ∀ (w' : World), Fr (fun _ => False) w w' → Calls Try.prog 44 #[.agg #[.int .u32 x.a, .int .i64 x.n, .int .i64 x.m, .slice x.A x.h.length x.C]] w' (RetV w' (.bool (p x)))) :
    Calls Try.prog 59 #[.slice a n c, .func (.func 44) #[] #[]] w (dbest_Idx w l p) := by
  have HN := Lib.hid hn
  have HP := Lib.hid hp
  clear hn hp
  go_enter Try.func59, Try.ntmps59
  go_wp2
  go_loopw [8] (fun s8 wr => ∃ (k : Nat), k ≤ n ∧ s8 = .int .i64 k ∧ Fr (fun _ => False) w wr ∧ Hid (∀ j, j < k → p (nth l j) = false)) (fun s _ => n - (intOf s).toNat)
  case atStart => exact ⟨0, by omega, rfl, Fr.refl _ _, Lib.hid (fun j hj => absurd hj (Nat.not_lt_zero _))⟩
  case round =>
    obtain ⟨k, hk, rfl, hF, hE⟩ := hrel
    by_cases hkl : k < n
    · have hkl' : k < l.length := by rw [HN.out]; exact hkl
      obtain ⟨b, off, rfl, hbb, hc⟩ := Recs.pos hL BestR.cells_len (by omega) (by omega)
      have dd := fun (j : Nat) (hj : j < 4) => (hF.cell (p := ⟨b, off + (k * 4 + j), none⟩) hbb (fun h => h)).trans (hc w rfl k j hkl' hj)
      have d0 := dd 0 (by omega)
      have d1 := dd 1 (by omega)
      have d2 := dd 2 (by omega)
      have d3 := dd 3 (by omega)
      obtain ⟨x, hx⟩ : ∃ x, x = nth l k := ⟨_, rfl⟩
      rw [← hx] at d0 d1 d2 d3
      obtain ⟨xa, xn, xm, xh, xA, xC⟩ := x
      simp only [BestR.cells, List.getElem?_cons_zero, List.getElem?_cons_succ, ← Nat.add_assoc, Nat.add_zero] at d0 d1 d2 d3
      have HX := Lib.hid hx
      clear hc hx dd hkl'
      go_wp2_with (fail)
      refine (HP.out ⟨xa, xn, xm, xh, xA, xC⟩ (by rw [HX.out]; exact nth_mem l k (by rw [HN.out]; exact hkl)) wr hF).mono ?_
      rintro e1 w1 ⟨rfl, hF1⟩
      cases hpx : p ⟨xa, xn, xm, xh, xA, xC⟩ with
      | false =>
        have HPX := Lib.hid hpx
        clear hpx
        go_wp2
        go_roundw
        case rel => exact ⟨k + 1, by omega, by go_num, hF.trans hF1, Lib.hid (fun j hj => by
          rcases Nat.lt_succ_iff_lt_or_eq.1 hj with h | h
          · exact hE.out j h
          · subst h; rw [← HX.out]; exact HPX.out)⟩
        case measure => simp [intOf]; omega
      | true =>
        have HPX := Lib.hid hpx
        clear hpx
        go_wp2
        go_ret
        exact ⟨k, rfl, hF.trans hF1, .inl ⟨k, by rw [HN.out]; exact hkl, rfl, by rw [← HX.out]; exact HPX.out, hE.out⟩⟩
    · obtain rfl : k = n := by omega
      go_wp2
      go_ret
      exact ⟨-1, rfl, hF, .inr ⟨rfl, fun j hj => hE.out j (by rw [← HN.out]; exact hj)⟩⟩

/-- What is left: of those of which it is not so, in the old block. -/
def dbest_Del (w : World) (l : List BestR) (p : BestR → Bool) (ob : Option Nat) (e : Ending) (w' : World) : Prop :=
  ∃ a c m, e = .returned (.slice a m c) ∧ m = (l.filter fun x => !p x).length ∧ Own w'.heap 50 4 a m c ((l.filter fun x => !p x).flatMap BestR.cells) ob ∧ Fr (fun k => ob = some k) w w'
theorem zerodbest : ∀ w : World, (zeroValue 50).run Try.prog w = .ok (.agg #[.int .u32 0, .int .i64 0, .int .i64 0, .slice none 0 0]) w := fun w => by kernel_rfl
set_option maxRecDepth 100000 in
set_option maxHeartbeats 2000000 in
theorem dbest_del {n : Nat} (l : List BestR) (p : BestR → Bool) (a : Option Addr) (c : Nat) (ob : Option Nat)  (w : World) (hO : Own w.heap 50 4 a n c (l.flatMap BestR.cells) ob) (hn : l.length = n) (hl : n ≤ 9223372036854775806)
    (hp : ∀ (x : BestR), x ∈ l → ∀ (w' : World), Fr (fun k => ob = some k) w w' → Calls Try.prog 44 #[.agg #[.int .u32 x.a, .int .i64 x.n, .int .i64 x.m, .slice x.A x.h.length x.C]] w' (RetV w' (.bool (p x)))) :
    Calls Try.prog 42 #[.slice a n c, .func (.func 44) #[] #[]] w (dbest_Del w l p ob) := by
  have HN := Lib.hid hn
  have HP := Lib.hid hp
  have hL : Recs w.heap a 4 BestR.cells l := by unfold Recs; rw [hn]; exact hO.rd
  clear hn hp
  go_enter Try.func42, Try.ntmps42
  go_wp2_with (fail)
  refine (dbest_idx l p a c  w hL HN.out hl (fun x hx w' hF => HP.out x hx w' (hF.none _))).mono ?_
  rintro e1 w1 ⟨i0, rfl, hF1, hI⟩
  have hO1 := hO.fr hF1 (fun _ _ h => h)
  rcases hI with ⟨k0, hk0, rfl, hpk, hlt⟩ | ⟨rfl, hno⟩
  · have hk0n : k0 < n := by rw [← HN.out]; exact hk0
    obtain ⟨g, rfl, rfl, hgl, -, -⟩ := hO1.pos (by omega)
    have hst : (l.take (k0 + 1)).filter (fun x => !p x) = l.take k0 := by
      rw [take_succ_nth l k0 hk0, List.filter_append, List.filter_eq_self.2 (fun x hx => ?_)]
      · simp [hpk]
      · obtain ⟨j, hj, rfl⟩ := List.getElem_of_mem hx
        have hjk : j < k0 := by simp at hj; omega
        have h1 := hlt j hjk
        rw [nth_eq l j (by omega)] at h1
        simp [h1]
    have hb0 : ((k0 : Int) == -1) = false := by simp
    have HS : Hid ((l.take (k0 + 1)).filter (fun x => !p x) = l.take k0) := hst
    clear hst hpk hlt hL
    go_wp2
    go_loopw [6, 5] (fun s6 s5 wr => ∃ (j i : Nat) (m : List BestR), s6 = .int .i64 j ∧ s5 = .int .i64 i ∧ i < j ∧ j ≤ n ∧ Own wr.heap 50 4 (some ⟨g, 0, none⟩) n c (m.flatMap BestR.cells) (some g) ∧ Hid (m.length = n ∧ m.take i = (l.take j).filter (fun x => !p x) ∧ m.drop j = l.drop j) ∧ Fr (fun k => some g = some k) w wr) (fun s _ _ => n - (intOf s).toNat)
    case atStart => exact ⟨k0 + 1, k0, l, by go_num, rfl, by omega, by omega, hO1, ⟨HN.out, HS.out.symm, rfl⟩, hF1.none _⟩
    case round =>
      clear hO1
      obtain ⟨j, i, m, rfl, rfl, hij, hj, hO, hM, hF⟩ := hrel
      by_cases hjn : j < n
      · obtain ⟨hm1, hm2, hm3⟩ := hM.out
        obtain ⟨_, hh, hh2, hgl', hc, hf⟩ := hO.pos (by omega)
        cases hh
        have dd := fun (q : Nat) (hq : q < 4) => (hc (j * 4 + q) (by omega)).trans (flat_get BestR.cells 4 BestR.cells_len m j q (by omega) hq)
        have d0 := dd 0 (by omega)
        have d1 := dd 1 (by omega)
        have d2 := dd 2 (by omega)
        have d3 := dd 3 (by omega)
        have fi := fun q => hf q
        have f0 := fi (i * 4)
        have f1 := fi (i * 4 + 1)
        have f2 := fi (i * 4 + 2)
        have f3 := fi (i * 4 + 3)
        have hnj : nth m j = nth l j := by
          have h1 := drop_nth m j (by omega)
          have h2 := drop_nth l j (by rw [HN.out]; exact hjn)
          rw [hm3] at h1
          rw [h1] at h2
          exact (List.cons.inj h2).1
        have cc := fun (q : Nat) (hq : q < 4) => (hc (i * 4 + q) (by omega)).trans (flat_get BestR.cells 4 BestR.cells_len m i q (by omega) hq)
        have e0 := cc 0 (by omega)
        have e1 := cc 1 (by omega)
        have e2 := cc 2 (by omega)
        have e3 := cc 3 (by omega)
        rw [hnj] at d0 d1 d2 d3
        obtain ⟨x, hx⟩ : ∃ x, x = nth l j := ⟨_, rfl⟩
        rw [← hx] at d0 d1 d2 d3
        generalize nth m i = y at *
        obtain ⟨xa, xn, xm, xh, xA, xC⟩ := x
        obtain ⟨ya, yn, ym, yh, yA, yC⟩ := y
        simp only [BestR.cells, List.getElem?_cons_zero, List.getElem?_cons_succ, Nat.add_zero] at d0 d1 d2 d3 e0 e1 e2 e3
        have HX := Lib.hid hx
        have hset := ((((hO.set rfl (i * 4) (.int .u32 xa)).set rfl (i * 4 + 1) (.int .i64 xn)).set rfl (i * 4 + 2) (.int .i64 xm)).set rfl (i * 4 + 3) (.slice xA xh.length xC))
        rw [dbest_set m i ⟨xa, xn, xm, xh, xA, xC⟩ (by omega)] at hset
        have HSET := Lib.hid hset
        have htk : l.take (j + 1) = l.take j ++ [nth l j] := take_succ_nth l j (by rw [HN.out]; exact hjn)
        have HTK := Lib.hid htk
        clear hc hf dd cc fi hx hset htk hm1 hm2 hm3 hnj hh2
        go_wp2_with (fail)
        refine (HP.out ⟨xa, xn, xm, xh, xA, xC⟩ (by rw [HX.out]; exact nth_mem l j (by rw [HN.out]; exact hjn)) _ (hF.alloc _)).mono ?_
        rintro e2 w2 ⟨rfl, hF2⟩
        have hF02 := ((Fr.refl (fun _ => False) wr).alloc (.cells #[.int .u32 xa, .int .i64 xn, .int .i64 xm, .slice xA xh.length xC] 50)).trans hF2
        have hltb := Nat.lt_of_lt_of_le (show wr.heap.size < (wr.alloc (.cells #[.int .u32 xa, .int .i64 xn, .int .i64 xm, .slice xA xh.length xC] 50)).heap.size by simp) hF2.size
        have hbx := (Blk.made wr 50 [.int .u32 xa, .int .i64 xn, .int .i64 xm, .slice xA xh.length xC]).fr hF2 (fun h => h)
        have h0 := hbx.cell 0
        have h1 := hbx.cell 1
        have h2 := hbx.cell 2
        have h3 := hbx.cell 3
        have e0 := (hF02.cell (p := ⟨g, i * 4, none⟩) hgl' (fun h => h)).trans e0
        have f0 := (hF02.frozen (p := ⟨g, i * 4, none⟩) hgl' (fun h => h)).trans f0
        have e1 := (hF02.cell (p := ⟨g, i * 4 + 1, none⟩) hgl' (fun h => h)).trans e1
        have f1 := (hF02.frozen (p := ⟨g, i * 4 + 1, none⟩) hgl' (fun h => h)).trans f1
        have e2 := (hF02.cell (p := ⟨g, i * 4 + 2, none⟩) hgl' (fun h => h)).trans e2
        have f2 := (hF02.frozen (p := ⟨g, i * 4 + 2, none⟩) hgl' (fun h => h)).trans f2
        have e3 := (hF02.cell (p := ⟨g, i * 4 + 3, none⟩) hgl' (fun h => h)).trans e3
        have f3 := (hF02.frozen (p := ⟨g, i * 4 + 3, none⟩) hgl' (fun h => h)).trans f3
        have hgl2 := Nat.lt_of_lt_of_le hgl' hF02.size
        have hgne : g ≠ wr.heap.size := by omega
        simp only [List.getElem?_cons_zero, List.getElem?_cons_succ] at h0 h1 h2 h3
        cases hpx : p ⟨xa, xn, xm, xh, xA, xC⟩ with
        | false =>
          have hM' : Hid ((m.set i ⟨xa, xn, xm, xh, xA, xC⟩).length = n ∧ (m.set i ⟨xa, xn, xm, xh, xA, xC⟩).take (i + 1) = (l.take (j + 1)).filter (fun x => !p x) ∧ (m.set i ⟨xa, xn, xm, xh, xA, xC⟩).drop (j + 1) = l.drop (j + 1)) := by
            obtain ⟨hm1, hm2, hm3⟩ := hM.out
            refine ⟨by simp [hm1], ?_, ?_⟩
            · rw [HTK.out, List.filter_append, ← hm2, ← HX.out]
              rw [take_succ_nth _ i (by simp; omega), nth_set _ _ _ _ (by omega), if_pos rfl, List.take_set_of_le (Nat.le_refl _)]
              simp [hpx]
            · rw [List.drop_set_of_lt (by omega), ← List.drop_drop, hm3, List.drop_drop]
          clear hpx hM
          have hO2 : Own ((((w2.setCell ⟨g, i * 4, none⟩ (.int .u32 xa)).setCell ⟨g, i * 4 + 1, none⟩ (.int .i64 xn)).setCell ⟨g, i * 4 + 2, none⟩ (.int .i64 xm)).setCell ⟨g, i * 4 + 3, none⟩ (.slice xA xh.length xC)).heap 50 4 (some ⟨g, 0, none⟩) n c ((m.set i ⟨xa, xn, xm, xh, xA, xC⟩).flatMap BestR.cells) (some g) := by
            have h0 := hO.fr hF02 (fun _ _ h => h)
            have hset := ((((h0.set rfl (i * 4) (.int .u32 xa)).set rfl (i * 4 + 1) (.int .i64 xn)).set rfl (i * 4 + 2) (.int .i64 xm)).set rfl (i * 4 + 3) (.slice xA xh.length xC))
            rw [dbest_set m i ⟨xa, xn, xm, xh, xA, xC⟩ (by have := hM'.out.1; simp at this; omega)] at hset
            exact hset
          have HO2 := Lib.hid hO2
          clear hO2 hO hbx HSET
          go_wp2
          go_roundw
          case rel => exact ⟨j + 1, i + 1, m.set i ⟨xa, xn, xm, xh, xA, xC⟩, by go_num, by go_num, by omega, by omega, HO2.out, hM', (((((hF.trans (hF02.none _)).setCell (fun _ => rfl) _).setCell (fun _ => rfl) _).setCell (fun _ => rfl) _).setCell (fun _ => rfl) _)⟩
          case measure => simp [intOf]; omega
        | true =>
          have hM' : Hid (m.length = n ∧ m.take i = (l.take (j + 1)).filter (fun x => !p x) ∧ m.drop (j + 1) = l.drop (j + 1)) := by
            obtain ⟨hm1, hm2, hm3⟩ := hM.out
            refine ⟨hm1, ?_, ?_⟩
            · rw [HTK.out, List.filter_append, ← hm2, ← HX.out]
              simp [hpx]
            · rw [← List.drop_drop, hm3, List.drop_drop]
          have hO2 := hO.fr hF02 (fun _ _ h => h)
          clear hpx hM hO hbx HSET
          go_wp2
          go_roundw
          case rel => exact ⟨j + 1, i, m, by go_num, rfl, by omega, by omega, hO2, hM', hF.trans (hF02.none _)⟩
          case measure => simp [intOf]; omega
      · obtain rfl : j = n := by omega
        have hcap := hO.cap
        have hne : ¬ c = i := by omega
        go_wp2_with (refine wpList_clr rfl _ 53 rfl Try.underlying53 zerodbest rfl (by simp [Value.cells, Value.oneCell']) (i := i) (m := j - i) rfl hO (by omega) (by omega) ?_)
        intro w3 hO3 hF3
        have htk : (m.flatMap BestR.cells).take (i * 4) = (l.filter fun x => !p x).flatMap BestR.cells := by
          obtain ⟨hm1, hm2, hm3⟩ := hM.out
          rw [flat_take BestR.cells 4 BestR.cells_len, hm2, List.take_of_length_le (by rw [HN.out]; omega)]
        rw [htk] at hO3
        have hml : i = (l.filter fun x => !p x).length := by
          have := hO3.len
          rw [flat_len _ 4 BestR.cells_len] at this
          omega
        have HML := Lib.hid hml
        have hF03 : Fr (fun k => some g = some k) w w3 := hF.trans (hF3.mono (fun k _ h => by rw [h]))
        clear hO hM htk hml hF3
        go_wp2
        go_ret
        exact ⟨some ⟨g, 0, none⟩, c, i, rfl, HML.out, hO3, hF03⟩
  · have hfl : l.filter (fun x => !p x) = l := List.filter_eq_self.2 (fun x hx => by
      obtain ⟨j, hj, rfl⟩ := List.getElem_of_mem hx
      have h1 := hno j hj
      rw [nth_eq l j hj] at h1
      simp [h1])
    have HFL := Lib.hid hfl
    clear hfl hno hO hL
    go_wp2
    go_ret
    exact ⟨a, c, n, rfl, by rw [HFL.out, HN.out], by rw [HFL.out]; exact hO1, hF1.none _⟩
end Go.Proofs.Ytfglidaicjjpfaa
