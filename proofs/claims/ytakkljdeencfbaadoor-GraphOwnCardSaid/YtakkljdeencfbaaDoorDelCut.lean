import Derived.Test.YtakkljdeencfbaaDoorDelLib
import Derived.Lib.SliceRun
import Derived.Test.YtakkljdeencfbaaDoorLkInfo
namespace Go.Proofs.YtakkljdeencfbaaDoor
open Go.RowKit

/-! slices.Clone, slices.IndexFunc, slices.DeleteFunc at api.Link -/
set_option maxRecDepth 100000 in
set_option maxHeartbeats 1000000 in
theorem dcut_clone {n : Nat} (l : List Lk) (a : Option Addr) (c : Nat) (w : World) (hr : Recs w.heap a 3 Lk.cells l) (hn : n = l.length) (hl : n * 24 ≤ 140737488351232) (hnil : a = none → l = []) :
    Calls Tryd.prog 29 #[.slice a n c] w (RetNew w 32 3 n (l.flatMap Lk.cells) id) := by
  subst hn
  have he := fun n c w => Lib.run_eql_slice_nil (P := Tryd.prog) w 22 32 a n c 0 0 Tryd.underlying22
  cases a with
  | none =>
    obtain rfl := hnil rfl
    go_enter Tryd.func29, Tryd.ntmps29
    go_wp2
    go_ret
    exact ⟨none, 0, none, rfl, Own.nil _ _ _, Fr.refl _ _, fun g h => by cases h⟩
  | some a =>
    go_enter Tryd.func29, Tryd.ntmps29
    go_wp2_with (at_builtin; refine wpList_app rfl _ _ 22 rfl Tryd.underlying22 infoLk rfl (by decide) rfl rfl (Own.made w 32 3 0 [] rfl (by decide)) (hr.fr (S := fun _ => False) ((Fr.refl _ _).alloc _) (fun _ _ _ h => h)) (lk_one l) (by omega) (by omega) ?_)
    intro a' c' w' ob' h1 h2 h3
    go_wp2
    go_ret
    refine ⟨a', c', ob', by simp, by simpa using h1, ?_, ?_⟩
    · exact ((Fr.refl _ _).alloc _).trans' h2 (fun i hi h => by cases h; omega)
    · intro g hg
      rcases h3 with h3 | ⟨g', h3, h4⟩
      · rw [h3] at hg; cases hg; exact Nat.le_refl _
      · rw [h3] at hg; cases hg; exact Nat.le_trans (by simp) h4

theorem dcut_set (l : List Lk) (i : Nat) (x : Lk) (h : i < l.length) : ((((l.flatMap Lk.cells).set (i * 3) (.int .i64 x.a)).set (i * 3 + 1) (.int .i64 x.b)).set (i * 3 + 2) (.int .i64 x.c)) = (l.set i x).flatMap Lk.cells := by
  induction l generalizing i with
  | nil => simp at h
  | cons y l ih =>
    cases i with
    | zero => rfl
    | succ i =>
      have := ih i (by simpa using h)
      rw [List.set_cons_succ, List.flatMap_cons, List.flatMap_cons, ← this]
      rw [show (i + 1) * 3 = i * 3 + 1 + 1 + 1 by omega]
      rfl
/-- The first of which it is so. -/
def dcut_Idx (w : World) (l : List Lk) (p : Lk → Bool) (e : Ending) (w' : World) : Prop :=
  ∃ i : Int, e = .returned (.int .i64 i) ∧ Fr (fun _ => False) w w' ∧ ((∃ k : Nat, k < l.length ∧ i = k ∧ p (nth l k) = true ∧ ∀ j, j < k → p (nth l j) = false) ∨ (i = -1 ∧ ∀ j, j < l.length → p (nth l j) = false))
set_option maxRecDepth 100000 in
set_option maxHeartbeats 1000000 in
theorem dcut_idx {n : Nat} (l : List Lk) (p : Lk → Bool) (a : Option Addr) (c : Nat) (b6 b7 : Nat) (w : World) (hL : Recs w.heap a 3 Lk.cells l) (hn : l.length = n) (hl : n ≤ 9223372036854775806)
    (hp : ∀ (x : Lk), x ∈ l → ∀ (w' : World), Fr (fun _ => False) w w' → Calls Tryd.prog 30 #[.agg #[.int .i64 x.a, .int .i64 x.b, .int .i64 x.c], .pointer (some ⟨b6, 0, none⟩), .pointer (some ⟨b7, 0, none⟩)] w' (RetV w' (.bool (p x)))) :
    Calls Tryd.prog 43 #[.slice a n c, .func (.func 30) #[] #[.pointer (some ⟨b6, 0, none⟩), .pointer (some ⟨b7, 0, none⟩)]] w (dcut_Idx w l p) := by
  have HN := Lib.hid hn
  have HP := Lib.hid hp
  clear hn hp
  go_enter Tryd.func43, Tryd.ntmps43
  go_wp2
  go_loopw [8] (fun s8 wr => ∃ (k : Nat), k ≤ n ∧ s8 = .int .i64 k ∧ Fr (fun _ => False) w wr ∧ Hid (∀ j, j < k → p (nth l j) = false)) (fun s _ => n - (intOf s).toNat)
  case atStart => exact ⟨0, by omega, rfl, Fr.refl _ _, Lib.hid (fun j hj => absurd hj (Nat.not_lt_zero _))⟩
  case round =>
    obtain ⟨k, hk, rfl, hF, hE⟩ := hrel
    by_cases hkl : k < n
    · have hkl' : k < l.length := by rw [HN.out]; exact hkl
      obtain ⟨b, off, rfl, hbb, hc⟩ := Recs.pos hL Lk.cells_len (by omega) (by omega)
      have dd := fun (j : Nat) (hj : j < 3) => (hF.cell (p := ⟨b, off + (k * 3 + j), none⟩) hbb (fun h => h)).trans (hc w rfl k j hkl' hj)
      have d0 := dd 0 (by omega)
      have d1 := dd 1 (by omega)
      have d2 := dd 2 (by omega)
      obtain ⟨x, hx⟩ : ∃ x, x = nth l k := ⟨_, rfl⟩
      rw [← hx] at d0 d1 d2
      obtain ⟨xa, xb, xc⟩ := x
      simp only [Lk.cells, List.getElem?_cons_zero, List.getElem?_cons_succ, ← Nat.add_assoc, Nat.add_zero] at d0 d1 d2
      have HX := Lib.hid hx
      clear hc hx dd hkl'
      go_wp2_with (fail)
      refine (HP.out ⟨xa, xb, xc⟩ (by rw [HX.out]; exact nth_mem l k (by rw [HN.out]; exact hkl)) wr hF).mono ?_
      rintro e1 w1 ⟨rfl, hF1⟩
      cases hpx : p ⟨xa, xb, xc⟩ with
      | false =>
        have HPX := Lib.hid hpx
        clear hpx
        go_wp2
        go_roundw
        case rel => exact ⟨k + 1, by omega, by go_num, hF.trans hF1, Lib.hid (fun j hj => by
          rcases Nat.lt_succ_iff_lt_or_eq.1 hj with h | h
          · exact hE.out j h
          · subst h; rw [← HX.out]; exact HPX.out)⟩
        case measure => simp [intOf]; omega
      | true =>
        have HPX := Lib.hid hpx
        clear hpx
        go_wp2
        go_ret
        exact ⟨k, rfl, hF.trans hF1, .inl ⟨k, by rw [HN.out]; exact hkl, rfl, by rw [← HX.out]; exact HPX.out, hE.out⟩⟩
    · obtain rfl : k = n := by omega
      go_wp2
      go_ret
      exact ⟨-1, rfl, hF, .inr ⟨rfl, fun j hj => hE.out j (by rw [← HN.out]; exact hj)⟩⟩

/-- What is left: of those of which it is not so, in the old block. -/
def dcut_Del (w : World) (l : List Lk) (p : Lk → Bool) (ob : Option Nat) (e : Ending) (w' : World) : Prop :=
  ∃ a c m, e = .returned (.slice a m c) ∧ m = (l.filter fun x => !p x).length ∧ Own w'.heap 32 3 a m c ((l.filter fun x => !p x).flatMap Lk.cells) ob ∧ Fr (fun k => ob = some k) w w'
theorem zerodcut : ∀ w : World, (zeroValue 32).run Tryd.prog w = .ok (.agg #[.int .i64 0, .int .i64 0, .int .i64 0]) w := fun w => by kernel_rfl
set_option maxRecDepth 100000 in
set_option maxHeartbeats 2000000 in
theorem dcut_del {n : Nat} (l : List Lk) (p : Lk → Bool) (a : Option Addr) (c : Nat) (ob : Option Nat) (b6 b7 : Nat) (w : World) (hO : Own w.heap 32 3 a n c (l.flatMap Lk.cells) ob) (hn : l.length = n) (hl : n ≤ 9223372036854775806)
    (hp : ∀ (x : Lk), x ∈ l → ∀ (w' : World), Fr (fun k => ob = some k) w w' → Calls Tryd.prog 30 #[.agg #[.int .i64 x.a, .int .i64 x.b, .int .i64 x.c], .pointer (some ⟨b6, 0, none⟩), .pointer (some ⟨b7, 0, none⟩)] w' (RetV w' (.bool (p x)))) :
    Calls Tryd.prog 28 #[.slice a n c, .func (.func 30) #[] #[.pointer (some ⟨b6, 0, none⟩), .pointer (some ⟨b7, 0, none⟩)]] w (dcut_Del w l p ob) := by
  have HN := Lib.hid hn
  have HP := Lib.hid hp
  have hL : Recs w.heap a 3 Lk.cells l := by unfold Recs; rw [hn]; exact hO.rd
  clear hn hp
  go_enter Tryd.func28, Tryd.ntmps28
  go_wp2_with (fail)
  refine (dcut_idx l p a c b6 b7 w hL HN.out hl (fun x hx w' hF => HP.out x hx w' (hF.none _))).mono ?_
  rintro e1 w1 ⟨i0, rfl, hF1, hI⟩
  have hO1 := hO.fr hF1 (fun _ _ h => h)
  rcases hI with ⟨k0, hk0, rfl, hpk, hlt⟩ | ⟨rfl, hno⟩
  · have hk0n : k0 < n := by rw [← HN.out]; exact hk0
    obtain ⟨g, rfl, rfl, hgl, -, -⟩ := hO1.pos (by omega)
    have hst : (l.take (k0 + 1)).filter (fun x => !p x) = l.take k0 := by
      rw [take_succ_nth l k0 hk0, List.filter_append, List.filter_eq_self.2 (fun x hx => ?_)]
      · simp [hpk]
      · obtain ⟨j, hj, rfl⟩ := List.getElem_of_mem hx
        have hjk : j < k0 := by simp at hj; omega
        have h1 := hlt j hjk
        rw [nth_eq l j (by omega)] at h1
        simp [h1]
    have hb0 : ((k0 : Int) == -1) = false := by simp
    have HS : Hid ((l.take (k0 + 1)).filter (fun x => !p x) = l.take k0) := hst
    clear hst hpk hlt hL
    go_wp2
    go_loopw [6, 5] (fun s6 s5 wr => ∃ (j i : Nat) (m : List Lk), s6 = .int .i64 j ∧ s5 = .int .i64 i ∧ i < j ∧ j ≤ n ∧ Own wr.heap 32 3 (some ⟨g, 0, none⟩) n c (m.flatMap Lk.cells) (some g) ∧ Hid (m.length = n ∧ m.take i = (l.take j).filter (fun x => !p x) ∧ m.drop j = l.drop j) ∧ Fr (fun k => some g = some k) w wr) (fun s _ _ => n - (intOf s).toNat)
    case atStart => exact ⟨k0 + 1, k0, l, by go_num, rfl, by omega, by omega, hO1, ⟨HN.out, HS.out.symm, rfl⟩, hF1.none _⟩
    case round =>
      clear hO1
      obtain ⟨j, i, m, rfl, rfl, hij, hj, hO, hM, hF⟩ := hrel
      by_cases hjn : j < n
      · obtain ⟨hm1, hm2, hm3⟩ := hM.out
        obtain ⟨_, hh, hh2, hgl', hc, hf⟩ := hO.pos (by omega)
        cases hh
        have dd := fun (q : Nat) (hq : q < 3) => (hc (j * 3 + q) (by omega)).trans (flat_get Lk.cells 3 Lk.cells_len m j q (by omega) hq)
        have d0 := dd 0 (by omega)
        have d1 := dd 1 (by omega)
        have d2 := dd 2 (by omega)
        have fi := fun q => hf q
        have f0 := fi (i * 3)
        have f1 := fi (i * 3 + 1)
        have f2 := fi (i * 3 + 2)
        have hnj : nth m j = nth l j := by
          have h1 := drop_nth m j (by omega)
          have h2 := drop_nth l j (by rw [HN.out]; exact hjn)
          rw [hm3] at h1
          rw [h1] at h2
          exact (List.cons.inj h2).1
        have cc := fun (q : Nat) (hq : q < 3) => (hc (i * 3 + q) (by omega)).trans (flat_get Lk.cells 3 Lk.cells_len m i q (by omega) hq)
        have e0 := cc 0 (by omega)
        have e1 := cc 1 (by omega)
        have e2 := cc 2 (by omega)
        rw [hnj] at d0 d1 d2
        obtain ⟨x, hx⟩ : ∃ x, x = nth l j := ⟨_, rfl⟩
        rw [← hx] at d0 d1 d2
        generalize nth m i = y at *
        obtain ⟨xa, xb, xc⟩ := x
        obtain ⟨ya, yb, yc⟩ := y
        simp only [Lk.cells, List.getElem?_cons_zero, List.getElem?_cons_succ, Nat.add_zero] at d0 d1 d2 e0 e1 e2
        have HX := Lib.hid hx
        have hset := (((hO.set rfl (i * 3) (.int .i64 xa)).set rfl (i * 3 + 1) (.int .i64 xb)).set rfl (i * 3 + 2) (.int .i64 xc))
        rw [dcut_set m i ⟨xa, xb, xc⟩ (by omega)] at hset
        have HSET := Lib.hid hset
        have htk : l.take (j + 1) = l.take j ++ [nth l j] := take_succ_nth l j (by rw [HN.out]; exact hjn)
        have HTK := Lib.hid htk
        clear hc hf dd cc fi hx hset htk hm1 hm2 hm3 hnj hh2
        go_wp2_with (fail)
        refine (HP.out ⟨xa, xb, xc⟩ (by rw [HX.out]; exact nth_mem l j (by rw [HN.out]; exact hjn)) _ (hF.alloc _)).mono ?_
        rintro e2 w2 ⟨rfl, hF2⟩
        have hF02 := ((Fr.refl (fun _ => False) wr).alloc (.cells #[.int .i64 xa, .int .i64 xb, .int .i64 xc] 32)).trans hF2
        have hltb := Nat.lt_of_lt_of_le (show wr.heap.size < (wr.alloc (.cells #[.int .i64 xa, .int .i64 xb, .int .i64 xc] 32)).heap.size by simp) hF2.size
        have hbx := (Blk.made wr 32 [.int .i64 xa, .int .i64 xb, .int .i64 xc]).fr hF2 (fun h => h)
        have h0 := hbx.cell 0
        have h1 := hbx.cell 1
        have h2 := hbx.cell 2
        have e0 := (hF02.cell (p := ⟨g, i * 3, none⟩) hgl' (fun h => h)).trans e0
        have f0 := (hF02.frozen (p := ⟨g, i * 3, none⟩) hgl' (fun h => h)).trans f0
        have e1 := (hF02.cell (p := ⟨g, i * 3 + 1, none⟩) hgl' (fun h => h)).trans e1
        have f1 := (hF02.frozen (p := ⟨g, i * 3 + 1, none⟩) hgl' (fun h => h)).trans f1
        have e2 := (hF02.cell (p := ⟨g, i * 3 + 2, none⟩) hgl' (fun h => h)).trans e2
        have f2 := (hF02.frozen (p := ⟨g, i * 3 + 2, none⟩) hgl' (fun h => h)).trans f2
        have hgl2 := Nat.lt_of_lt_of_le hgl' hF02.size
        have hgne : g ≠ wr.heap.size := by omega
        simp only [List.getElem?_cons_zero, List.getElem?_cons_succ] at h0 h1 h2
        cases hpx : p ⟨xa, xb, xc⟩ with
        | false =>
          have hM' : Hid ((m.set i ⟨xa, xb, xc⟩).length = n ∧ (m.set i ⟨xa, xb, xc⟩).take (i + 1) = (l.take (j + 1)).filter (fun x => !p x) ∧ (m.set i ⟨xa, xb, xc⟩).drop (j + 1) = l.drop (j + 1)) := by
            obtain ⟨hm1, hm2, hm3⟩ := hM.out
            refine ⟨by simp [hm1], ?_, ?_⟩
            · rw [HTK.out, List.filter_append, ← hm2, ← HX.out]
              rw [take_succ_nth _ i (by simp; omega), nth_set _ _ _ _ (by omega), if_pos rfl, List.take_set_of_le (Nat.le_refl _)]
              simp [hpx]
            · rw [List.drop_set_of_lt (by omega), ← List.drop_drop, hm3, List.drop_drop]
          clear hpx hM
          have hO2 : Own (((w2.setCell ⟨g, i * 3, none⟩ (.int .i64 xa)).setCell ⟨g, i * 3 + 1, none⟩ (.int .i64 xb)).setCell ⟨g, i * 3 + 2, none⟩ (.int .i64 xc)).heap 32 3 (some ⟨g, 0, none⟩) n c ((m.set i ⟨xa, xb, xc⟩).flatMap Lk.cells) (some g) := by
            have h0 := hO.fr hF02 (fun _ _ h => h)
            have hset := (((h0.set rfl (i * 3) (.int .i64 xa)).set rfl (i * 3 + 1) (.int .i64 xb)).set rfl (i * 3 + 2) (.int .i64 xc))
            rw [dcut_set m i ⟨xa, xb, xc⟩ (by have := hM'.out.1; simp at this; omega)] at hset
            exact hset
          have HO2 := Lib.hid hO2
          clear hO2 hO hbx HSET
          go_wp2
          go_roundw
          case rel => exact ⟨j + 1, i + 1, m.set i ⟨xa, xb, xc⟩, by go_num, by go_num, by omega, by omega, HO2.out, hM', ((((hF.trans (hF02.none _)).setCell (fun _ => rfl) _).setCell (fun _ => rfl) _).setCell (fun _ => rfl) _)⟩
          case measure => simp [intOf]; omega
        | true =>
          have hM' : Hid (m.length = n ∧ m.take i = (l.take (j + 1)).filter (fun x => !p x) ∧ m.drop (j + 1) = l.drop (j + 1)) := by
            obtain ⟨hm1, hm2, hm3⟩ := hM.out
            refine ⟨hm1, ?_, ?_⟩
            · rw [HTK.out, List.filter_append, ← hm2, ← HX.out]
              simp [hpx]
            · rw [← List.drop_drop, hm3, List.drop_drop]
          have hO2 := hO.fr hF02 (fun _ _ h => h)
          clear hpx hM hO hbx HSET
          go_wp2
          go_roundw
          case rel => exact ⟨j + 1, i, m, by go_num, rfl, by omega, by omega, hO2, hM', hF.trans (hF02.none _)⟩
          case measure => simp [intOf]; omega
      · obtain rfl : j = n := by omega
        have hcap := hO.cap
        have hne : ¬ c = i := by omega
        go_wp2_with (refine wpList_clr rfl _ 22 rfl Tryd.underlying22 zerodcut rfl (by simp [Value.cells, Value.oneCell']) (i := i) (m := j - i) rfl hO (by omega) (by omega) ?_)
        intro w3 hO3 hF3
        have htk : (m.flatMap Lk.cells).take (i * 3) = (l.filter fun x => !p x).flatMap Lk.cells := by
          obtain ⟨hm1, hm2, hm3⟩ := hM.out
          rw [flat_take Lk.cells 3 Lk.cells_len, hm2, List.take_of_length_le (by rw [HN.out]; omega)]
        rw [htk] at hO3
        have hml : i = (l.filter fun x => !p x).length := by
          have := hO3.len
          rw [flat_len _ 3 Lk.cells_len] at this
          omega
        have HML := Lib.hid hml
        have hF03 : Fr (fun k => some g = some k) w w3 := hF.trans (hF3.mono (fun k _ h => by rw [h]))
        clear hO hM htk hml hF3
        go_wp2
        go_ret
        exact ⟨some ⟨g, 0, none⟩, c, i, rfl, HML.out, hO3, hF03⟩
  · have hfl : l.filter (fun x => !p x) = l := List.filter_eq_self.2 (fun x hx => by
      obtain ⟨j, hj, rfl⟩ := List.getElem_of_mem hx
      have h1 := hno j hj
      rw [nth_eq l j hj] at h1
      simp [h1])
    have HFL := Lib.hid hfl
    clear hfl hno hO hL
    go_wp2
    go_ret
    exact ⟨a, c, n, rfl, by rw [HFL.out, HN.out], by rw [HFL.out]; exact hO1, hF1.none _⟩
end Go.Proofs.YtakkljdeencfbaaDoor
