import Derived.Test.YtfglidaicjjpfaaGreatDoorQTel26
import Derived.Test.YtfglidaicjjpfaaGreatDoorQTel17
import Derived.Deep.CutBlock
import Derived.Deep.CutRange
import Derived.Deep.DeepCutAuto
section
namespace Go.Proofs.YtfglidaicjjpfaaGreatDoor
open Go.RowKit

theorem td_set5 (L : List Td) (k : Nat) (h : k < L.length) (y : Td) : ((((((L.flatMap Td.cells).set (k * 5) (.int .i64 y.f)).set (k * 5 + 1) (.int .u32 y.a)).set (k * 5 + 2) (.int .i64 y.n)).set (k * 5 + 3) (.int .i64 y.m)).set (k * 5 + 4) (.int .i64 y.t)) = (L.set k y).flatMap Td.cells := by
  induction L generalizing k with
  | nil => simp at h
  | cons x L ih =>
    cases k with
    | zero => simp
    | succ k =>
      have := ih k (by simpa using h)
      rw [List.set_cons_succ, List.flatMap_cons, List.flatMap_cons, ← this]
      have hl : (Td.cells x).length = 5 := rfl
      rw [List.set_append_right _ _ (by omega), List.set_append_right _ _ (by omega), List.set_append_right _ _ (by omega), List.set_append_right _ _ (by omega), List.set_append_right _ _ (by omega)]
      rw [hl, show (k + 1) * 5 - 5 = k * 5 by omega, show (k + 1) * 5 + 1 - 5 = k * 5 + 1 by omega, show (k + 1) * 5 + 2 - 5 = k * 5 + 2 by omega, show (k + 1) * 5 + 3 - 5 = k * 5 + 3 by omega, show (k + 1) * 5 + 4 - 5 = k * 5 + 4 by omega]
theorem key_idx {now : Int} {A : List Td} (hb : RibOk now A) {f a n : Int} {i : Nat} (hi : i < A.length) (h : (nth A i).f = f ∧ (nth A i).a = a ∧ (nth A i).n = n) : rIdx A f a n = i := by
  obtain ⟨h1, h2, h3⟩ := h
  subst h1; subst h2; subst h3
  refine rIdx_unique A _ _ _ i (Nat.le_of_lt hi) (fun j hj => ?_) (fun _ => ?_)
  · have := List.pairwise_iff_getElem.1 hb.ord j i (by omega) hi hj
    rw [nth_eq A j (by omega), nth_eq A i hi]
    exact this
  · unfold tdAhead netLess
    omega
theorem key_is {now : Int} {A : List Td} (hb : RibOk now A) {f a n : Int} {i : Nat} (hi : i < A.length) (h : (nth A i).f = f ∧ (nth A i).a = a ∧ (nth A i).n = n) : rIs A f a n := by
  unfold rIs
  rw [key_idx hb hi h]
  exact ⟨hi, h⟩
theorem key_not {A : List Td} {f a n : Int} (h : ∀ j, j < A.length → ¬ ((nth A j).f = f ∧ (nth A j).a = a ∧ (nth A j).n = n)) : ¬ rIs A f a n := fun hr => h _ hr.1 hr.2
/-- What is learnt, by value. -/
def RetLearn (w : World) (now0 : Int) (a : Option Addr) (n c : Nat) (now : Int) (r : Except Int (List Td)) (e : Ending) (w' : World) : Prop :=
  match r with
  | .error k => RetV w (.tuple #[.agg #[.int .i64 now0, .slice a n c], .int .i64 k]) e w'
  | .ok l => ∃ a' c' ob, e = .returned (.tuple #[.agg #[.int .i64 now, .slice a' l.length c'], .int .i64 0]) ∧ Ownd w'.heap 107 5 a' l.length c' (l.flatMap Td.cells) ob ∧ Fr (fun _ => False) w w' ∧ (∀ g, ob = some g → w.heap.size ≤ g)
theorem RetLearn.err {w w' : World} {now0 now k : Int} {a : Option Addr} {n c : Nat} {r : Except Int (List Td)} {e : Ending} (h : r = .error k) (he : e = .returned (.tuple #[.agg #[.int .i64 now0, .slice a n c], .int .i64 k])) (hF : Fr (fun _ => False) w w') : RetLearn w now0 a n c now r e w' := by
  subst h; exact ⟨he, hF⟩
theorem RetLearn.ok {w w' : World} {now0 now : Int} {a a' : Option Addr} {n c m c' : Nat} {ob : Option Nat} {xs : List Value} {r : Except Int (List Td)} {l : List Td} {e : Ending} (h : r = .ok l) (he : e = .returned (.tuple #[.agg #[.int .i64 now, .slice a' m c'], .int .i64 0])) (hm : m = l.length) (hx : xs = l.flatMap Td.cells) (hO : Ownd w'.heap 107 5 a' m c' xs ob) (hF : Fr (fun _ => False) w w') (hN : ∀ g, ob = some g → w.heap.size ≤ g) : RetLearn w now0 a n c now r e w' := by
  subst h; subst hm; subst hx; exact ⟨a', c', ob, he, hO, hF, hN⟩
/-- The boxes of a call. -/
structure LB (H : Array Obj) (B : Nat) (now0 : Int) (a : Option Addr) (n c : Nat) (na nn : Int) : Prop where
  b5 : Blk H B 56 [.int .i64 now0, .slice a n c]
  b7 : Blk H (B + 1) 52 [.int .u32 na, .int .i64 nn]
  b10 : Blk H (B + 2) 56 [.int .i64 0, .slice none 0 0]
theorem LB.fr {w w' : World} {S : Nat → Prop} {B : Nat} {now0 : Int} {a : Option Addr} {n c : Nat} {na nn : Int} (h : LB w.heap B now0 a n c na nn) (f : Fr S w w') (hs : ∀ k, k ≤ B + 2 → ¬ S k) : LB w'.heap B now0 a n c na nn :=
  ⟨h.b5.fr f (hs _ (by omega)), h.b7.fr f (hs _ (by omega)), h.b10.fr f (hs _ (by omega))⟩
theorem LB.fr0 {w w' : World} {B : Nat} {now0 : Int} {a : Option Addr} {n c : Nat} {na nn : Int} (h : LB w.heap B now0 a n c na nn) (f : Fr (fun _ => False) w w') : LB w'.heap B now0 a n c na nn := h.fr f (fun _ _ h => h)
theorem LB.cells {w : World} {B : Nat} {now0 : Int} {a : Option Addr} {n c : Nat} {na nn : Int} (h : LB w.heap B now0 a n c na nn) : w.cell? ⟨B, 0, none⟩ = some (.int .i64 now0) ∧ w.cell? ⟨B, 1, none⟩ = some (.slice a n c) ∧ w.cell? ⟨B + 1, 0, none⟩ = some (.int .u32 na) ∧ w.cell? ⟨B + 1, 1, none⟩ = some (.int .i64 nn) ∧
    w.cell? ⟨B + 2, 0, none⟩ = some (.int .i64 0) ∧ w.cell? ⟨B + 2, 1, none⟩ = some (.slice none 0 0) ∧ w.frozen? ⟨B + 2, 0, none⟩ = false ∧ w.frozen? ⟨B + 2, 1, none⟩ = false ∧ B + 2 < w.heap.size :=
  ⟨h.b5.cell 0, h.b5.cell 1, h.b7.cell 0, h.b7.cell 1, h.b10.cell 0, h.b10.cell 1, h.b10.frozen 0, h.b10.frozen 1, h.b10.lt⟩

set_option maxRecDepth 100000 in
set_option maxHeartbeats 40000000 in
theorem qlearnt_any (l : List Td) (a : Option Addr) (c : Nat) (now0 f na nn m now : Int) (w : World) (hL : Recs w.heap a 5 Td.cells l) (hb : RibOk now0 l) (ha : 0 ≤ na ∧ na < 4294967296) :
    Calls Tryz.prog 53 #[.agg #[.int .i64 now0, .slice a l.length c], .int .i64 f, .agg #[.int .u32 na, .int .i64 nn], .int .i64 m, .int .i64 now] w (RetLearn w now0 a l.length c now (learnE now0 l f na nn m now)) := by
  obtain ⟨E, hE⟩ : ∃ E, E = learnE now0 l f na nn m now := ⟨_, rfl⟩
  rw [← hE]
  have HE := Lib.hid hE
  have k0 : LB (((w.alloc (.cells #[.int .i64 now0, .slice a l.length c] 56)).alloc (.cells #[.int .u32 na, .int .i64 nn] 52)).alloc (.cells #[.int .i64 0, .slice none 0 0] 56)).heap w.heap.size now0 a l.length c na nn := by
    have h1 := ((Blk.made w 56 [.int .i64 now0, .slice a l.length c]).alloc (.cells #[.int .u32 na, .int .i64 nn] 52)).alloc (.cells #[.int .i64 0, .slice none 0 0] 56)
    have h2 := (Blk.made (w.alloc (.cells #[.int .i64 now0, .slice a l.length c] 56)) 52 [.int .u32 na, .int .i64 nn]).alloc (.cells #[.int .i64 0, .slice none 0 0] 56)
    have h3 := Blk.made ((w.alloc (.cells #[.int .i64 now0, .slice a l.length c] 56)).alloc (.cells #[.int .u32 na, .int .i64 nn] 52)) 56 [.int .i64 0, .slice none 0 0]
    rw [show (w.alloc (.cells #[.int .i64 now0, .slice a l.length c] 56)).heap.size = w.heap.size + 1 by simp] at h2
    rw [show ((w.alloc (.cells #[.int .i64 now0, .slice a l.length c] 56)).alloc (.cells #[.int .u32 na, .int .i64 nn] 52)).heap.size = w.heap.size + 2 by simp] at h3
    exact ⟨h1, h2, h3⟩
  have hF0 := (((Fr.refl (fun _ => False) w).alloc (.cells #[.int .i64 now0, .slice a l.length c] 56)).alloc (.cells #[.int .u32 na, .int .i64 nn] 52)).alloc (.cells #[.int .i64 0, .slice none 0 0] 56)
  clear hE
  go_enter Tryz.func53, Tryz.ntmps53
  go_wp2_with (fail)
  generalize (((w.alloc (.cells #[.int .i64 now0, .slice a l.length c] 56)).alloc (.cells #[.int .u32 na, .int .i64 nn] 52)).alloc (.cells #[.int .i64 0, .slice none 0 0] 56)) = W0 at *
  refine (timeFault_any now0 f now a l.length c W0).mono ?_
  rintro e1 w1 ⟨rfl, hF1⟩
  have k1 := k0.fr0 hF1
  have hG1 := hF0.trans hF1
  clear k0 hF0 hF1
  obtain ⟨x1, x2, x3, x4, x5, x6, x7, x8, x9⟩ := k1.cells
  by_cases hck : ckErr now0 f now
  · skip
    have HX := Lib.hid (HE.out.trans (show learnE now0 l f na nn m now = .error 1 from if_pos hck))
    rw [show numO (ckO now0 f now) = 1 by unfold ckO; rw [if_pos hck]; rfl]
    clear hck
    have hBe := (k1.b10.set 0 (.int .i64 now0)).set 1 (.slice a l.length c)
    have y0 := hBe.cell 0
    have y1 := hBe.cell 1
    simp only [List.getElem?_cons_succ, List.getElem?_cons_zero, List.set_cons_succ, List.set_cons_zero] at y0 y1
    have HFE := Lib.hid ((hG1.setCell (p := ⟨w.heap.size + 2, 0, none⟩) (fun h => by have h2 : w.heap.size + 2 < w.heap.size := h; omega) (.int .i64 now0)).setCell (p := ⟨w.heap.size + 2, 1, none⟩) (fun h => by have h2 : w.heap.size + 2 < w.heap.size := h; omega) (.slice a l.length c))
    clear hBe
    go_wp2
    refine bodyPost_ret (v := .tuple #[.agg #[.int .i64 now0, .slice a l.length c], .int .i64 1]) (by simp [results, Tryz.results53, go_sem, y0, y1]) rfl ?_
    exact RetLearn.err HX.out rfl HFE.out
  · have HCK := Lib.hid hck
    obtain ⟨t1, t2⟩ : now0 ≤ now ∧ now ≤ 1099511627776 := by unfold ckErr at hck; omega
    rw [show numO (ckO now0 f now) = 0 by unfold ckO; rw [if_neg hck]; rfl]
    clear hck
    go_wp2_with (fail)
    refine (netFault_any na nn w1 ha).mono ?_
    rintro e2 w2 ⟨rfl, hF2⟩
    have k2 := k1.fr0 hF2
    have hG2 := hG1.trans hF2
    clear k1 hG1 hF2 x1 x2 x3 x4 x5 x6 x7 x8 x9
    obtain ⟨x1, x2, x3, x4, x5, x6, x7, x8, x9⟩ := k2.cells
    cases hne : netErr na nn with
    | some q =>
      skip
      have HX := Lib.hid (HE.out.trans (show learnE now0 l f na nn m now = .error q by unfold learnE; rw [if_neg HCK.out]; simp only [hne]))
      have HNE := Lib.hid hne
      have hq0 : (q != 0) = true := by simpa using netErr_pos hne
      clear hne
      rw [show numO (some q) = q from rfl]
      have hd : ∀ c0 : Cls (fun _ => False) w2, c0.wo.cell? ⟨w.heap.size, 0, none⟩ = some (.int .i64 now0) ∧ c0.wo.cell? ⟨w.heap.size, 1, none⟩ = some (.slice a l.length c) := fun c0 => ⟨(k2.fr0 c0.fr).cells.1, (k2.fr0 c0.fr).cells.2.1⟩
      have hd0 := fun c0 => (hd c0).1
      have hd1 := fun c0 => (hd c0).2
      clear hd
      go_wp2
      (refine wp_region_mix (fun w' => ∃ c : Cls (fun _ => False) w2, w' = c.wo) 3 (by kernel_rfl) (by kernel_rfl) (⟨⟨_, (Fr.refl _ _).drew⟩, rfl⟩) ?_; simp only [List.take_succ_cons, List.take_zero, List.drop_succ_cons, List.drop_zero])
      (refine wpMix_lateN 1 (⟨⟨_, (Fr.refl _ _).drew⟩, rfl⟩) (by kernel_rfl) ?_; simp only [List.take_succ_cons, List.take_zero, List.drop_succ_cons, List.drop_zero]; (repeat (go_big_quiet_step (fail))); refine wpQuiet_nil ?_)
      (refine wpMix_earlyN 1 (by kernel_rfl) (by kernel_rfl) ?_; simp only [List.take_succ_cons, List.take_zero, List.drop_succ_cons, List.drop_zero]; (repeat (go_big_quiet_step (fail))); refine wpQuiet_nil ?_)
      refine wpMix_eff (by kernel_rfl) ?_
      go_wp2_with (fail)
      refine (netFault_any na nn w2.drew ha).mono ?_
      rintro e3 w3 ⟨rfl, hF3⟩
      rw [HNE.out, show numO (some q) = q from rfl]
      have hF23 : Fr (fun _ => False) w2 w3 := (Fr.refl (fun _ => False) w2).drew.trans hF3
      have k3 := k2.fr0 hF23
      have hG3 := hG2.trans hF23
      clear k2 hG2 hF3 hd0 hd1
      clear x1 x2 x3 x4 x5 x6 x7 x8 x9
      obtain ⟨x1, x2, x3, x4, x5, x6, x7, x8, x9⟩ := k3.cells
      go_wp2
      refine ⟨⟨⟨_, hF23⟩, rfl⟩, ?_⟩
      refine wpMix_nil ?_
      have hBe := (k3.b10.set 0 (.int .i64 now0)).set 1 (.slice a l.length c)
      have y0 := hBe.cell 0
      have y1 := hBe.cell 1
      simp only [List.getElem?_cons_succ, List.getElem?_cons_zero, List.set_cons_succ, List.set_cons_zero] at y0 y1
      have HFE := Lib.hid ((hG3.setCell (p := ⟨w.heap.size + 2, 0, none⟩) (fun h => by have h2 : w.heap.size + 2 < w.heap.size := h; omega) (.int .i64 now0)).setCell (p := ⟨w.heap.size + 2, 1, none⟩) (fun h => by have h2 : w.heap.size + 2 < w.heap.size := h; omega) (.slice a l.length c))
      clear hBe
      go_wp2
      refine bodyPost_ret (v := .tuple #[.agg #[.int .i64 now0, .slice a l.length c], .int .i64 q]) (by simp [results, Tryz.results53, go_sem, y0, y1]) rfl ?_
      exact RetLearn.err HX.out rfl HFE.out
    | none =>
      have HNE := Lib.hid hne
      clear hne
      rw [show numO none = 0 from rfl]
      by_cases hmm : m < 1 ∨ 16 < m
      · skip
        have HX := Lib.hid (HE.out.trans (show learnE now0 l f na nn m now = .error 1 by unfold learnE; rw [if_neg HCK.out]; simp only [HNE.out]; rw [if_pos hmm]))
        have hm2 : m < 1 ∨ (1 ≤ m ∧ 16 < m) := by omega
        clear hmm
        rcases hm2 with q1 | ⟨q1, q2⟩
        all_goals
          have hBe := (k2.b10.set 0 (.int .i64 now0)).set 1 (.slice a l.length c)
          have y0 := hBe.cell 0
          have y1 := hBe.cell 1
          simp only [List.getElem?_cons_succ, List.getElem?_cons_zero, List.set_cons_succ, List.set_cons_zero] at y0 y1
          have HFE := Lib.hid ((hG2.setCell (p := ⟨w.heap.size + 2, 0, none⟩) (fun h => by have h2 : w.heap.size + 2 < w.heap.size := h; omega) (.int .i64 now0)).setCell (p := ⟨w.heap.size + 2, 1, none⟩) (fun h => by have h2 : w.heap.size + 2 < w.heap.size := h; omega) (.slice a l.length c))
          clear hBe
          go_wp2
          refine bodyPost_ret (v := .tuple #[.agg #[.int .i64 now0, .slice a l.length c], .int .i64 1]) (by simp [results, Tryz.results53, go_sem, y0, y1]) rfl ?_
          exact RetLearn.err HX.out rfl HFE.out
      · have HMM := Lib.hid hmm
        obtain ⟨m1, m2⟩ : 1 ≤ m ∧ m ≤ 16 := by omega
        clear hmm
        go_wp2_with (fail)
        refine (qaged_any l a c now0 now w2 (hL.fr0 hG2 (fun _ _ h => h)) hb t1 t2).mono ?_
        rintro e3 w3 ⟨a1, c1, o1, rfl, hO1, hF3, hN1⟩
        have hbA := rAged_ok hb t1 t2
        have hP : E = rPut (rAged now l) f na nn m now := by rw [HE.out]; unfold learnE; rw [if_neg HCK.out]; simp only [HNE.out]; rw [if_neg HMM.out]
        obtain ⟨A, hA⟩ : ∃ A, A = rAged now l := ⟨_, rfl⟩
        rw [← hA] at hO1 hbA hP ⊢
        have HP := Lib.hid hP
        clear hA hP HE
        obtain ⟨M, hM⟩ : ∃ M, M = A.length := ⟨_, rfl⟩
        have hMl : M ≤ 64 := by rw [hM]; exact hbA.len
        rw [← hM] at hO1 ⊢
        have HM := Lib.hid hM
        have HBA := Lib.hid hbA
        have k3 := k2.fr0 hF3
        have hG3 := hG2.trans hF3
        have hw23 : w.heap.size + 3 ≤ w2.heap.size := x9
        have hw33 : w.heap.size + 3 ≤ w3.heap.size := Nat.le_trans hw23 hF3.size
        have hN3 : ∀ g, o1 = some g → w.heap.size + 3 ≤ g := fun g hg => Nat.le_trans hw23 (hN1 g hg)
        have hA1l0 := hO1.lt
        have n3 : ¬ w3.heap.size = w.heap.size + 2 := by omega
        clear k2 hG2 hF3 hN1 hM hbA hL hb x1 x2 x3 x4 x5 x6 x7 x8 x9
        obtain ⟨x1, x2, x3, x4, x5, x6, x7, x8, x9⟩ := k3.cells
        have hA1l : ∀ g, a1 = some ⟨g, 0, none⟩ → g < w3.heap.size := fun g hg => by
          rcases hO1.is with ⟨h1, _⟩ | ⟨g', _, h1, h2, _⟩
          · rw [h1] at hg; cases hg
          · rw [h1] at hg; cases hg; exact hA1l0 _ h2
        go_upto_block 0 with (fail)
        go_cut [13] (fun s13 wx => LB wx.heap w.heap.size now0 a l.length c na nn ∧ Fr (fun _ => False) w wx ∧ Ownd wx.heap 107 5 a1 M c1 (A.flatMap Td.cells) o1 ∧ Blk wx.heap w3.heap.size 56 [.int .i64 now, .slice a1 M c1] ∧ Hid (¬ rIs A f na nn))
        case first =>
          go_wp2
          go_loopw [13] (fun s13 wr => ∃ (k : Nat), k ≤ M ∧ s13 = .int .i64 k ∧ LB wr.heap w.heap.size now0 a l.length c na nn ∧ Fr (fun _ => False) w wr ∧ Ownd wr.heap 107 5 a1 M c1 (A.flatMap Td.cells) o1 ∧ Blk wr.heap w3.heap.size 56 [.int .i64 now, .slice a1 M c1] ∧ Hid (∀ j, j < k → ¬ ((nth A j).f = f ∧ (nth A j).a = na ∧ (nth A j).n = nn))) (fun s _ => M - (intOf s).toNat)
          case atStart => exact ⟨0, by omega, rfl, k3.fr0 ((Fr.refl _ _).alloc _), hG3.alloc _, hO1.alloc _, Blk.made _ _ _, Lib.hid (fun j hj => absurd hj (Nat.not_lt_zero _))⟩
          case round =>
            obtain ⟨k, hk, rfl, kr, hFwr, hOr, hBr, hJ⟩ := hrel
            clear k3 hG3 hO1 x1 x2 x3 x4 x5 x6 x7 x8 x9
            obtain ⟨x1, x2, x3, x4, x5, x6, x7, x8, x9⟩ := kr.cells
            have b0 := hBr.cell 0
            have b1 := hBr.cell 1
            simp only [List.getElem?_cons_succ, List.getElem?_cons_zero] at b0 b1
            by_cases hkM : k < M
            · have HKA : Hid (k < A.length) := Lib.hid (by rw [← HM.out]; exact hkM)
              obtain ⟨g, rfl, rfl, hg, hc, hfz⟩ := hOr.pos (by omega)
              have dd := fun (j : Nat) (hj : j < 5) => (hc (k * 5 + j) (by omega)).trans (flat_get _ 5 Td.cells_len A k j HKA.out hj)
              have d0 := dd 0 (by omega)
              have d1 := dd 1 (by omega)
              have d2 := dd 2 (by omega)
              have d3 := dd 3 (by omega)
              have d4 := dd 4 (by omega)
              have z0 := hfz (k * 5)
              have z1 := hfz (k * 5 + 1)
              have z2 := hfz (k * 5 + 2)
              have z3 := hfz (k * 5 + 3)
              have z4 := hfz (k * 5 + 4)
              obtain ⟨x, hx⟩ : ∃ x, x = nth A k := ⟨_, rfl⟩
              rw [← hx] at d0 d1 d2 d3 d4
              obtain ⟨xf, xa, xn, xm, xt⟩ := x
              simp only [Td.cells, List.getElem?_cons_zero, List.getElem?_cons_succ, Nat.add_zero] at d0 d1 d2 d3 d4
              have HY := Lib.hid hx
              have hgn := hN3 g rfl
              have hgl := hA1l g rfl
              have n1 : ¬ g = w3.heap.size := by omega
              have n2 : ¬ g = w.heap.size + 2 := by omega
              have hx16 : xm ≤ 16 := by have := (HBA.out.each _ (nth_mem A k HKA.out)).m1; rw [← HY.out] at this; exact this
              clear hc dd hfz hx
              by_cases hkey : xf = f ∧ xa = na ∧ xn = nn
              · have e1 : (xf == f) = true := by simp [hkey.1]
                have e2 : (xa == na) = true := by simp [hkey.2.1]
                have e3 : (xn == nn) = true := by simp [hkey.2.2]
                have hkk : (nth A k).f = f ∧ (nth A k).a = na ∧ (nth A k).n = nn := by rw [← HY.out]; exact hkey
                have HIDX := Lib.hid (key_idx HBA.out HKA.out hkk)
                have HIS := Lib.hid (key_is HBA.out HKA.out hkk)
                clear hkey hkk
                by_cases h16 : m = 16 ∧ xm = 16
                · skip
                  obtain ⟨q1, q2⟩ := h16
                  have HX := Lib.hid (HP.out.trans (show rPut A f na nn m now = .ok A by unfold rPut; rw [if_pos HIS.out, HIDX.out, ← HY.out, if_pos ⟨q1, q2⟩]))
                  have e4 : ¬ m < 16 := by omega
                  have e5 : ¬ xm < 16 := by omega
                  clear q1 q2
                  go_wp2
                  go_quiet (fail)
                  have kq := kr.fr0 ((Fr.refl (fun _ => False) wr).drewN nq)
                  have hFq := hFwr.drewN nq
                  have hOq := hOr.fr ((Fr.refl (fun _ => False) wr).drewN nq) (fun _ _ h => h)
                  clear kr hFwr hOr hBr
                  have HOE := Lib.hid ((hOq.other (p := ⟨w.heap.size + 2, 0, none⟩) (fun h => by have h2 := hN3 _ h; have h3 : w.heap.size + 3 ≤ w.heap.size + 2 := h2; omega) (.int .i64 now)).other (p := ⟨w.heap.size + 2, 1, none⟩) (fun h => by have h2 := hN3 _ h; have h3 : w.heap.size + 3 ≤ w.heap.size + 2 := h2; omega) (.slice (some ⟨g, 0, none⟩) M c1))

                  have hBe := (kq.b10.set 0 (.int .i64 now)).set 1 (.slice (some ⟨g, 0, none⟩) M c1)
                  have y0 := hBe.cell 0
                  have y1 := hBe.cell 1
                  simp only [List.getElem?_cons_succ, List.getElem?_cons_zero, List.set_cons_succ, List.set_cons_zero] at y0 y1
                  have HFE := Lib.hid ((hFq.setCell (p := ⟨w.heap.size + 2, 0, none⟩) (fun h => by have h2 : w.heap.size + 2 < w.heap.size := h; omega) (.int .i64 now)).setCell (p := ⟨w.heap.size + 2, 1, none⟩) (fun h => by have h2 : w.heap.size + 2 < w.heap.size := h; omega) (.slice (some ⟨g, 0, none⟩) M c1))
                  clear hBe
                  go_wp2
                  refine bodyPost_ret (v := .tuple #[.agg #[.int .i64 now, .slice (some ⟨g, 0, none⟩) M c1], .int .i64 0]) (by simp [results, Tryz.results53, go_sem, y0, y1]) rfl ?_
                  exact RetLearn.ok HX.out rfl HM.out rfl HOE.out HFE.out (fun g hg => by have := hN3 g hg; omega)
                · skip
                  have HX := Lib.hid (HP.out.trans (show rPut A f na nn m now = .ok (A.set k ⟨f, na, nn, m, now⟩) by unfold rPut; rw [if_pos HIS.out, HIDX.out, ← HY.out, if_neg h16]))
                  have hor : m < 16 ∨ (16 ≤ m ∧ xm < 16) := by omega
                  clear h16
                  rcases hor with e4 | ⟨e4, e5⟩
                  all_goals
                    go_wp2
                    go_quiet (fail)
                    have hFq0 := (Fr.refl (fun _ => False) wr).drewN nq
                    have hOq := hOr.fr hFq0 (fun _ _ h => h)
                    have hO5 := ((((hOq.set rfl (k * 5) (.int .i64 f)).set rfl (k * 5 + 1) (.int .u32 na)).set rfl (k * 5 + 2) (.int .i64 nn)).set rfl (k * 5 + 3) (.int .i64 m)).set rfl (k * 5 + 4) (.int .i64 now)
                    rw [td_set5 A k HKA.out ⟨f, na, nn, m, now⟩] at hO5
                    have hSS := (((((Fr.refl (fun i => i = g) (wr.drewN nq)).setCell (p := ⟨g, k * 5, none⟩) (fun _ => rfl) (.int .i64 f)).setCell (p := ⟨g, k * 5 + 1, none⟩) (fun _ => rfl) (.int .u32 na)).setCell (p := ⟨g, k * 5 + 2, none⟩) (fun _ => rfl) (.int .i64 nn)).setCell (p := ⟨g, k * 5 + 3, none⟩) (fun _ => rfl) (.int .i64 m)).setCell (p := ⟨g, k * 5 + 4, none⟩) (fun _ => rfl) (.int .i64 now)
                    have HK5 := Lib.hid ((kr.fr0 hFq0).fr hSS (fun i hi h => by omega))
                    have HF5 := Lib.hid ((hFwr.drewN nq).trans' hSS (fun i hi h => by omega))
                    have HB5 := Lib.hid ((hBr.fr hFq0 (fun h => h)).fr hSS (fun h => by omega))
                    have HO5 := Lib.hid hO5
                    have hlS : Hid (M = (A.set k ⟨f, na, nn, m, now⟩).length) := Lib.hid (by rw [List.length_set]; exact HM.out)
                    clear hFq0 hOq hO5 hSS kr hFwr hOr hBr
                    go_upto_region 13 with (fail)
                    go_cut [13] from 38 to 87 (fun s13 wx => s13 = .int .i64 k ∧ LB wx.heap w.heap.size now0 a l.length c na nn ∧ Fr (fun _ => False) w wx ∧ Ownd wx.heap 107 5 (some ⟨g, 0, none⟩) M c1 ((A.set k ⟨f, na, nn, m, now⟩).flatMap Td.cells) (some g) ∧ Blk wx.heap w3.heap.size 56 [.int .i64 now, .slice (some ⟨g, 0, none⟩) M c1])
                    case first =>
                      go_wp2
                      go_meet
                      case rel => exact ⟨rfl, HK5.out, HF5.out, HO5.out, HB5.out⟩
                    case rest =>
                    obtain ⟨rfl, k5, hF5, hO5, hB5⟩ := hcut
                    clear x1 x2 x3 x4 x5 x6 x7 x8 x9 b0 b1 d0 d1 d2 d3 d4 z0 z1 z2 z3 z4
                    obtain ⟨x1, x2, x3, x4, x5, x6, x7, x8, x9⟩ := k5.cells
                    have b0 := hB5.cell 0
                    have b1 := hB5.cell 1
                    simp only [List.getElem?_cons_succ, List.getElem?_cons_zero] at b0 b1
                    clear hB5
                    have HOE := Lib.hid ((hO5.other (p := ⟨w.heap.size + 2, 0, none⟩) (fun h => by have h2 := hN3 _ h; have h3 : w.heap.size + 3 ≤ w.heap.size + 2 := h2; omega) (.int .i64 now)).other (p := ⟨w.heap.size + 2, 1, none⟩) (fun h => by have h2 := hN3 _ h; have h3 : w.heap.size + 3 ≤ w.heap.size + 2 := h2; omega) (.slice (some ⟨g, 0, none⟩) M c1))

                    have hBe := (k5.b10.set 0 (.int .i64 now)).set 1 (.slice (some ⟨g, 0, none⟩) M c1)
                    have y0 := hBe.cell 0
                    have y1 := hBe.cell 1
                    simp only [List.getElem?_cons_succ, List.getElem?_cons_zero, List.set_cons_succ, List.set_cons_zero] at y0 y1
                    have HFE := Lib.hid ((hF5.setCell (p := ⟨w.heap.size + 2, 0, none⟩) (fun h => by have h2 : w.heap.size + 2 < w.heap.size := h; omega) (.int .i64 now)).setCell (p := ⟨w.heap.size + 2, 1, none⟩) (fun h => by have h2 : w.heap.size + 2 < w.heap.size := h; omega) (.slice (some ⟨g, 0, none⟩) M c1))
                    clear hBe
                    go_wp2
                    refine bodyPost_ret (v := .tuple #[.agg #[.int .i64 now, .slice (some ⟨g, 0, none⟩) M c1], .int .i64 0]) (by simp [results, Tryz.results53, go_sem, y0, y1]) rfl ?_
                    exact RetLearn.ok HX.out rfl hlS.out rfl HOE.out HFE.out (fun g hg => by have := hN3 g hg; omega)
              · have hJ' := Lib.hid (show ∀ j, j < k + 1 → ¬ ((nth A j).f = f ∧ (nth A j).a = na ∧ (nth A j).n = nn) from fun j hj => by
                  rcases Nat.lt_succ_iff_lt_or_eq.1 hj with h | h
                  · exact hJ.out j h
                  · subst h; rw [← HY.out]; exact hkey)
                have q : (xf == f) = false ∨ ((xf == f) = true ∧ ((xa == na) = false ∨ ((xa == na) = true ∧ (xn == nn) = false))) := by
                  simp only [beq_eq_false_iff_ne, beq_iff_eq, ne_eq]
                  omega
                clear hkey
                rcases q with e1 | ⟨e1, e2 | ⟨e2, e3⟩⟩
                all_goals
                  go_wp2
                  go_quiet (fail)
                  go_wp2
                  go_roundw
                  case rel => exact ⟨k + 1, by omega, by go_num, kr.fr0 ((Fr.refl _ _).drewN _), hFwr.drewN _, hOr.fr (S := fun _ => False) ((Fr.refl _ _).drewN _) (fun _ _ h => h), hBr.fr (S := fun _ => False) ((Fr.refl _ _).drewN _) (fun h => h), hJ'⟩
                  case measure => simp [intOf]; omega
            · obtain rfl : k = M := by omega
              have HNIS := Lib.hid (show ¬ rIs A f na nn from key_not (fun j hj => hJ.out j (by rw [HM.out]; exact hj)))
              clear hJ hkM hk
              go_wp2
              go_meet
              exact ⟨kr, hFwr, hOr, hBr, HNIS⟩
        case rest =>
          obtain ⟨kr, hFwr, hOr, hBr, HNIS⟩ := hcut
          clear k3 hG3 hO1 x1 x2 x3 x4 x5 x6 x7 x8 x9
          obtain ⟨x1, x2, x3, x4, x5, x6, x7, x8, x9⟩ := kr.cells
          have b0 := hBr.cell 0
          have b1 := hBr.cell 1
          have bl := hBr.lt
          simp only [List.getElem?_cons_succ, List.getElem?_cons_zero] at b0 b1
          by_cases h16 : m = 16
          · have HX := Lib.hid (HP.out.trans (show rPut A f na nn m now = .ok A by unfold rPut; rw [if_neg HNIS.out, if_pos h16]))
            have e4 : (m == 16) = true := by simp [h16]
            clear h16
            skip
            have hn0 := hN3
            have HOE := Lib.hid ((hOr.other (p := ⟨w.heap.size + 2, 0, none⟩) (fun h => by have h2 := hn0 _ h; have h3 : w.heap.size + 3 ≤ w.heap.size + 2 := h2; omega) (.int .i64 now)).other (p := ⟨w.heap.size + 2, 1, none⟩) (fun h => by have h2 := hn0 _ h; have h3 : w.heap.size + 3 ≤ w.heap.size + 2 := h2; omega) (.slice a1 M c1))

            have hBe := (kr.b10.set 0 (.int .i64 now)).set 1 (.slice a1 M c1)
            have y0 := hBe.cell 0
            have y1 := hBe.cell 1
            simp only [List.getElem?_cons_succ, List.getElem?_cons_zero, List.set_cons_succ, List.set_cons_zero] at y0 y1
            have HFE := Lib.hid ((hFwr.setCell (p := ⟨w.heap.size + 2, 0, none⟩) (fun h => by have h2 : w.heap.size + 2 < w.heap.size := h; omega) (.int .i64 now)).setCell (p := ⟨w.heap.size + 2, 1, none⟩) (fun h => by have h2 : w.heap.size + 2 < w.heap.size := h; omega) (.slice a1 M c1))
            clear hBe
            go_wp2
            refine bodyPost_ret (v := .tuple #[.agg #[.int .i64 now, .slice a1 M c1], .int .i64 0]) (by simp [results, Tryz.results53, go_sem, y0, y1]) rfl ?_
            exact RetLearn.ok HX.out rfl HM.out rfl HOE.out HFE.out (fun g hg => by have := hn0 g hg; omega)
          · have HM16 := Lib.hid h16
            have e4 : (m == 16) = false := by simp [h16]
            clear h16
            by_cases h64 : 64 ≤ M
            · have HX := Lib.hid (HP.out.trans (show rPut A f na nn m now = .error 4 by unfold rPut; rw [if_neg HNIS.out, if_neg HM16.out, if_pos (by rw [← HM.out]; exact h64)]))
              skip
              have hBe := (kr.b10.set 0 (.int .i64 now0)).set 1 (.slice a l.length c)
              have y0 := hBe.cell 0
              have y1 := hBe.cell 1
              simp only [List.getElem?_cons_succ, List.getElem?_cons_zero, List.set_cons_succ, List.set_cons_zero] at y0 y1
              have HFE := Lib.hid ((hFwr.setCell (p := ⟨w.heap.size + 2, 0, none⟩) (fun h => by have h2 : w.heap.size + 2 < w.heap.size := h; omega) (.int .i64 now0)).setCell (p := ⟨w.heap.size + 2, 1, none⟩) (fun h => by have h2 : w.heap.size + 2 < w.heap.size := h; omega) (.slice a l.length c))
              clear hBe
              go_wp2
              refine bodyPost_ret (v := .tuple #[.agg #[.int .i64 now0, .slice a l.length c], .int .i64 4]) (by simp [results, Tryz.results53, go_sem, y0, y1]) rfl ?_
              exact RetLearn.err HX.out rfl HFE.out
            · skip
              have HM64 := Lib.hid h64
              have hM64 : M < 64 := by omega
              obtain ⟨wo, hwo⟩ : ∃ wo : World, wo = wc := ⟨_, rfl⟩
              rw [← hwo] at kr hFwr hOr hBr ⊢
              clear hwo
              have hw3o : w3.heap.size + 1 ≤ wo.heap.size := hBr.lt
              have K4 := Lib.hid kr
              have HG4 := Lib.hid hFwr
              have HA4 := Lib.hid hOr
              have HB4 := Lib.hid hBr
              clear kr hFwr hOr hBr h64 x1 x2 x3 x4 x5 x6 x7 x8 x9 b0 b1 bl
              have b1 := HB4.out.cell 1
              have bl := HB4.out.lt
              simp only [List.getElem?_cons_succ, List.getElem?_cons_zero] at b1
              go_upto_block 2 with (fail)
              go_cut [14, 15] (fun s14 s15 wx => ∃ (k : Nat) (ao : Option Addr) (co : Nat) (ob : Option Nat), k ≤ M ∧ s15 = .int .i64 k ∧ s14 = .slice ao k co ∧ Ownd wx.heap 107 5 ao k co ((A.take k).flatMap Td.cells) ob ∧ (∀ g, ob = some g → wo.heap.size ≤ g) ∧ Fr (fun _ => False) wo wx ∧ Hid (rIdx A f na nn = k))
              case first =>
                clear b1 bl
                go_wp2
                go_loopw [15, 14] (fun s15 s14 wr => ∃ (k : Nat) (ao : Option Addr) (co : Nat) (ob : Option Nat), k ≤ M ∧ s15 = .int .i64 k ∧ s14 = .slice ao k co ∧ Ownd wr.heap 107 5 ao k co ((A.take k).flatMap Td.cells) ob ∧ (∀ g, ob = some g → wo.heap.size ≤ g) ∧ Fr (fun _ => False) wo wr ∧ Hid (∀ j, j < k → tdAhead (nth A j) f na nn)) (fun s _ _ => M - (intOf s).toNat)
                case atStart => exact ⟨0, none, 0, none, by omega, rfl, rfl, Ownd.nil _ _ _, (fun _ h => nomatch h), Fr.refl _ _, Lib.hid (fun j hj => absurd hj (Nat.not_lt_zero _))⟩
                case round =>
                  obtain ⟨k, ao, co, ob, hk, rfl, rfl, hO, hNo, hFx, hE2⟩ := hrel
                  have k4 := K4.out.fr0 hFx
                  have hA4 := HA4.out.fr hFx (fun _ _ h => h)
                  have hB4 := HB4.out.fr hFx (fun h => h)
                  obtain ⟨x1, x2, x3, x4, x5, x6, x7, x8, x9⟩ := k4.cells
                  have b0 := hB4.cell 0
                  have b1 := hB4.cell 1
                  have bl := hB4.lt
                  simp only [List.getElem?_cons_succ, List.getElem?_cons_zero] at b0 b1
                  by_cases hkM : k < M
                  · have HKA : Hid (k < A.length) := Lib.hid (by rw [← HM.out]; exact hkM)
                    obtain ⟨g, hga, -, hg, hc, -⟩ := hA4.pos (by omega)
                    have dd := fun (j : Nat) (hj : j < 5) => (hc (k * 5 + j) (by omega)).trans (flat_get _ 5 Td.cells_len A k j HKA.out hj)
                    have d0 := dd 0 (by omega)
                    have d1 := dd 1 (by omega)
                    have d2 := dd 2 (by omega)
                    obtain ⟨x, hx⟩ : ∃ x, x = nth A k := ⟨_, rfl⟩
                    rw [← hx] at d0 d1 d2
                    obtain ⟨xf, xa, xn, xm, xt⟩ := x
                    simp only [Td.cells, List.getElem?_cons_zero, List.getElem?_cons_succ, Nat.add_zero] at d0 d1 d2
                    have HY := Lib.hid hx
                    rw [hga] at b1
                    have HGA := Lib.hid hga
                    have HNI : Hid (¬ tdAhead ⟨xf, xa, xn, xm, xt⟩ f na nn → rIdx A f na nn = k) := Lib.hid (fun hn => rIdx_unique A f na nn k (by rw [← HM.out]; omega) hE2.out (fun _ => by rw [← HY.out]; exact hn))
                    clear dd hc hx hga
                    by_cases c1' : xf < f
                    · have HAH := Lib.hid (show tdAhead ⟨xf, xa, xn, xm, xt⟩ f na nn from .inl c1')
                      skip
                      go_wp2
                      (refine wp_region_mix (fun _ => True) 34 (by kernel_rfl) (by kernel_rfl) (trivial) ?_; simp only [List.take_succ_cons, List.take_zero, List.drop_succ_cons, List.drop_zero])
                      (refine wpMix_earlyN 34 (by kernel_rfl) (by kernel_rfl) ?_; simp only [List.take_succ_cons, List.take_zero, List.drop_succ_cons, List.drop_zero]; (repeat (go_big_quiet_step (fail))); refine wpQuiet_nil ?_)
                      refine wpMix_nil ?_
                      generalize hw8 : wr.drew = w8
                      have hFx8 : Fr (fun _ => False) wr w8 := by rw [← hw8]; exact (Fr.refl _ _).drew
                      clear hw8
                      have k6 := k4.fr0 hFx8
                      have hB6 := hB4.fr hFx8 (fun h => h)
                      have hA6 := hA4.fr hFx8 (fun _ _ h => h)
                      have hO6 := hO.fr hFx8 (fun _ _ h => h)
                      clear x1 x2 x3 x4 x5 x6 x7 x8 x9 b0 b1 bl hO hB4 hA4 k4
                      obtain ⟨x1, x2, x3, x4, x5, x6, x7, x8, x9⟩ := k6.cells
                      have b0 := hB6.cell 0
                      have b1 := hB6.cell 1
                      simp only [List.getElem?_cons_succ, List.getElem?_cons_zero] at b0 b1
                      obtain ⟨g, rfl, -, hg, hc, -⟩ := hA6.pos (by omega)
                      have dd := fun (j : Nat) (hj : j < 5) => (hc (k * 5 + j) (by omega)).trans (flat_get _ 5 Td.cells_len A k j HKA.out hj)
                      have p0 := dd 0 (by omega)
                      have p1 := dd 1 (by omega)
                      have p2 := dd 2 (by omega)
                      have p3 := dd 3 (by omega)
                      have p4 := dd 4 (by omega)
                      rw [← HY.out] at p0 p1 p2 p3 p4
                      simp only [Td.cells, List.getElem?_cons_zero, List.getElem?_cons_succ, Nat.add_zero] at p0 p1 p2 p3 p4
                      have hrd := rd_lit w8 107 [.int .i64 xf, .int .u32 xa, .int .i64 xn, .int .i64 xm, .int .i64 xt]
                      have hO7 := hO6.alloc (.cells #[.int .i64 xf, .int .u32 xa, .int .i64 xn, .int .i64 xm, .int .i64 xt] 107)
                      have HCS := Lib.hid (show (A.take (k + 1)).flatMap Td.cells = (A.take k).flatMap Td.cells ++ [.int .i64 xf, .int .u32 xa, .int .i64 xn, .int .i64 xm, .int .i64 xt] by rw [take_succ_nth A k HKA.out, ← HY.out, List.flatMap_append]; rfl)
                      clear hc dd hO6 hA6 hB6 k6
                      go_wp2_with (at_builtin; refine wpList_app rfl _ _ 54 rfl Tryz.underlying54 infoQT rfl (by decide) rfl rfl hO7 hrd (by simp [Value.oneCell']) (by omega) (by omega) ?_)
                      intro a7 c7 w7 ob7 z1 z2 z3
                      rw [← HCS.out] at z1
                      have HZ := Lib.hid z1
                      have hF7 : Fr (fun _ => False) wo w7 := Fr.app ((hFx.trans hFx8).alloc _) z2 (fun g hg => by have := hNo g hg; omega)
                      have hN7 : ∀ g, ob7 = some g → wo.heap.size ≤ g := app_new hNo z3 (by have := (hFx.trans hFx8).size; simp; omega)
                      have HJ := Lib.hid (show ∀ j, j < k + 1 → tdAhead (nth A j) f na nn from fun j hj => by
                        rcases Nat.lt_succ_iff_lt_or_eq.1 hj with h | h
                        · exact hE2.out j h
                        · subst h; rw [← HY.out]; exact HAH.out)
                      clear z1 z2 z3 hO7 hrd
                      go_wp2
                      go_roundw
                      case rel => exact ⟨k + 1, a7, c7, ob7, by omega, by go_num, rfl, HZ.out, hN7, hF7, HJ⟩
                      case measure => simp [intOf]; omega
                    · have hdl : decide (xf < f) = false := decide_eq_false c1'
                      by_cases c2' : xf = f
                      · have e1 : (xf == f) = true := by simp [c2']
                        cases hle : lessB xa xn na nn with
                        | true =>
                          have HAH := Lib.hid (show tdAhead ⟨xf, xa, xn, xm, xt⟩ f na nn from .inr ⟨c2', of_decide_eq_true hle⟩)
                          have HLE := Lib.hid hle
                          clear hle c2'
                          skip
                          go_wp2
                          (refine wp_region_mix (fun _ => True) 34 (by kernel_rfl) (by kernel_rfl) (trivial) ?_; simp only [List.take_succ_cons, List.take_zero, List.drop_succ_cons, List.drop_zero])
                          (refine wpMix_earlyN 34 (by kernel_rfl) (by kernel_rfl) ?_; simp only [List.take_succ_cons, List.take_zero, List.drop_succ_cons, List.drop_zero]; (repeat (go_big_quiet_step (fail))); refine wpQuiet_nil ?_)
                          refine wpMix_nil ?_
                          go_wp2_with (fail)
                          refine (rless_any xa xn na nn _).mono ?_
                          rintro e8 w8 ⟨rfl, hF8⟩
                          rw [HLE.out]
                          have hFx8 : Fr (fun _ => False) wr w8 := (Fr.refl (fun _ => False) wr).drew.trans hF8
                          clear hF8
                          have k6 := k4.fr0 hFx8
                          have hB6 := hB4.fr hFx8 (fun h => h)
                          have hA6 := hA4.fr hFx8 (fun _ _ h => h)
                          have hO6 := hO.fr hFx8 (fun _ _ h => h)
                          clear x1 x2 x3 x4 x5 x6 x7 x8 x9 b0 b1 bl hO hB4 hA4 k4
                          obtain ⟨x1, x2, x3, x4, x5, x6, x7, x8, x9⟩ := k6.cells
                          have b0 := hB6.cell 0
                          have b1 := hB6.cell 1
                          simp only [List.getElem?_cons_succ, List.getElem?_cons_zero] at b0 b1
                          obtain ⟨g, rfl, -, hg, hc, -⟩ := hA6.pos (by omega)
                          have dd := fun (j : Nat) (hj : j < 5) => (hc (k * 5 + j) (by omega)).trans (flat_get _ 5 Td.cells_len A k j HKA.out hj)
                          have p0 := dd 0 (by omega)
                          have p1 := dd 1 (by omega)
                          have p2 := dd 2 (by omega)
                          have p3 := dd 3 (by omega)
                          have p4 := dd 4 (by omega)
                          rw [← HY.out] at p0 p1 p2 p3 p4
                          simp only [Td.cells, List.getElem?_cons_zero, List.getElem?_cons_succ, Nat.add_zero] at p0 p1 p2 p3 p4
                          have hrd := rd_lit w8 107 [.int .i64 xf, .int .u32 xa, .int .i64 xn, .int .i64 xm, .int .i64 xt]
                          have hO7 := hO6.alloc (.cells #[.int .i64 xf, .int .u32 xa, .int .i64 xn, .int .i64 xm, .int .i64 xt] 107)
                          have HCS := Lib.hid (show (A.take (k + 1)).flatMap Td.cells = (A.take k).flatMap Td.cells ++ [.int .i64 xf, .int .u32 xa, .int .i64 xn, .int .i64 xm, .int .i64 xt] by rw [take_succ_nth A k HKA.out, ← HY.out, List.flatMap_append]; rfl)
                          clear hc dd hO6 hA6 hB6 k6
                          go_wp2_with (at_builtin; refine wpList_app rfl _ _ 54 rfl Tryz.underlying54 infoQT rfl (by decide) rfl rfl hO7 hrd (by simp [Value.oneCell']) (by omega) (by omega) ?_)
                          intro a7 c7 w7 ob7 z1 z2 z3
                          rw [← HCS.out] at z1
                          have HZ := Lib.hid z1
                          have hF7 : Fr (fun _ => False) wo w7 := Fr.app ((hFx.trans hFx8).alloc _) z2 (fun g hg => by have := hNo g hg; omega)
                          have hN7 : ∀ g, ob7 = some g → wo.heap.size ≤ g := app_new hNo z3 (by have := (hFx.trans hFx8).size; simp; omega)
                          have HJ := Lib.hid (show ∀ j, j < k + 1 → tdAhead (nth A j) f na nn from fun j hj => by
                            rcases Nat.lt_succ_iff_lt_or_eq.1 hj with h | h
                            · exact hE2.out j h
                            · subst h; rw [← HY.out]; exact HAH.out)
                          clear z1 z2 z3 hO7 hrd
                          go_wp2
                          go_roundw
                          case rel => exact ⟨k + 1, a7, c7, ob7, by omega, by go_num, rfl, HZ.out, hN7, hF7, HJ⟩
                          case measure => simp [intOf]; omega
                        | false =>
                          have HIDX := Lib.hid (HNI.out (fun h => by
                            rcases h with h | ⟨_, h⟩
                            · exact c1' h
                            · exact of_decide_eq_false hle h))
                          have HLE := Lib.hid hle
                          clear hle c2' hE2
                          skip
                          go_wp2
                          (refine wp_region_mix (fun _ => True) 34 (by kernel_rfl) (by kernel_rfl) (trivial) ?_; simp only [List.take_succ_cons, List.take_zero, List.drop_succ_cons, List.drop_zero])
                          (refine wpMix_earlyN 34 (by kernel_rfl) (by kernel_rfl) ?_; simp only [List.take_succ_cons, List.take_zero, List.drop_succ_cons, List.drop_zero]; (repeat (go_big_quiet_step (fail))); refine wpQuiet_nil ?_)
                          refine wpMix_nil ?_
                          go_wp2_with (fail)
                          refine (rless_any xa xn na nn _).mono ?_
                          rintro e8 w8 ⟨rfl, hF8⟩
                          rw [HLE.out]
                          have hFx8 : Fr (fun _ => False) wr w8 := (Fr.refl (fun _ => False) wr).drew.trans hF8
                          clear hF8
                          go_wp2
                          go_meet
                          exact ⟨k, ao, co, ob, by omega, rfl, rfl, hO.fr hFx8 (fun _ _ h => h), hNo, hFx.trans hFx8, HIDX⟩
                      · have e1 : (xf == f) = false := by simp [c2']
                        have HIDX := Lib.hid (HNI.out (fun h => by
                          rcases h with h | ⟨h, _⟩
                          · exact c1' h
                          · exact c2' h))
                        clear c2' hE2
                        skip
                        go_wp2
                        (refine wp_region_mix (fun _ => True) 34 (by kernel_rfl) (by kernel_rfl) (trivial) ?_; simp only [List.take_succ_cons, List.take_zero, List.drop_succ_cons, List.drop_zero])
                        (refine wpMix_earlyN 34 (by kernel_rfl) (by kernel_rfl) ?_; simp only [List.take_succ_cons, List.take_zero, List.drop_succ_cons, List.drop_zero]; (repeat (go_big_quiet_step (fail))); refine wpQuiet_nil ?_)
                        refine wpMix_nil ?_
                        generalize hw8 : wr.drew = w8
                        have hFx8 : Fr (fun _ => False) wr w8 := by rw [← hw8]; exact (Fr.refl _ _).drew
                        clear hw8
                        go_wp2
                        go_meet
                        exact ⟨k, ao, co, ob, by omega, rfl, rfl, hO.fr hFx8 (fun _ _ h => h), hNo, hFx.trans hFx8, HIDX⟩
                  · have hkE : M ≤ k := by omega
                    have HIDX := Lib.hid (show rIdx A f na nn = k from rIdx_unique A f na nn k (by rw [← HM.out]; omega) hE2.out (fun h => absurd h (by rw [← HM.out]; omega)))
                    clear hE2
                    skip
                    go_wp2
                    (refine wp_region_mix (fun _ => True) 34 (by kernel_rfl) (by kernel_rfl) (trivial) ?_; simp only [List.take_succ_cons, List.take_zero, List.drop_succ_cons, List.drop_zero])
                    (refine wpMix_earlyN 34 (by kernel_rfl) (by kernel_rfl) ?_; simp only [List.take_succ_cons, List.take_zero, List.drop_succ_cons, List.drop_zero]; (repeat (go_big_quiet_step (fail))); refine wpQuiet_nil ?_)
                    refine wpMix_nil ?_
                    generalize hw8 : wr.drew = w8
                    have hFx8 : Fr (fun _ => False) wr w8 := by rw [← hw8]; exact (Fr.refl _ _).drew
                    clear hw8
                    go_wp2
                    go_meet
                    exact ⟨k, ao, co, ob, by omega, rfl, rfl, hO.fr hFx8 (fun _ _ h => h), hNo, hFx.trans hFx8, HIDX⟩
              case rest =>
                clear b1 bl
                obtain ⟨k, ao, co, ob, hk, rfl, rfl, hO6, hNo, hFx, HIDX⟩ := hcut
                generalize wc = w8 at *
                have k6 := K4.out.fr0 hFx
                have hA6 := HA4.out.fr hFx (fun _ _ h => h)
                have hB6 := HB4.out.fr hFx (fun h => h)
                have hG6 := HG4.out.trans hFx
                have hN : ∀ g, ob = some g → w3.heap.size + 1 ≤ g := fun g hg => by have := hNo g hg; omega
                have hNA : ∀ g, a1 = some ⟨g, 0, none⟩ → ob ≠ some g := fun g hg h => by have h1 := hNo g h; have h2 := hA1l g hg; omega
                clear hNo hFx
                obtain ⟨x1, x2, x3, x4, x5, x6, x7, x8, x9⟩ := k6.cells
                have b0 := hB6.cell 0
                have b1 := hB6.cell 1
                have bl := hB6.lt
                simp only [List.getElem?_cons_succ, List.getElem?_cons_zero] at b0 b1
                have HX := Lib.hid (HP.out.trans (show rPut A f na nn m now = .ok (A.take k ++ ⟨f, na, nn, m, now⟩ :: A.drop k) by unfold rPut; rw [if_neg HNIS.out, if_neg HM16.out, if_neg (by rw [← HM.out]; exact HM64.out), HIDX.out]))
                have hrd := rd_lit w8 107 [.int .i64 f, .int .u32 na, .int .i64 nn, .int .i64 m, .int .i64 now]
                have hlit : Hid ((A.take k).flatMap Td.cells ++ [.int .i64 f, .int .u32 na, .int .i64 nn, .int .i64 m, .int .i64 now] ++ (A.drop k).flatMap Td.cells = (A.take k ++ ⟨f, na, nn, m, now⟩ :: A.drop k).flatMap Td.cells) := Lib.hid (by simp)
                have HLEN : Hid (k + 1 + (M - k) = (A.take k ++ ⟨f, na, nn, m, now⟩ :: A.drop k).length) := Lib.hid (by rw [List.length_append, List.length_cons, List.length_take, List.length_drop, ← HM.out]; omega)
                have HS := hlit
                have H1B : Hid (∀ u ∈ (A.drop k).flatMap Td.cells, u.oneCell' = true) := Lib.hid (fun u hu => by
                  obtain ⟨y, _, hy⟩ := List.mem_flatMap.1 hu
                  exact td_one y u hy)
                have hrdB : ∀ b off, a1 = some ⟨b, off, none⟩ → Rd w8.heap (some ⟨b, off + k * 5, none⟩) (M - k) 5 ((A.drop k).flatMap Td.cells) := fun b off h => by
                  have h2 := hA6.rd
                  rw [h] at h2
                  have := Rd.dropK h2 k (by omega)
                  rwa [flat_drop Td.cells 5 Td.cells_len] at this
                have hrdC : c1 = k → Rd w8.heap a1 (M - k) 5 ((A.drop k).flatMap Td.cells) := fun h => by
                  have hc := hA6.cap
                  have : k = M := by omega
                  subst this
                  rw [List.drop_of_length_le (by rw [← HM.out]; omega), Nat.sub_self]
                  exact Rd.nil _ _ _
                have haa : (a1 = none ∧ M = 0 ∧ c1 = 0) ∨ ∃ g, a1 = some ⟨g, 0, none⟩ := by
                  rcases hA6.is with ⟨h1, h2, h3, _⟩ | ⟨g, _, h1, _⟩
                  · exact .inl ⟨h1, h2, h3⟩
                  · exact .inr ⟨g, h1⟩
                have hcap := hA6.cap
                have hcB0 : M ≤ k → (A.drop k).flatMap Td.cells = [] := fun h => by rw [List.drop_of_length_le (by rw [← HM.out]; exact h)]; rfl
                generalize (A.take k).flatMap Td.cells = cA at *
                generalize (A.drop k).flatMap Td.cells = cB at *
                have HRB := Lib.hid hrdB
                have HRC := Lib.hid hrdC
                have hol6 := hO6.lt
                have HO6 := Lib.hid hO6
                have HCB0 := Lib.hid hcB0
                clear hrdB hrdC hA6 hlit hO6 hcB0
                go_wp2_with (at_builtin; refine wpList_app rfl _ _ 54 rfl Tryz.underlying54 infoQT rfl (by decide) rfl rfl (HO6.out.alloc _) hrd (by simp [Value.oneCell']) (by omega) (by omega) ?_)
                intro a7 c7 w7 ob7 z1 z2 z3
                have hF67 : Fr (fun i => ob = some i) w8 w7 := ((Fr.refl _ w8).alloc _).trans z2
                have k7 := k6.fr hF67 (fun i hi h => by have := hN i h; omega)
                have hB7 := hB6.fr hF67 (fun h => by have := hN _ h; omega)
                have hF7 := hG6.trans' hF67 (fun i hi h => by have := hN i h; omega)
                have hN7 : ∀ g, ob7 = some g → w3.heap.size + 1 ≤ g := app_new hN z3 (by have := hB6.lt; simp; omega)
                have hAS : ∀ g, a1 = some ⟨g, 0, none⟩ → ob ≠ some g := fun g hg h => hNA g hg h
                have HRB2 : Hid (∀ b, a1 = some ⟨b, 0, none⟩ → Rd w7.heap (some ⟨b, k * 5, none⟩) (M - k) 5 cB) := Lib.hid (fun b h => (show Rd _ (some ⟨b, k * 5, none⟩) _ _ _ by have h9 := HRB.out b 0 h; rwa [Nat.zero_add] at h9).fr hF67 (fun b' off' e h' => by cases e; exact hAS _ h h'))
                have HRC2 : Hid (c1 = k → Rd w7.heap a1 (M - k) 5 cB) := Lib.hid (fun h => (HRC.out h).fr hF67 (fun b' off' e h' => by
                  rcases haa with ⟨h1, _⟩ | ⟨g, h1⟩
                  · rw [h1] at e; cases e
                  · rw [h1] at e; cases e; exact hAS _ h1 h'))
                have b0 := hB7.cell 0
                have b1 := hB7.cell 1
                have fb1 := hB7.frozen 1
                have hl7 := hB7.lt
                simp only [List.getElem?_cons_succ, List.getElem?_cons_zero] at b0 b1
                clear z2 z3 hrd hF67 k6 hB6 hG6 HO6 HRB HRC hN hol6

                rcases haa with ⟨rfl, h0, h1⟩ | ⟨g, rfl⟩
                · subst h0
                  subst h1
                  obtain rfl : k = 0 := by omega
                  have hcB := HCB0.out (Nat.le_refl _)
                  subst hcB
                  have HRD := Lib.hid (Rd.nil w7.heap none 5)
                  clear HRB2 HRC2
                  go_wp2_with (at_builtin; refine wpList_app rfl _ _ 54 rfl Tryz.underlying54 infoQT rfl (by decide) rfl rfl z1 HRD.out (fun _ h => nomatch h) (by omega) (by omega) ?_)
                  intro a9 c9 w9 ob9 v1 v2 v3
                  have k9 := k7.fr v2 (fun i hi h => by have := hN7 i h; omega)
                  have hB9 := hB7.fr v2 (fun h => by have := hN7 _ h; omega)
                  have hF9 := hF7.trans' v2 (fun i hi h => by have := hN7 i h; omega)
                  have hN9 : ∀ g, ob9 = some g → w3.heap.size + 1 ≤ g := app_new hN7 v3 (by have := hB7.lt; omega)
                  obtain ⟨x1, x2, x3, x4, x5, x6, x7, x8, x9⟩ := k9.cells
                  have b0 := hB9.cell 0
                  have b1 := hB9.cell 1
                  have fb1 := hB9.frozen 1
                  have hl9 := hB9.lt
                  simp only [List.getElem?_cons_succ, List.getElem?_cons_zero] at b0 b1
                  have HFE := Lib.hid (((hF9.setCell (p := ⟨w3.heap.size, 1, none⟩) (fun h => by have h2 : w3.heap.size < w.heap.size := h; omega) (.slice a9 1 c9)).setCell (p := ⟨w.heap.size + 2, 0, none⟩) (fun h => by have h2 : w.heap.size + 2 < w.heap.size := h; omega) (.int .i64 now)).setCell (p := ⟨w.heap.size + 2, 1, none⟩) (fun h => by have h2 : w.heap.size + 2 < w.heap.size := h; omega) (.slice a9 1 c9))
                  replace v1 : Ownd w9.heap 107 5 a9 1 c9 (cA ++ [.int .i64 f, .int .u32 na, .int .i64 nn, .int .i64 m, .int .i64 now]) ob9 := by simpa using v1
                  have HOE := Lib.hid (((v1.other (p := ⟨w3.heap.size, 1, none⟩) (fun h => by have h2 := hN9 _ h; have h3 : w3.heap.size + 1 ≤ w3.heap.size := h2; omega) (.slice a9 1 c9)).other (p := ⟨w.heap.size + 2, 0, none⟩) (fun h => by have h2 := hN9 _ h; have h3 : w3.heap.size + 1 ≤ w.heap.size + 2 := h2; omega) (.int .i64 now)).other (p := ⟨w.heap.size + 2, 1, none⟩) (fun h => by have h2 := hN9 _ h; have h3 : w3.heap.size + 1 ≤ w.heap.size + 2 := h2; omega) (.slice a9 1 c9))
                  clear v1 v2 v3 k9 hB9 hF9 k7 hB7 hF7 z1 HRD
                  go_wp2
                  refine bodyPost_ret (v := .tuple #[.agg #[.int .i64 now, .slice a9 1 c9], .int .i64 0]) (by simp [results, Tryz.results53, go_sem, x5, x6, n3, b0, b1]) rfl ?_
                  exact RetLearn.ok HX.out rfl HLEN.out (by rw [← HS.out]; try simp) HOE.out HFE.out (fun g hg => by have := hN9 g hg; omega)
                · by_cases hcI : c1 = k
                  · obtain rfl : M = k := by omega
                    have hcB := HCB0.out (Nat.le_refl _)
                    subst hcB
                    have HRD := Lib.hid (Rd.nil w7.heap (some ⟨g, 0, none⟩) 5)
                    subst hcI
                    clear HRB2 HRC2
                    go_wp2_with (at_builtin; refine wpList_app rfl _ _ 54 rfl Tryz.underlying54 infoQT rfl (by decide) rfl rfl z1 HRD.out (fun _ h => nomatch h) (by omega) (by omega) ?_)
                    intro a9 c9 w9 ob9 v1 v2 v3
                    have k9 := k7.fr v2 (fun i hi h => by have := hN7 i h; omega)
                    have hB9 := hB7.fr v2 (fun h => by have := hN7 _ h; omega)
                    have hF9 := hF7.trans' v2 (fun i hi h => by have := hN7 i h; omega)
                    have hN9 : ∀ g, ob9 = some g → w3.heap.size + 1 ≤ g := app_new hN7 v3 (by have := hB7.lt; omega)
                    obtain ⟨x1, x2, x3, x4, x5, x6, x7, x8, x9⟩ := k9.cells
                    have b0 := hB9.cell 0
                    have b1 := hB9.cell 1
                    have fb1 := hB9.frozen 1
                    have hl9 := hB9.lt
                    simp only [List.getElem?_cons_succ, List.getElem?_cons_zero] at b0 b1
                    have HFE := Lib.hid (((hF9.setCell (p := ⟨w3.heap.size, 1, none⟩) (fun h => by have h2 : w3.heap.size < w.heap.size := h; omega) (.slice a9 (c1 + 1) c9)).setCell (p := ⟨w.heap.size + 2, 0, none⟩) (fun h => by have h2 : w.heap.size + 2 < w.heap.size := h; omega) (.int .i64 now)).setCell (p := ⟨w.heap.size + 2, 1, none⟩) (fun h => by have h2 : w.heap.size + 2 < w.heap.size := h; omega) (.slice a9 (c1 + 1) c9))
                    replace v1 : Ownd w9.heap 107 5 a9 (c1 + 1) c9 (cA ++ [.int .i64 f, .int .u32 na, .int .i64 nn, .int .i64 m, .int .i64 now]) ob9 := by simpa using v1
                    have HOE := Lib.hid (((v1.other (p := ⟨w3.heap.size, 1, none⟩) (fun h => by have h2 := hN9 _ h; have h3 : w3.heap.size + 1 ≤ w3.heap.size := h2; omega) (.slice a9 (c1 + 1) c9)).other (p := ⟨w.heap.size + 2, 0, none⟩) (fun h => by have h2 := hN9 _ h; have h3 : w3.heap.size + 1 ≤ w.heap.size + 2 := h2; omega) (.int .i64 now)).other (p := ⟨w.heap.size + 2, 1, none⟩) (fun h => by have h2 := hN9 _ h; have h3 : w3.heap.size + 1 ≤ w.heap.size + 2 := h2; omega) (.slice a9 (c1 + 1) c9))
                    clear v1 v2 v3 k9 hB9 hF9 k7 hB7 hF7 z1 HRD
                    go_wp2
                    refine bodyPost_ret (v := .tuple #[.agg #[.int .i64 now, .slice a9 (c1 + 1) c9], .int .i64 0]) (by simp [results, Tryz.results53, go_sem, x5, x6, n3, b0, b1]) rfl ?_
                    exact RetLearn.ok HX.out rfl (by have := HLEN.out; omega) (by rw [← HS.out]; try simp) HOE.out HFE.out (fun g hg => by have := hN9 g hg; omega)
                  · have HRD := Lib.hid (HRB2.out g rfl)
                    clear HRB2 HRC2
                    go_wp2_with (at_builtin; refine wpList_app rfl _ _ 54 rfl Tryz.underlying54 infoQT rfl (by decide) rfl rfl z1 HRD.out H1B.out (by omega) (by omega) ?_)
                    intro a9 c9 w9 ob9 v1 v2 v3
                    have k9 := k7.fr v2 (fun i hi h => by have := hN7 i h; omega)
                    have hB9 := hB7.fr v2 (fun h => by have := hN7 _ h; omega)
                    have hF9 := hF7.trans' v2 (fun i hi h => by have := hN7 i h; omega)
                    have hN9 : ∀ g, ob9 = some g → w3.heap.size + 1 ≤ g := app_new hN7 v3 (by have := hB7.lt; omega)
                    obtain ⟨x1, x2, x3, x4, x5, x6, x7, x8, x9⟩ := k9.cells
                    have b0 := hB9.cell 0
                    have b1 := hB9.cell 1
                    have fb1 := hB9.frozen 1
                    have hl9 := hB9.lt
                    simp only [List.getElem?_cons_succ, List.getElem?_cons_zero] at b0 b1
                    have HFE := Lib.hid (((hF9.setCell (p := ⟨w3.heap.size, 1, none⟩) (fun h => by have h2 : w3.heap.size < w.heap.size := h; omega) (.slice a9 (k + 1 + (M - k)) c9)).setCell (p := ⟨w.heap.size + 2, 0, none⟩) (fun h => by have h2 : w.heap.size + 2 < w.heap.size := h; omega) (.int .i64 now)).setCell (p := ⟨w.heap.size + 2, 1, none⟩) (fun h => by have h2 : w.heap.size + 2 < w.heap.size := h; omega) (.slice a9 (k + 1 + (M - k)) c9))
                    replace v1 : Ownd w9.heap 107 5 a9 (k + 1 + (M - k)) c9 (cA ++ [.int .i64 f, .int .u32 na, .int .i64 nn, .int .i64 m, .int .i64 now] ++ cB) ob9 := by simpa using v1
                    have HOE := Lib.hid (((v1.other (p := ⟨w3.heap.size, 1, none⟩) (fun h => by have h2 := hN9 _ h; have h3 : w3.heap.size + 1 ≤ w3.heap.size := h2; omega) (.slice a9 (k + 1 + (M - k)) c9)).other (p := ⟨w.heap.size + 2, 0, none⟩) (fun h => by have h2 := hN9 _ h; have h3 : w3.heap.size + 1 ≤ w.heap.size + 2 := h2; omega) (.int .i64 now)).other (p := ⟨w.heap.size + 2, 1, none⟩) (fun h => by have h2 := hN9 _ h; have h3 : w3.heap.size + 1 ≤ w.heap.size + 2 := h2; omega) (.slice a9 (k + 1 + (M - k)) c9))
                    clear v1 v2 v3 k9 hB9 hF9 k7 hB7 hF7 z1 HRD
                    go_wp2
                    refine bodyPost_ret (v := .tuple #[.agg #[.int .i64 now, .slice a9 (k + 1 + (M - k)) c9], .int .i64 0]) (by simp [results, Tryz.results53, go_sem, x5, x6, n3, b0, b1]) rfl ?_
                    exact RetLearn.ok HX.out rfl HLEN.out (by rw [← HS.out]; try simp) HOE.out HFE.out (fun g hg => by have := hN9 g hg; omega)
end Go.Proofs.YtfglidaicjjpfaaGreatDoor
end

section
namespace Go.Proofs.YtfglidaicjjpfaaGreatDoor
open Go.RowKit

theorem ckO_learn {now0 f a n m now : Int} {l : List Td} {q : Int} (h : learnE now0 l f a n m now = .error q) : q ≠ 0 := by
  unfold learnE at h
  by_cases h1 : ckErr now0 f now
  · rw [if_pos h1] at h; cases h; decide
  · rw [if_neg h1] at h
    cases hn : netErr a n with
    | some k => rw [hn] at h; cases h; exact netErr_pos hn
    | none =>
      rw [hn] at h
      simp only at h
      by_cases h2 : m < 1 ∨ 16 < m
      · rw [if_pos h2] at h; cases h; decide
      · rw [if_neg h2] at h
        unfold rPut at h
        split at h
        · split at h <;> cases h
        · split at h
          · cases h
          · split at h
            · cases h; decide
            · cases h
theorem putB2 {w : World} {g : Nat} {E : TypeId} {c0 c1 : Value} (h : Blk w.heap g E [c0, c1]) (u0 u1 : Value) :
    Blk ((w.setCell ⟨g, 0, none⟩ u0).setCell ⟨g, 1, none⟩ u1).heap g E [u0, u1] ∧ Fr (fun k => k = g) w ((w.setCell ⟨g, 0, none⟩ u0).setCell ⟨g, 1, none⟩ u1) :=
  ⟨(h.set 0 u0).set 1 u1, ((Fr.refl (fun k => k = g) w).setCell (p := ⟨g, 0, none⟩) (fun _ => rfl) u0).setCell (p := ⟨g, 1, none⟩) (fun _ => rfl) u1⟩
theorem own_new {H : Array Obj} {E : TypeId} {sz n c B : Nat} {a : Option Addr} {xs : List Value} {ob : Option Nat} (h : Ownd H E sz a n c xs ob) (hN : ∀ g, ob = some g → B ≤ g) : ∀ b off, a = some ⟨b, off, none⟩ → B ≤ b := fun b off e => by
  rcases h.is with ⟨q, _⟩ | ⟨g, _, q, q2, _⟩
  · rw [q] at e; cases e
  · rw [q] at e; cases e; exact hN _ q2

/-- What the document's rib has come to. -/
def LRes (B : Nat) (H : Array Obj) (z : Int) (r : Except Int (List Td)) (t1 : Int) (a1 : Option Addr) (n1 : Nat) (ev : Int) : Prop :=
  (∃ q, r = .error q ∧ ev = q) ∨ ∃ l', r = .ok l' ∧ ev = 0 ∧ t1 = z ∧ n1 = l'.length ∧ Recs H a1 5 Td.cells l' ∧ (∀ b off, a1 = some ⟨b, off, none⟩ → B ≤ b)
theorem LRes.fr0 {B : Nat} {w w' : World} {z : Int} {r : Except Int (List Td)} {t1 : Int} {a1 : Option Addr} {n1 : Nat} {ev : Int} (h : LRes B w.heap z r t1 a1 n1 ev) (f : Fr (fun _ => False) w w') : LRes B w'.heap z r t1 a1 n1 ev := by
  rcases h with h | ⟨l', h1, h2, h3, h4, h5, h6⟩
  · exact .inl h
  · exact .inr ⟨l', h1, h2, h3, h4, h5.fr f (fun _ _ _ h => h), h6⟩
theorem LRes.frP {B p : Nat} {w w' : World} {z : Int} {r : Except Int (List Td)} {t1 : Int} {a1 : Option Addr} {n1 : Nat} {ev : Int} (h : LRes B w.heap z r t1 a1 n1 ev) (f : Fr (fun k => k = p) w w') (hp : p < B) : LRes B w'.heap z r t1 a1 n1 ev := by
  rcases h with h | ⟨l', h1, h2, h3, h4, h5, h6⟩
  · exact .inl h
  · exact .inr ⟨l', h1, h2, h3, h4, h5.fr f (fun b off e hh => by have := h6 b off e; have hh : b = p := hh; omega), h6⟩
theorem RetLearn.flat {w w' : World} {now0 now : Int} {a : Option Addr} {n c : Nat} {r : Except Int (List Td)} {e : Ending} (h : RetLearn w now0 a n c now r e w') :
    ∃ t1 a1 n1 c1 ev, e = .returned (.tuple #[.agg #[.int .i64 t1, .slice a1 n1 c1], .int .i64 ev]) ∧ Fr (fun _ => False) w w' ∧ LRes w.heap.size w'.heap now r t1 a1 n1 ev := by
  cases r with
  | error k => obtain ⟨h1, h2⟩ := h; exact ⟨now0, a, n, c, k, h1, h2, .inl ⟨k, rfl, rfl⟩⟩
  | ok l => obtain ⟨a', c', ob, h1, h2, h3, h4⟩ := h; exact ⟨now, a', l.length, c', 0, h1, h3, .inr ⟨l, rfl, rfl, rfl, rfl, h2.rd, own_new h2 h4⟩⟩
theorem LRes.le {B C : Nat} {H : Array Obj} {z : Int} {r : Except Int (List Td)} {t1 : Int} {a1 : Option Addr} {n1 : Nat} {ev : Int} (h : LRes B H z r t1 a1 n1 ev) (hC : C ≤ B) : LRes C H z r t1 a1 n1 ev := by
  rcases h with h | ⟨l', h1, h2, h3, h4, h5, h6⟩
  · exact .inl h
  · exact .inr ⟨l', h1, h2, h3, h4, h5, fun b off e => Nat.le_trans hC (h6 b off e)⟩
/-- A rib by value, its list somewhere new. -/
def RetRb (w : World) (now : Int) (l : List Td) (e : Ending) (w' : World) : Prop :=
  ∃ a c, e = .returned (.agg #[.int .i64 now, .slice a l.length c]) ∧ Recs w'.heap a 5 Td.cells l ∧ Fr (fun _ => False) w w' ∧ ∀ b off, a = some ⟨b, off, none⟩ → w.heap.size ≤ b
theorem RetRib.rb {w w' : World} {now : Int} {l : List Td} {e : Ending} (h : RetRib w now l e w') : RetRb w now l e w' := by
  obtain ⟨a, c, ob, h1, h2, h3, h4⟩ := h
  exact ⟨a, c, h1, h2.rd, h3, own_new h2 h4⟩
theorem RetRb.mk {w w' : World} {now : Int} {l : List Td} {a : Option Addr} {m c : Nat} {e : Ending} (he : e = .returned (.agg #[.int .i64 now, .slice a m c])) (hm : m = l.length) (hR : Recs w'.heap a 5 Td.cells l) (hF : Fr (fun _ => False) w w') (hN : ∀ b off, a = some ⟨b, off, none⟩ → w.heap.size ≤ b) : RetRb w now l e w' := by
  subst hm; exact ⟨a, c, he, hR, hF, hN⟩
end Go.Proofs.YtfglidaicjjpfaaGreatDoor
end
