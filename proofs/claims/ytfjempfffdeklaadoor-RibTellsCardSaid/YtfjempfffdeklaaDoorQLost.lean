import Derived.Test.YtfjempfffdeklaaDoorQRib
namespace Go.Proofs.YtfjempfffdeklaaDoor
open Go.RowKit

theorem lostK_nth {f now : Int} (A : List Td) {k : Nat} (h : k < A.length) : nth (((A.take k).map (lose1 f now)) ++ A.drop k) k = nth A k := by
  have hl : ((A.take k).map (lose1 f now)).length = k := by simp; omega
  rw [nth_append_right _ _ _ (by omega), hl, Nat.sub_self, nth_drop]
  rfl
theorem lostK_len {f now : Int} (A : List Td) {k : Nat} (h : k ≤ A.length) : (((A.take k).map (lose1 f now)) ++ A.drop k).length = A.length := by
  simp; omega
theorem lostK_same {f now : Int} (A : List Td) {k : Nat} (h : k < A.length) (he : lose1 f now (nth A k) = nth A k) : ((A.take (k + 1)).map (lose1 f now)) ++ A.drop (k + 1) = ((A.take k).map (lose1 f now)) ++ A.drop k := by
  rw [drop_nth A k h, take_succ_nth A k h, List.map_append]
  simp [he]

set_option maxRecDepth 100000 in
set_option maxHeartbeats 4000000 in
theorem qlost_any (l : List Td) (a : Option Addr) (c : Nat) (now0 f now : Int) (w : World) (hL : Recs w.heap a 5 Td.cells l) (hb : RibOk now0 l) (hn : now0 ≤ now) (hm : now ≤ 1099511627776) :
    Calls Tryd.prog 46 #[.agg #[.int .i64 now0, .slice a l.length c], .int .i64 f, .int .i64 now] w (RetRib w now (rLost f now l)) := by
  have hbA := rAged_ok hb hn hm
  have hla := hbA.len
  have hF0 := ((Fr.refl (fun _ => False) w).alloc (.cells #[.int .i64 now0, .slice a l.length c] 83)).alloc (.cells #[.int .i64 0, .slice none 0 0] 83)
  have hB1 := Blk.made (w.alloc (.cells #[.int .i64 now0, .slice a l.length c] 83)) 83 [.int .i64 0, .slice none 0 0]
  rw [show (w.alloc (.cells #[.int .i64 now0, .slice a l.length c] 83)).heap.size = w.heap.size + 1 by simp] at hB1
  have hq := qaged_any l a c now0 now _ (hL.fr0 hF0 (fun _ _ h => h)) hb hn hm
  have HB1 := Lib.hid hB1
  clear hB1 hL hb
  go_enter Tryd.func46, Tryd.ntmps46
  go_wp2_with (fail)
  refine hq.mono ?_
  obtain ⟨A, hA⟩ : ∃ A, A = rAged now l := ⟨_, rfl⟩
  rintro e1 w1 ⟨a1, c1, o1, rfl, hO1, hF1, hN1⟩
  rw [← hA] at hO1 hla hbA ⊢
  have HAe := Lib.hid hA
  clear hq hA
  obtain ⟨m, hm1⟩ : ∃ m, m = A.length := ⟨_, rfl⟩
  rw [← hm1] at hO1 hla ⊢
  have HM := Lib.hid hm1
  clear hm1
  have hFw1 := hF0.trans hF1
  have hB1 := HB1.out.fr hF1 (fun h => h)
  have hws : w.heap.size + 2 ≤ w1.heap.size := by have := hF1.size; simpa using this
  have hN1' : ∀ g, o1 = some g → w.heap.size + 2 ≤ g := fun g hg => by have := hN1 g hg; simpa using this
  have hol := hO1.lt
  clear hF0 hF1 hN1 HB1
  go_wp2
  go_loopw [8] (fun s8 wr => ∃ (k : Nat), k ≤ m ∧ s8 = .int .i64 k ∧ Blk wr.heap w1.heap.size 83 [.int .i64 now, .slice a1 m c1] ∧ Blk wr.heap (w.heap.size + 1) 83 [.int .i64 0, .slice none 0 0] ∧ Ownd wr.heap 164 5 a1 m c1 ((((A.take k).map (lose1 f now)) ++ A.drop k).flatMap Td.cells) o1 ∧ Fr (fun _ => False) w wr) (fun s _ => m - (intOf s).toNat)
  case atStart => exact ⟨0, by omega, rfl, Blk.made _ _ _, hB1.alloc _, by simpa using hO1.alloc _, hFw1.alloc _⟩
  case round =>
    clear hO1 hB1
    obtain ⟨k, hk, rfl, hB7, hB1, hO, hF⟩ := hrel
    have b70 := hB7.cell 0
    have b71 := hB7.cell 1
    have b10 := hB1.cell 0
    have b11 := hB1.cell 1
    have f10 := hB1.frozen 0
    have f11 := hB1.frozen 1
    simp only [List.getElem?_cons_succ, List.getElem?_cons_zero] at b70 b71 b10 b11
    have hws1 := hB7.lt
    by_cases hkl : k < m
    · have hkA : k < A.length := by rw [← HM.out]; exact hkl
      have hkL : k < (((A.take k).map (lose1 f now)) ++ A.drop k).length := by rw [lostK_len A (Nat.le_of_lt hkA)]; exact hkA
      have hnth := lostK_nth (f := f) (now := now) A hkA
      have hsame := lostK_same (f := f) (now := now) A hkA
      have hset := lostK_set (f := f) (now := now) A hkA
      obtain ⟨g, rfl, rfl, hg, hc, hfz⟩ := hO.pos (by omega)
      have hgB : w.heap.size + 2 ≤ g := hN1' g rfl
      have hgl : g < w1.heap.size := hol g rfl
      obtain ⟨L, hL⟩ : ∃ L, L = ((A.take k).map (lose1 f now)) ++ A.drop k := ⟨_, rfl⟩
      rw [← hL] at hO hc hkL hnth hsame hset
      have dd := fun (j : Nat) (hj : j < 5) => (hc (k * 5 + j) (by omega)).trans (flat_get _ 5 Td.cells_len L k j hkL hj)
      rw [hnth] at dd
      have d0 := dd 0 (by omega)
      have d3 := dd 3 (by omega)
      have d4 := dd 4 (by omega)
      have f3 := hfz (k * 5 + 3)
      have f4 := hfz (k * 5 + 4)
      obtain ⟨x, hx⟩ : ∃ x, x = nth A k := ⟨_, rfl⟩
      rw [← hx] at d0 d3 d4 hnth hsame hset
      obtain ⟨xf, xa, xn, xm, xt⟩ := x
      simp only [Td.cells, List.getElem?_cons_zero, List.getElem?_cons_succ, Nat.add_zero] at d0 d3 d4
      have HSAME := Lib.hid hsame
      have HSET := Lib.hid hset
      have HNTH := Lib.hid hnth
      have HKL := Lib.hid hkL
      have HLE := Lib.hid hL
      clear hc dd hfz hx hsame hset hnth hkL hkA hL
      by_cases hc1 : xf = f ∧ xm < 16
      · obtain ⟨q1, q2⟩ := hc1
        have e1 : (xf == f) = true := by simp [q1]
        have hl1 := Lib.hid (show lose1 f now ⟨xf, xa, xn, xm, xt⟩ = ⟨xf, xa, xn, 16, now⟩ from if_pos ⟨q1, q2⟩)
        have hO2 := (hO.set rfl (k * 5 + 3) (.int .i64 16)).set rfl (k * 5 + 4) (.int .i64 now)
        rw [td_set34 L k HKL.out ⟨xf, xa, xn, 16, now⟩ (by rw [HNTH.out]; exact ⟨rfl, rfl, rfl⟩), ← hl1.out, HSET.out] at hO2
        have HO2 := Lib.hid hO2
        have HB7 := Lib.hid ((hB7.other (p := ⟨g, k * 5 + 3, none⟩) (by show w1.heap.size ≠ g; omega) (.int .i64 16)).other (p := ⟨g, k * 5 + 4, none⟩) (by show w1.heap.size ≠ g; omega) (.int .i64 now))
        have HB1 := Lib.hid ((hB1.other (p := ⟨g, k * 5 + 3, none⟩) (by show w.heap.size + 1 ≠ g; omega) (.int .i64 16)).other (p := ⟨g, k * 5 + 4, none⟩) (by show w.heap.size + 1 ≠ g; omega) (.int .i64 now))
        have HF2 := Lib.hid ((hF.setCell (p := ⟨g, k * 5 + 3, none⟩) (fun h => by have h2 : g < w.heap.size := h; omega) (.int .i64 16)).setCell (p := ⟨g, k * 5 + 4, none⟩) (fun h => by have h2 : g < w.heap.size := h; omega) (.int .i64 now))
        clear hO hB7 hB1 hF hO2 q1
        go_wp2
        go_roundw
        case rel => exact ⟨k + 1, by omega, by go_num, HB7.out, HB1.out, HO2.out, HF2.out⟩
        case measure => simp [intOf]; omega
      · have hl1 : lose1 f now ⟨xf, xa, xn, xm, xt⟩ = ⟨xf, xa, xn, xm, xt⟩ := if_neg hc1
        have hO2 := Lib.hid hO
        have q : (xf == f) = false ∨ ((xf == f) = true ∧ 16 ≤ xm) := by
          simp only [beq_eq_false_iff_ne, beq_iff_eq, ne_eq]
          omega
        have HS := Lib.hid (HSAME.out hl1)
        clear hc1 hl1 hO
        rcases q with e1 | ⟨e1, e2⟩
        all_goals
          go_wp2
          go_roundw
          case rel => exact ⟨k + 1, by omega, by go_num, hB7, hB1, by rw [HS.out]; exact hO2.out, hF⟩
          case measure => simp [intOf]; omega
    · obtain rfl : k = m := by omega
      have hAl : (((A.take k).map (lose1 f now)) ++ A.drop k) = rLost f now l := by rw [HM.out, List.take_length, List.drop_length, List.append_nil, HAe.out]; rfl
      rw [hAl] at hO
      have hlen : k = (rLost f now l).length := by rw [HM.out, HAe.out]; unfold rLost; rw [List.length_map]
      have HLEN := Lib.hid hlen
      have hFe := Lib.hid ((hF.setCell (p := ⟨w.heap.size + 1, 0, none⟩) (fun h => by have h2 : w.heap.size + 1 < w.heap.size := h; omega) (.int .i64 now)).setCell (p := ⟨w.heap.size + 1, 1, none⟩) (fun h => by have h2 : w.heap.size + 1 < w.heap.size := h; omega) (.slice a1 k c1))
      have hOe := Lib.hid ((hO.other (p := ⟨w.heap.size + 1, 0, none⟩) (fun h => by have h2 : o1 = some (w.heap.size + 1) := h; have := hN1' _ h2; omega) (.int .i64 now)).other (p := ⟨w.heap.size + 1, 1, none⟩) (fun h => by have h2 : o1 = some (w.heap.size + 1) := h; have := hN1' _ h2; omega) (.slice a1 k c1))
      have hBe := (hB1.set 0 (.int .i64 now)).set 1 (.slice a1 k c1)
      have y0 := hBe.cell 0
      have y1 := hBe.cell 1
      simp only [List.getElem?_cons_succ, List.getElem?_cons_zero, List.set_cons_succ, List.set_cons_zero] at y0 y1
      clear hO hB7 hB1 hF hBe hlen hAl
      go_wp2
      refine bodyPost_ret (v := .agg #[.int .i64 now, .slice a1 k c1]) (by simp [results, Tryd.results46, go_sem, y0, y1]) rfl ?_
      exact RetRib.mk rfl HLEN.out rfl hOe.out hFe.out (fun g hg => by have := hN1' g hg; omega)
end Go.Proofs.YtfjempfffdeklaaDoor
