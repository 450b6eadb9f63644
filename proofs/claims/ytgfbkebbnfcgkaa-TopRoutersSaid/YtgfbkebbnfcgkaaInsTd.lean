import Derived.Test.YtgfbkebbnfcgkaaErr
import Derived.Test.YtgfbkebbnfcgkaaInsLib
import Derived.Test.YtgfbkebbnfcgkaaRibW2
namespace Go.Proofs.Ytgfbkebbnfcgkaa
open Go.RowKit

set_option maxRecDepth 100000 in
set_option maxHeartbeats 2000000 in
theorem insert_td (l : List Td) (x : Td) (a : Option Addr) (c : Nat) (ob : Option Nat) (vb : Nat) (w : World) (hO : Ownd w.heap 128 5 a l.length c (l.flatMap Td.cells) ob) (hV : Blk w.heap vb 128 (Td.cells x)) (hvb : ob ≠ some vb) (i : Nat) (hi : i ≤ l.length) (hl : l.length ≤ 4096) :
    Calls Try.prog 54 #[.slice a l.length c, .int .i64 i, .slice (some ⟨vb, 0, none⟩) 1 1] w (RetApp w ob 128 5 (l.length + 1) ((l.take i ++ x :: l.drop i).flatMap Td.cells)) := by
  have hcap := hO.cap
  have hle := hO.le
  have hrv : Rd w.heap (some ⟨vb, 0, none⟩) 1 5 (Td.cells x) := by
    have := hV.rd (sz := 5) (n := 1) (off := 0) (by simp [Td.cells_len])
    rwa [List.drop_zero, List.take_of_length_le (by simp [Td.cells_len])] at this
  obtain ⟨XS, hXS⟩ : ∃ XS, XS = (l.take i ++ x :: l.drop i).flatMap Td.cells := ⟨_, rfl⟩
  rw [← hXS]
  have HXS := Lib.hid hXS
  clear hXS
  go_enter Try.func54, Try.ntmps54
  by_cases hin : i = l.length
  · have hb : ((i : Int) == (l.length : Int)) = true := by simp [hin]
    have hX := Lib.hid (show l.flatMap Td.cells ++ Td.cells x = XS by rw [HXS.out, hin]; simp)
    have hi2 : l.length ≤ i := by omega
    clear hin
    by_cases hci : c = i
    all_goals
      go_wp2_with (at_builtin; refine wpList_app rfl _ _ 104 rfl Try.underlying104 infoTd rfl (by decide) rfl rfl hO hrv (td_one x) (by omega) (by omega) ?_)
      intro a' c' w6 ob' z1 z2 z3
      go_wp2
      go_ret
      exact ⟨a', c', ob', rfl, by rw [← hX.out]; exact z1, z2, z3⟩
  · have hb : ((i : Int) == (l.length : Int)) = false := by simp; omega
    obtain ⟨g, cur, rfl, rfl, hBk, hnc, hcm, hcl, hct⟩ := hO.blk (by omega)
    have hin : i < l.length := by omega
    have hci : ¬ c = i := by omega
    have hrdA : Rd w.heap (some ⟨g, 0, none⟩) i 5 ((l.take i).flatMap Td.cells) := by
      have := hBk.rd (sz := 5) (n := i) (off := 0) (by omega)
      rw [List.drop_zero] at this
      have e : cur.take (i * 5) = (l.take i).flatMap Td.cells := by
        rw [← flat_take Td.cells 5 Td.cells_len, ← hct, List.take_take, Nat.min_eq_left (by omega)]
      rwa [e] at this
    have hlA : ((l.take i).flatMap Td.cells).length = i * 5 := by rw [flat_len _ _ Td.cells_len, List.length_take, Nat.min_eq_left (by omega)]
    have hlB : ((l.drop i).flatMap Td.cells).length = (l.length - i) * 5 := by rw [flat_len _ _ Td.cells_len, List.length_drop]
    have hAB : (l.take i).flatMap Td.cells ++ (l.drop i).flatMap Td.cells = l.flatMap Td.cells := by rw [← List.flatMap_append, List.take_append_drop]
    have hX := Lib.hid (show (l.take i).flatMap Td.cells ++ Td.cells x ++ (l.drop i).flatMap Td.cells = XS by rw [HXS.out]; simp)
    have hcB : ∀ (W : World), (∀ j, W.cell? ⟨g, j, none⟩ = w.cell? ⟨g, j, none⟩) → ∀ j v, ((l.drop i).flatMap Td.cells)[j]? = some v → W.cell? ((⟨g, i * 5, none⟩ : Addr).add j) = some v := fun W hW j v hj => by
      have hj' := (List.getElem?_eq_some_iff.1 hj).1
      rw [hlB] at hj'
      rw [Addr.add_lit, hW, hBk.cell]
      have e : (l.flatMap Td.cells)[i * 5 + j]? = some v := by rw [← hAB, List.getElem?_append_right (by rw [hlA]; omega), hlA, Nat.add_sub_cancel_left]; exact hj
      rw [← hct, List.getElem?_take] at e
      split at e
      · exact e
      · cases e
    have h1B : ∀ v ∈ (l.drop i).flatMap Td.cells, v.oneCell' = true := fun v hv => by
      obtain ⟨y, _, hy⟩ := List.mem_flatMap.1 hv
      exact td_one y v hy
    generalize (l.take i).flatMap Td.cells = cA at *
    generalize (l.drop i).flatMap Td.cells = cB at *
    have HAB := Lib.hid hAB
    have HLA := Lib.hid hlA
    have HLB := Lib.hid hlB
    have HCB := Lib.hid hcB
    have HCT := Lib.hid hct
    have HCL := Lib.hid hcl
    have H1B := Lib.hid h1B
    have hgw := hBk.lt
    have hvw := hV.lt
    have hvg : vb ≠ g := fun h => hvb (by rw [h])
    have hg0 := hBk.cell
    clear hAB hlA hlB hcB hct hcl h1B hO hg0
    by_cases hroom : c < l.length + 1
    · go_wp2_with (first | (at_builtin; refine wpList_appzo rfl _ _ 104 3 rfl Try.underlying104 Try.underlying3 infoTd rfl (by decide) rfl (m := l.length + 1 - i) rfl (by omega) (by omega) (by omega) (by omega) (by omega) hrdA ?_))
      intro c' cs w1 g1 g2 g3 g4 g5 g6
      rw [show i + (l.length + 1 - i) = l.length + 1 by omega]
      have hci' : ¬ c' = i := by omega
      have hci'' : ¬ c' = i + 1 := by omega
      have hV1 := hV.fr g6 (fun h => h)
      have hX1 : ∀ j v, (Td.cells x)[j]? = some v → w1.cell? ((⟨vb, 0, none⟩ : Addr).add j) = some v := fun j v hj => by rw [Addr.add_lit, hV1.cell, Nat.zero_add]; exact hj
      have HX1 := Lib.hid hX1
      have G4 := Lib.hid g4
      have G5 := Lib.hid g5
      clear hX1 g4 g5
      go_wp2_with (with_reducible refine wpList_cpy rfl (.tmp 43) (.tmp 44) 104 104 rfl Try.underlying104 infoTd rfl rfl (g := w.heap.size) (off := i * 5) g3 (cs := Td.cells x) ?a1 ?a5)
      case a1 =>
        unfold CpySide
        exact ⟨by simp [Td.cells_len]; omega, fun _ => ⟨rfl, _, rfl, HX1.out⟩, by rw [Td.cells_len, G4.out]; omega, td_one x⟩
      case a5 =>
        intro w2 hB2 hF2 hs2
        go_wp2
        (refine wp_region_mix (fun _ => True) 8 (by kernel_rfl) (by kernel_rfl) (trivial) ?_; simp only [List.take_succ_cons, List.take_zero, List.drop_succ_cons, List.drop_zero])
        (refine wpMix_earlyN 8 (by kernel_rfl) (by kernel_rfl) ?_; simp only [List.take_succ_cons, List.take_zero, List.drop_succ_cons, List.drop_zero]; (repeat (go_big_quiet_step (fail))); refine wpQuiet_nil ?_)
        refine wpMix_nil ?_
        have hB3 : Blk w2.drew.heap w.heap.size 128 (splice cs (i * 5) (Td.cells x)) := hB2
        have hl3 : (splice cs (i * 5) (Td.cells x)).length = c' * 5 := by rw [length_splice _ _ _ (by rw [Td.cells_len, G4.out]; omega), G4.out]
        have HL3 := Lib.hid hl3
        clear hl3
        with_reducible refine wpList_cpy rfl (.tmp 50) (.tmp 53) 104 104 rfl Try.underlying104 infoTd rfl rfl (g := w.heap.size) (off := (i + 1) * 5) hB3 (cs := cB) ?b1 ?b5
        case b1 =>
          unfold CpySide
          refine ⟨by rw [HLB.out]; congr 1; omega, fun _ => ⟨rfl, _, rfl, HCB.out _ (fun j => ?_)⟩, by rw [HLB.out, HL3.out]; omega, H1B.out⟩
          exact (hF2.cell (p := ⟨g, j, none⟩) (Nat.lt_of_lt_of_le hgw g6.size) (by show ¬ g = w.heap.size; omega)).trans (g6.cell (p := ⟨g, j, none⟩) hgw (fun h => h))
        case b5 =>
          intro w3 hB4 hF3 hs3
          have hF4 : Fr (fun k => some g = some k) w w3 := (g6.trans' hF2.drew (T := fun k => k = w.heap.size) (fun q hq h => by omega)).trans' hF3 (fun q hq h => by omega) |>.none _
          have hfin := ins_new (cur := cs) (A := cA) (X := Td.cells x) (B := cB) (by rw [HLA.out]; exact G5.out) (by rw [HLA.out, HLB.out, G4.out, Td.cells_len]; omega)
          rw [HLA.out, HLB.out, Td.cells_len, hX.out] at hfin
          have hO4 := Ownd.of_blk (sz := 5) (n := l.length + 1) (cap := c') hB4 (by omega) g2 (by rw [length_splice _ _ _ (by rw [HLB.out, HL3.out]; omega), HL3.out]) (xs := XS) (by rw [show (i + 1) * 5 = i * 5 + 5 by omega, show (l.length + 1) * 5 = i * 5 + 5 + (l.length - i) * 5 by omega]; exact hfin)
          clear hfin hB4 hB3 hB2
          go_wp2
          go_ret
          exact ⟨_, _, _, rfl, hO4, hF4, .inr ⟨_, rfl, Nat.le_refl _⟩⟩
    · have hov : ∀ lb cb, (callFunc 68 #[.slice (some ⟨vb, 0, none⟩) 1 1, .slice (some ⟨g, (i + 1) * 5, none⟩) lb cb]).run Try.prog w = .ok (.value (.bool false)) w := fun lb cb => by
        rw [run_callFunc_extern Try.func68 (by kernel_rfl) (by kernel_rfl) (by kernel_rfl) (e := Extern.SlicesOverlaps.overlaps #[104, 104] #[4]) (by kernel_rfl),
          Lib.run_overlaps_apart w 104 4 128 Try.underlying104 5 (fun _ => by kernel_rfl) ⟨vb, 0, none⟩ ⟨g, (i + 1) * 5, none⟩ 1 1 lb cb hvg _ _ _ _ hV.shape hBk.shape (by rw [HCL.out]; omega) (hV.frozen 0) (hV.frozen _)]
        rfl
      have hci1 : ¬ c = i + 1 := by omega
      go_wp2_with (simp only [hov])
      (refine wp_region_mix (fun _ => True) 8 (by kernel_rfl) (by kernel_rfl) (trivial) ?_; simp only [List.take_succ_cons, List.take_zero, List.drop_succ_cons, List.drop_zero])
      (refine wpMix_earlyN 8 (by kernel_rfl) (by kernel_rfl) ?_; simp only [List.take_succ_cons, List.take_zero, List.drop_succ_cons, List.drop_zero]; (repeat (go_big_quiet_step (fail))); refine wpQuiet_nil ?_)
      refine wpMix_nil ?_
      have hBd : Blk w.drew.heap g 128 cur := hBk
      with_reducible refine wpList_cpy rfl (.tmp 73) (.tmp 76) 104 104 rfl Try.underlying104 infoTd rfl rfl (g := g) (off := (i + 1) * 5) hBd (cs := cB) ?c1 ?c5
      case c1 =>
        unfold CpySide
        exact ⟨by rw [HLB.out]; congr 1; omega, fun _ => ⟨rfl, _, rfl, HCB.out _ (fun j => rfl)⟩, by rw [HLB.out, HCL.out]; omega, H1B.out⟩
      case c5 =>
        intro w3 hB3 hF3 hs3
        have hV3 := hV.fr (S := fun k => k = g) (((Fr.refl _ w).drew).trans hF3) hvg
        have hX3 : ∀ j v, (Td.cells x)[j]? = some v → w3.cell? ((⟨vb, 0, none⟩ : Addr).add j) = some v := fun j v hj => by rw [Addr.add_lit, hV3.cell, Nat.zero_add]; exact hj
        have HX3 := Lib.hid hX3
        have hl3 : (splice cur ((i + 1) * 5) cB).length = c * 5 := by rw [length_splice _ _ _ (by rw [HLB.out, HCL.out]; omega), HCL.out]
        have HL3 := Lib.hid hl3
        clear hX3 hl3 hBd
        go_wp2_with (with_reducible refine wpList_cpy rfl (.tmp 80) (.tmp 81) 104 104 rfl Try.underlying104 infoTd rfl rfl (g := g) (off := i * 5) hB3 (cs := Td.cells x) ?d1 ?d5)
        case d1 =>
          unfold CpySide
          exact ⟨by simp [Td.cells_len]; omega, fun _ => ⟨rfl, _, rfl, HX3.out⟩, by rw [Td.cells_len, HL3.out]; omega, td_one x⟩
        case d5 =>
          intro w4 hB4 hF4 hs4
          have hF5 : Fr (fun k => some g = some k) w w4 := (((Fr.refl _ w).drew).trans (hF3.trans hF4)).mono (fun q _ h => by rw [h])
          have hfin := ins_place (cur := cur) (A := cA) (X := Td.cells x) (B := cB) (by rw [HLA.out, HLB.out, HAB.out, ← HCT.out]; congr 1; omega) (by rw [HLA.out, HLB.out, HCL.out, Td.cells_len]; omega)
          rw [HLA.out, HLB.out, Td.cells_len, hX.out] at hfin
          have hO4 := Ownd.of_blk (sz := 5) (n := l.length + 1) (cap := c) hB4 (by omega) hcm (by rw [length_splice _ _ _ (by rw [Td.cells_len, HL3.out]; omega), HL3.out]) (xs := XS) (by rw [show (i + 1) * 5 = i * 5 + 5 by omega, show (l.length + 1) * 5 = i * 5 + 5 + (l.length - i) * 5 by omega]; exact hfin)
          clear hfin hB4 hB3
          go_wp2
          go_ret
          exact ⟨_, _, _, rfl, hO4, hF5, .inl rfl⟩
end Go.Proofs.Ytgfbkebbnfcgkaa
