import Derived.Test.YtoenopfmlgapbaaDoorViewW
import Derived.Test.YtoenopfmlgapbaaDoorTold
namespace Go.Proofs.YtoenopfmlgapbaaDoor
open Go.RowKit

set_option maxRecDepth 100000 in
theorem ten3_any (w : World) : Calls Tryd.prog 14 #[] w (fun e w' => e = .returned (.agg #[.int .u32 167772160, .int .i64 8]) ∧ w' = w.alloc (.cells #[.int .u32 167772160, .int .i64 8] 32)) := by
  go_enter Tryd.func14, Tryd.ntmps14
  go_wp2
  exact bodyPost_ret (v := .agg #[.int .u32 167772160, .int .i64 8]) (by simp [results, Tryd.results14, go_sem]) rfl ⟨rfl, rfl⟩
theorem RetView.getN {w w' : World} {to : Int} {poison : Bool} {l : List BestR} {r : Option Int} {e : Ending} (h : RetView w to poison l r e w') (hr : r = none) : ∃ a c ob, e = .returned (.tuple #[.slice a (viewOut to poison l).length c, .nilIface]) ∧ Own w'.heap 34 5 a (viewOut to poison l).length c ((viewOut to poison l).flatMap En.cells) ob ∧ Fr (fun _ => False) w w' ∧ (∀ g, ob = some g → w.heap.size ≤ g) := by
  subst hr; exact h
theorem RetView.getS {w w' : World} {to : Int} {poison : Bool} {l : List BestR} {r : Option Int} {k : Int} {e : Ending} (h : RetView w to poison l r e w') (hr : r = some k) : RetV w (.tuple #[.slice none 0 0, errv k]) e w' := by
  subst hr; exact h
abbrev oneB (g : Nat) : BestR := ⟨167772160, 8, 5, [1], some ⟨g, 0, none⟩, 1⟩
theorem oneB_wf (g : Nat) : BestR.wf (oneB g) :=
  ⟨⟨(by decide : (0 : Int) ≤ 167772160), (by decide : (167772160 : Int) < 4294967296), (by decide : (Lit.int .i64 8).wf = true)⟩, (by decide : (Lit.int .i64 5).wf = true), Nat.le_refl 1, (by decide : 1 ≤ maxLen), (fun z hz => by rw [List.mem_singleton.1 hz]; decide), fun h => nomatch h⟩
theorem oneB_ok (g : Nat) : viewErr 1 [oneB g] = none := by
  have h1 : netErr 167772160 8 = none := by decide
  have h2 : viewErr1 [] (oneB g) = none := by
    unfold viewErr1
    simp only [h1]
    rw [if_neg (by decide), if_neg (by simp)]
  unfold viewErr
  rw [if_neg (by decide)]
  unfold viewErrL
  rw [h2]
  rfl
set_option maxRecDepth 100000 in
set_option maxHeartbeats 1000000 in
theorem viewed_any (w : World) : Calls Tryd.prog 5 #[] w (RetV w (.bool true)) := by
  go_enter Tryd.func5, Tryd.ntmps5
  go_wp2_with (fail)
  refine (ten3_any w).mono ?_
  rintro e1 w1 ⟨rfl, hw1⟩
  have hF1 : Fr (fun _ => False) w w1 := by rw [hw1]; exact (Fr.refl _ _).alloc _
  clear hw1
  go_wp2_with (fail)
  have hB : Bests ((w1.alloc (.cells #[.int .i64 1] 3)).alloc (.cells #[.int .u32 167772160, .int .i64 8, .int .i64 5, .slice (some ⟨w1.heap.size, 0, none⟩) 1 1] 37)).heap (some ⟨w1.heap.size + 1, 0, none⟩) [oneB w1.heap.size] := by
    refine ⟨rd_box w1 (.cells #[.int .i64 1] 3) 37 (BestR.cells (oneB w1.heap.size)), fun x hx => ?_, fun x hx => ?_⟩
    · rw [List.mem_singleton.1 hx]
      exact oneB_wf _
    · rw [List.mem_singleton.1 hx]
      exact ((Own.made w1 3 1 1 [.int .i64 1] rfl (by decide)).alloc _).rd
  have hE := oneB_ok w1.heap.size
  have hV : viewOut 1 true [oneB w1.heap.size] = [⟨167772160, 8, 0, 0, 16⟩] := by rfl
  refine (view_any [oneB w1.heap.size] _ 1 1 true _ hB (by simp)).mono ?_
  intro e2 w2 R2
  obtain ⟨a2, c2, ob2, he2, hO2, hF2, -⟩ := R2.getN hE
  rw [hV] at he2 hO2
  subst he2
  obtain ⟨g, rfl, -, hg, hc, -⟩ := hO2.pos (by decide)
  have d := hc 4 (by decide)
  simp only [List.flatMap_cons, List.flatMap_nil, List.append_nil, En.cells, List.getElem?_cons_succ, List.getElem?_cons_zero] at d
  have hF := ((hF1.alloc (.cells #[.int .i64 1] 3)).alloc (.cells #[.int .u32 167772160, .int .i64 8, .int .i64 5, .slice (some ⟨w1.heap.size, 0, none⟩) 1 1] 37)).trans hF2
  clear hE hV hB hO2 hc R2 hF2
  go_wp2
  go_ret
  exact RetV.mk rfl rfl hF

theorem viewOut_true (to : Int) (l : List BestR) : viewOut to true l = l.map fun b => ⟨b.a, b.n, 0, 0, if to ∈ b.h then 16 else b.m⟩ := by
  unfold viewOut
  induction l with
  | nil => rfl
  | cons b l ih =>
    rw [List.flatMap_cons, ih, List.map_cons]
    unfold viewStep
    split
    · rfl
    · rfl
theorem viewOut_at {to : Int} {poison : Bool} {l : List BestR} {i : Nat} (hi : i < l.length) : viewOut to poison l = viewOut to poison (l.take i) ++ (viewStep to poison (nth l i) ++ viewOut to poison (l.drop (i + 1))) := by
  conv => lhs; rw [← List.take_append_drop i l, drop_nth l i hi]
  unfold viewOut
  rw [List.flatMap_append, List.flatMap_cons]

set_option maxRecDepth 100000 in
set_option maxHeartbeats 4000000 in
theorem viewHides_any (l : List BestR) (al : Option Addr) (c : Nat) (to : Int) (w : World) (hg : Hd w) (hL : Bests w.heap al l) (hl : l.length * 48 ≤ 140737488351232) :
    Calls Tryd.prog 3 #[.slice al l.length c, .int .i64 to] w (RetV w (.bool true)) := by
  have HL := Lib.hid hL
  go_enter Tryd.func3, Tryd.ntmps3
  go_wp2_with (fail)
  refine (viewed_any w).mono ?_
  rintro e1 w1 ⟨rfl, hF1⟩
  go_wp2_with (fail)
  refine (view_any l al c to true w1 (hL.fr0 hF1 (fun _ _ h => h)) hl).mono ?_
  intro e2 w2 R2
  cases hE : viewErr to l with
  | some k =>
    obtain ⟨rfl, hF2⟩ := R2.getS hE
    have hF02 := hF1.trans hF2
    clear R2
    go_wp2_with (fail)
    refine (view_any l al c to false w2 (hL.fr0 hF02 (fun _ _ h => h)) hl).mono ?_
    intro e3 w3 R3
    obtain ⟨rfl, hF3⟩ := R3.getS hE
    have hF03 := hF02.trans hF3
    clear R3 hE
    go_wp2_with (fail)
    refine (told2_any (some k) (some k) w3 (hg.none hF03)).mono ?_
    rintro e4 w4 ⟨rfl, hF4⟩
    have hdg : (errN (some k) == errN (some k)) = true := by simp
    rw [hdg]
    clear hdg
    go_wp2
    go_ret
    exact RetV.mk rfl rfl (hF03.trans hF4)
  | none =>
    obtain ⟨a2, c2, ob2, rfl, hO2, hF2, hN2⟩ := R2.getN hE
    have hF02 := hF1.trans hF2
    clear R2
    go_wp2_with (fail)
    refine (view_any l al c to false w2 (hL.fr0 hF02 (fun _ _ h => h)) hl).mono ?_
    intro e3 w3 R3
    obtain ⟨a3, c3, ob3, rfl, hO3, hF3, hN3⟩ := R3.getN hE
    have hF03 := hF02.trans hF3
    clear R3 hE
    go_wp2_with (fail)
    refine (told2_any none none w3 (hg.none hF03)).mono ?_
    rintro e4 w4 ⟨rfl, hF4⟩
    have hdg : (errN none == errN none) = true := by simp
    rw [hdg]
    clear hdg
    have hF04 := hF03.trans hF4
    have hO24 := hO2.fr (hF3.trans hF4) (fun _ _ h => h)
    have hO34 := hO3.fr hF4 (fun _ _ h => h)
    have hpl : (viewOut to true l).length = l.length := by rw [viewOut_true]; simp
    rw [hpl] at hO24 ⊢
    obtain ⟨M, hM⟩ : ∃ M, M = (viewOut to false l).length := ⟨_, rfl⟩
    rw [← hM] at hO34 ⊢
    have HM := Lib.hid hM
    have hMl : M ≤ l.length := by rw [hM]; exact viewOut_len _ _ _
    clear hO2 hO3 hpl hM hF3 hF2 hF1 hF4
    go_wp2
    go_loopw [12, 11] (fun s12 s11 wr => ∃ (i k n : Nat), s12 = .int .i64 i ∧ i ≤ l.length ∧ s11 = .int .i64 k ∧ k ≤ i ∧ wr = w4.drewN n ∧ Hid (k = (viewOut to false (l.take i)).length)) (fun s _ _ => l.length - (intOf s).toNat)
    case atStart => exact ⟨0, 0, 0, rfl, by omega, rfl, by omega, rfl, rfl⟩
    case round =>
      obtain ⟨i, k, n, rfl, hi, rfl, hki, hwr, hk⟩ := hrel
      by_cases hil : i < l.length
      · have hF0r : Fr (fun _ => False) w wr := by rw [hwr]; exact hF04.drewN n
        have hF4r : Fr (fun _ => False) w4 wr := by rw [hwr]; exact (Fr.refl _ w4).drewN n
        have hLr := HL.out.fr0 hF0r (fun _ _ h => h)
        obtain ⟨b, off, rfl, hbb, hc⟩ := Recs.pos hLr.top BestR.cells_len (by omega) (by omega)
        have dd := fun (j : Nat) (hj : j < 4) => hc wr rfl i j hil hj
        have d0 := dd 0 (by omega)
        have d1 := dd 1 (by omega)
        have d2 := dd 2 (by omega)
        have d3 := dd 3 (by omega)
        have hxm := nth_mem l i hil
        have hwf := hLr.wf _ hxm
        have hrow := hLr.row _ hxm
        obtain ⟨gp, rfl, -, hgp, hpc, -⟩ := (hO24.fr hF4r (fun _ _ h => h)).pos (by omega)
        have hpi : nth (viewOut to true l) i = ⟨(nth l i).a, (nth l i).n, 0, 0, if to ∈ (nth l i).h then 16 else (nth l i).m⟩ := by rw [viewOut_true, nth_map _ _ _ hil]
        have hpl : i < (viewOut to true l).length := by rw [viewOut_true]; simpa using hil
        have pp := fun (j : Nat) (hj : j < 5) => (hpc (i * 5 + j) (by omega)).trans (flat_get _ 5 En.cells_len _ i j hpl hj)
        rw [hpi] at pp
        have p0 := pp 0 (by omega)
        have p1 := pp 1 (by omega)
        have p2 := pp 2 (by omega)
        have p3 := pp 3 (by omega)
        have p4 := pp 4 (by omega)
        have hat := viewOut_at (to := to) (poison := false) hil
        have htk : viewOut to false (l.take (i + 1)) = viewOut to false (l.take i) ++ viewStep to false (nth l i) := by rw [take_succ_nth l i hil]; unfold viewOut; rw [List.flatMap_append]; simp
        have hO3r := hO34.fr hF4r (fun _ _ h => h)
        have hxl : (nth l i).h.length ≤ 9223372036854775807 := by
          have h1 := hwf.2.2.1
          have h2 : (nth l i).C ≤ 9223372036854775807 := hwf.2.2.2.1
          omega
        obtain ⟨x, hx⟩ : ∃ x, x = nth l i := ⟨_, rfl⟩
        rw [← hx] at d0 d1 d2 d3 hrow p0 p1 p2 p3 p4 hat htk hxl
        obtain ⟨xa, xn, xm, xh, xA, xC⟩ := x
        simp only [BestR.cells, En.cells, List.getElem?_cons_zero, List.getElem?_cons_succ, ← Nat.add_assoc, Nat.add_zero] at d0 d1 d2 d3 p0 p1 p2 p3 p4
        have HAT := Lib.hid hat
        have HTK := Lib.hid htk
        have HWR := Lib.hid hwr
        clear hc dd pp hpc hpi hpl hxm hwf hx hat htk hLr hwr hF4r
        by_cases hin : to ∈ xh
        · rw [if_pos hin] at p4
          have hk' : Hid (k = (viewOut to false (l.take (i + 1))).length) := Lib.hid (by rw [HTK.out]; unfold viewStep; simp only; rw [if_pos hin]; simpa using hk.out)
          go_wp2
          go_quiet (fail)
          go_wp2_with (fail)
          refine (in2_any xh xA xC to _ (hrow.fr0 ((Fr.refl (fun _ => False) wr).drewN _) (fun _ _ h => h)) rfl hxl).mono ?_
          rintro e5 w5 ⟨rfl, rfl⟩
          rw [decide_eq_true hin]
          clear hin
          go_wp2
          go_roundw
          case rel => exact ⟨i + 1, k, n + nq, by go_num, by omega, rfl, by omega, by rw [HWR.out]; simp, hk'⟩
          case measure => simp [intOf]; omega
        · rw [if_neg hin] at p4
          have hst : viewStep to false ⟨xa, xn, xm, xh, xA, xC⟩ = [⟨xa, xn, 0, 0, xm⟩] := by unfold viewStep; simp only; rw [if_neg hin]
          have hk' : Hid (k + 1 = (viewOut to false (l.take (i + 1))).length) := Lib.hid (by rw [HTK.out, hst, List.length_append, ← hk.out]; rfl)
          have hkM : k < M := by rw [HM.out, HAT.out, hst, List.length_append, ← hk.out]; simp
          obtain ⟨gq, rfl, -, hgq, hqc, -⟩ := hO3r.pos (by omega)
          have hqk : nth (viewOut to false l) k = ⟨xa, xn, 0, 0, xm⟩ := by rw [HAT.out, nth_append_right _ _ _ (by rw [← hk.out]; omega), ← hk.out, Nat.sub_self, hst]; rfl
          have qq := fun (j : Nat) (hj : j < 5) => (hqc (k * 5 + j) (by omega)).trans (flat_get _ 5 En.cells_len _ k j (by rw [← HM.out]; exact hkM) hj)
          rw [hqk] at qq
          have q0 := qq 0 (by omega)
          have q1 := qq 1 (by omega)
          have q2 := qq 2 (by omega)
          have q3 := qq 3 (by omega)
          have q4 := qq 4 (by omega)
          simp only [En.cells, List.getElem?_cons_zero, List.getElem?_cons_succ, Nat.add_zero] at q0 q1 q2 q3 q4
          have e1 : decide ((k : Int) ≥ (M : Int)) = false := by simp; omega
          clear qq hqc hqk hst
          go_wp2
          go_quiet (fail)
          go_wp2_with (fail)
          refine (in2_any xh xA xC to _ (hrow.fr0 ((Fr.refl (fun _ => False) wr).drewN _) (fun _ _ h => h)) rfl hxl).mono ?_
          rintro e5 w5 ⟨rfl, rfl⟩
          rw [decide_eq_false hin]
          clear hin
          go_wp2
          go_quiet (fail)
          go_wp2
          go_roundw
          case rel => exact ⟨i + 1, k + 1, _, by go_num, by omega, by go_num, by omega, by rw [HWR.out]; simp; rfl, hk'⟩
          case measure => simp [intOf]; omega
      · obtain rfl : i = l.length := by omega
        have hkM : k = M := by rw [hk.out, HM.out, List.take_length]
        subst hkM
        go_wp2
        go_ret
        exact RetV.mk rfl rfl (hF04.drewN n)
end Go.Proofs.YtoenopfmlgapbaaDoor
