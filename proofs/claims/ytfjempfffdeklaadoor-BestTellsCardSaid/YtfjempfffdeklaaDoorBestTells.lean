import Derived.Test.YtfjempfffdeklaaDoorChosen
import Derived.Test.YtfjempfffdeklaaDoorArgHea
import Derived.Test.YtfjempfffdeklaaDoorBestOf
import Derived.Test.YtfjempfffdeklaaDoorBestSame
import Derived.Test.YtfjempfffdeklaaDoorErrSame
import Derived.Test.YtfjempfffdeklaaDoorPut4
namespace Go.Proofs.YtfjempfffdeklaaDoor
open Go.RowKit

theorem heardE_pos {N : Nat} {h : Hea} {k : Int} (hk : heardE N h = some k) : k ≠ 0 := by
  unfold heardE at hk
  split at hk
  · cases hk; decide
  · split at hk
    · rename_i q hq; cases hk; exact netErr_pos hq
    · split at hk
      · cases hk; decide
      · cases hk
theorem heardsE_app {N : Nat} {l : List Hea} {x : Hea} (h : heardsE N l = none) : heardsE N (l ++ [x]) = heardE N x := by
  induction l with
  | nil => show (match heardE N x with | some k => some k | none => none) = _; cases heardE N x <;> rfl
  | cons y l ih =>
    unfold heardsE at h
    cases hy : heardE N y with
    | some k => rw [hy] at h; cases h
    | none =>
      rw [hy] at h
      show (match heardE N y with | some k => some k | none => heardsE N (l ++ [x])) = _
      rw [hy]
      exact ih h
theorem heardsE_some {N : Nat} {l m : List Hea} {k : Int} (h : heardsE N l = some k) : heardsE N (l ++ m) = some k := by
  induction l with
  | nil => cases h
  | cons y l ih =>
    unfold heardsE at h
    show (match heardE N y with | some k => some k | none => heardsE N (l ++ m)) = _
    cases hy : heardE N y with
    | some q => rw [hy] at h; exact h
    | none => rw [hy] at h; exact ih h
theorem heardsE_pos {N : Nat} {l : List Hea} {k : Int} (h : heardsE N l = some k) : k ≠ 0 := by
  induction l with
  | nil => cases h
  | cons y l ih =>
    unfold heardsE at h
    cases hy : heardE N y with
    | some q => rw [hy] at h; cases h; exact heardE_pos hy
    | none => rw [hy] at h; exact ih h
theorem nearE_pos {costs : List Int} {k : Int} (h : nearE costs = some k) : k = 1 := by
  unfold nearE at h
  split at h <;> cases h
  rfl

set_option maxRecDepth 100000 in
set_option maxHeartbeats 4000000 in
theorem bestTells_any (l : List Hea) (al : Option Addr) (cl : Nat) (costs : List Int) (ac : Option Addr) (cc : Nat) (a n : Int) (w : World) (hg : Hd w) (hL : Recs w.heap al 4 Hea.cells l) (hw : ∀ x ∈ l, Hea.wf x) (hll : l.length ≤ 9223372036854775806) (hC : Ints w.heap ac costs) (hcl : costs.length ≤ 9223372036854775806) (ha : 0 ≤ a ∧ a < 4294967296) :
    Calls Tryd.prog 5 #[.slice al l.length cl, .slice ac costs.length cc, .agg #[.int .u32 a, .int .i64 n]] w (RetV w (.bool true)) := by
  have HL := Lib.hid hL
  have HW := Lib.hid (show ∀ x ∈ l, 0 ≤ x.a ∧ x.a < 4294967296 from fun x hx => ⟨(hw x hx).2.1.1, (hw x hx).2.1.2.1⟩)
  have HC := Lib.hid hC
  have k0 : Blk (w.alloc (.cells #[.int .u32 a, .int .i64 n] 37)).heap w.heap.size 37 [.int .u32 a, .int .i64 n] := Blk.made w 37 [.int .u32 a, .int .i64 n]
  have hF0 := (Fr.refl (fun _ => False) w).alloc (.cells #[.int .u32 a, .int .i64 n] 37)
  clear hL hw hC
  go_enter Tryd.func5, Tryd.ntmps5
  go_wp2_with (fail)
  refine (chosen3_any _).mono ?_
  rintro e1 w1 ⟨rfl, hF1⟩
  have k1 := k0.fr hF1 (fun h => h)
  have hF01 := hF0.trans hF1
  clear k0 hF0 hF1
  go_wp2_with (fail)
  refine (nearFault_any costs ac cc w1 (HC.out.fr0 hF01 (fun _ _ h => h)) rfl (by omega)).mono ?_
  rintro e2 w2 ⟨rfl, rfl⟩
  obtain ⟨E0, hE0⟩ : ∃ E0, E0 = numO (nearE costs) := ⟨_, rfl⟩
  rw [← hE0]
  have HE0 := Lib.hid hE0
  clear hE0
  -- what is wrong with what was heard
  go_wp2
  go_loopw [9, 8] (fun s9 s8 wr => ∃ (k : Nat) (e : Int), k ≤ l.length ∧ s9 = .int .i64 k ∧ s8 = .int .i64 e ∧ Blk wr.heap w.heap.size 37 [.int .u32 a, .int .i64 n] ∧ Fr (fun _ => False) w wr ∧ Hid ((E0 ≠ 0 ∧ e = E0) ∨ (E0 = 0 ∧ e = numO (heardsE costs.length (l.take k))))) (fun s _ _ => l.length - (intOf s).toNat)
  case atStart => exact ⟨0, E0, by omega, rfl, rfl, k1, hF01, Lib.hid (by by_cases h : E0 = 0 <;> simp [h, heardsE, numO])⟩
  case round =>
    clear k1 hF01
    obtain ⟨k, e, hk, rfl, rfl, hB, hF, hE⟩ := hrel
    by_cases he : e = 0
    · by_cases hkl : k < l.length
      · subst he
        obtain ⟨g, o, rfl, hgl, hc⟩ := Recs.pos HL.out Hea.cells_len (by omega) (by omega)
        have dd := fun (j : Nat) (hj : j < 4) => (hF.cell (p := ⟨g, o + (k * 4 + j), none⟩) hgl (fun h => h)).trans (hc w rfl k j hkl hj)
        have d0 := dd 0 (by omega)
        have d1 := dd 1 (by omega)
        have d2 := dd 2 (by omega)
        have d3 := dd 3 (by omega)
        have hx := HW.out _ (nth_mem l k hkl)
        have hT := take_succ_nth l k hkl
        generalize nth l k = x at *
        have hN : E0 = 0 ∧ heardsE costs.length (l.take k) = none := by
          rcases hE.out with ⟨h1, h2⟩ | ⟨h1, h2⟩
          · exact absurd h2.symm h1
          · refine ⟨h1, ?_⟩
            cases hh : heardsE costs.length (l.take k) with
            | none => rfl
            | some q => rw [hh] at h2; exact absurd h2.symm (heardsE_pos hh)
        have HN := Lib.hid (show E0 = 0 ∧ numO (heardE costs.length x) = numO (heardsE costs.length (l.take (k + 1))) from ⟨hN.1, by rw [hT, heardsE_app hN.2]⟩)
        obtain ⟨E1, hE1⟩ : ∃ E1, E1 = numO (heardE costs.length x) := ⟨_, rfl⟩
        have hcall := heardFault_any x costs.length ac cc wr hx
        rw [← hE1] at hcall
        have HN2 := Lib.hid (show E0 = 0 ∧ E1 = numO (heardsE costs.length (l.take (k + 1))) from ⟨HN.out.1, hE1.trans HN.out.2⟩)
        obtain ⟨xf, xa, xn, xm⟩ := x
        simp only [Hea.cells, List.getElem?_cons_zero, List.getElem?_cons_succ, ← Nat.add_assoc, Nat.add_zero] at d0 d1 d2 d3
        clear dd hc hT hN HN hE1
        go_wp2_with (fail)
        refine hcall.mono ?_
        rintro e3 w3 ⟨rfl, hF3⟩
        have hB3 := hB.fr hF3 (fun h => h)
        have hF03 := hF.trans hF3
        clear hcall hB hF hF3 d0 d1 d2 d3
        go_wp2
        go_roundw
        case rel => exact ⟨k + 1, E1, by omega, by go_num, rfl, hB3, hF03, Lib.hid (.inr HN2.out)⟩
        case measure => simp [intOf]; omega
      · obtain rfl : k = l.length := by omega
        subst he
        have hN : nearE costs = none ∧ heardsE costs.length l = none := by
          rcases hE.out with ⟨h1, h2⟩ | ⟨h1, h2⟩
          · exact absurd h2.symm h1
          · constructor
            · cases hh : nearE costs with
              | none => rfl
              | some q => have h3 := HE0.out; rw [hh, h1] at h3; have := nearE_pos hh; subst this; cases h3
            · rw [List.take_length] at h2
              cases hh : heardsE costs.length l with
              | none => rfl
              | some q => rw [hh] at h2; exact absurd h2.symm (heardsE_pos hh)
        have hbE : bestE l costs a n = netErr a n := by unfold bestE; rw [hN.1]; simp only [hN.2]
        obtain ⟨hn8, hcb⟩ := nearE_ok hN.1
        have hlb : ∀ x ∈ l, 1 ≤ x.m ∧ x.m ≤ 16 := fun x hx => (heardE_ok (heardsE_ok hN.2 x hx)).2.2.2
        have HBE := Lib.hid hbE
        have HLB := Lib.hid hlb
        have HCB := Lib.hid hcb
        have c0 := hB.cell 0
        have c1 := hB.cell 1
        simp only [List.getElem?_cons_succ, List.getElem?_cons_zero] at c0 c1
        clear hN hE hbE hlb hcb
        go_wp2_with (fail)
        refine (netFault_any a n wr ha).mono ?_
        rintro e4 w4 ⟨rfl, hF4⟩
        have hB4 := hB.fr hF4 (fun h => h)
        have hF04 := hF.trans hF4
        clear hB hF hF4 c0 c1
        have hlt4 := hB4.lt
        have c0 := hB4.cell 0
        have c1 := hB4.cell 1
        simp only [List.getElem?_cons_succ, List.getElem?_cons_zero] at c0 c1
        cases hne : netErr a n with
        | some q =>
          have hq0 := netErr_pos hne
          have HE := Lib.hid (HBE.out.trans hne)
          have e0 : (q == 0) = false := by simp [hq0]
          rw [show numO (some q) = q from rfl]
          clear hne hq0
          have hX : Fr (fun _ => False) w (w4.alloc (.cells #[.int .u32 0, .int .i64 0, .int .i64 0, .slice none 0 0] 40)) := hF04.alloc _
          have HBX := Lib.hid (Blk.made w4 40 [.int .u32 0, .int .i64 0, .int .i64 0, .slice none 0 0])
          go_wp2_with (fail)
          refine (best_any l al cl costs ac cc a n _ (HL.out.fr0 hX (fun _ _ h => h)) HW.out hll (HC.out.fr0 hX (fun _ _ h => h)) (by omega) ha rfl rfl).mono ?_
          intro e5 w5 R5
          obtain ⟨rfl, hF5⟩ := R5.errE HE.out
          have hX5 := hX.trans hF5
          have hX6 := hX5.alloc (.cells #[.int .u32 0, .int .i64 0, .int .i64 0, .slice none 0 0] 40)
          have hBX := ((HBX.out.fr hF5 (fun h => h)).alloc (.cells #[.int .u32 0, .int .i64 0, .int .i64 0, .slice none 0 0] 40))
          have hBY := Blk.made w5 40 [.int .u32 0, .int .i64 0, .int .i64 0, .slice none 0 0]
          clear R5 hF5 hX HBX hX5
          go_wp2_with (fail)
          refine (error_any (some q) q _ (hg.none hX6)).mono ?_
          rintro e7 w7 ⟨rfl, hF7⟩
          rw [show (errN (some q) == q) = true from by simp [errN]]
          have hX7 := hX6.trans hF7
          have x0 := (hBX.fr hF7 (fun h => h)).cell 0
          have x1 := (hBX.fr hF7 (fun h => h)).cell 1
          have x2 := (hBX.fr hF7 (fun h => h)).cell 2
          have x3 := (hBX.fr hF7 (fun h => h)).cell 3
          have y0 := (hBY.fr hF7 (fun h => h)).cell 0
          have y1 := (hBY.fr hF7 (fun h => h)).cell 1
          have y2 := (hBY.fr hF7 (fun h => h)).cell 2
          have y3 := (hBY.fr hF7 (fun h => h)).cell 3
          simp only [List.getElem?_cons_succ, List.getElem?_cons_zero] at x0 x1 x2 x3 y0 y1 y2 y3
          clear hBX hBY hF7 hX6
          go_wp2_with (fail)
          refine (sbest_any ⟨0, 0, 0, [], none, 0⟩ ⟨0, 0, 0, [], none, 0⟩ w7 (Rd.nil _ _ _) (Rd.nil _ _ _) (by simp) (by simp)).mono ?_
          rintro e8 w8 ⟨rfl, hF8⟩
          rw [show bEq ⟨0, 0, 0, [], none, 0⟩ ⟨0, 0, 0, [], none, 0⟩ = true from decide_eq_true ⟨rfl, rfl, rfl, rfl⟩]
          have hX8 := hX7.trans hF8
          go_wp2
          go_ret
          exact RetV.mk rfl rfl hX8
        | none =>
          have HE := Lib.hid (HBE.out.trans hne)
          rw [show numO none = 0 from rfl]
          clear hne
          have hX : Fr (fun _ => False) w (w4.alloc (.cells #[.int .u32 0, .int .i64 0, .int .i64 0, .slice none 0 0] 40)) := hF04.alloc _
          have hBN := hB4.alloc (.cells #[.int .u32 0, .int .i64 0, .int .i64 0, .slice none 0 0] 40)
          have hBX := Blk.made w4 40 [.int .u32 0, .int .i64 0, .int .i64 0, .slice none 0 0]
          have hs4 := hF04.size
          have hs5 : w4.heap.size < (w4.alloc (.cells #[.int .u32 0, .int .i64 0, .int .i64 0, .slice none 0 0] 40)).heap.size := by simp
          have hcall := bestOf_any l al cl costs ac cc a n _ (HL.out.fr0 hX (fun _ _ h => h)) HLB.out hll (HC.out.fr0 hX (fun _ _ h => h)) hn8 HCB.out rfl rfl
          obtain ⟨M, hM⟩ : ∃ M, M = bestM l costs a n := ⟨_, rfl⟩
          rw [← hM] at hcall
          have HM := Lib.hid hM
          obtain ⟨sm, sh⟩ := M
          clear hM
          go_wp2_with (fail)
          refine hcall.mono ?_
          rintro e5 w5 ⟨a5, c5, ob5, rfl, hO5, hF5, hN5⟩
          simp only at hO5 ⊢
          have hX5 := hX.trans hF5
          have hne5 : ∀ g, ob5 = some g → ¬ g = w4.heap.size := fun g h1 h2 => by have := hN5 g h1; omega
          obtain ⟨hBW, hFW⟩ := put4 (hBX.fr hF5 (fun h => h)) (.int .u32 a) (.int .i64 n) (.int .i64 sm) (.slice a5 sh.length c5)
          have hBNW := (hBN.fr hF5 (fun h => h)).fr hFW (fun h => by have h2 : w.heap.size = w4.heap.size := h; have h3 := hB4.lt; omega)
          have hOW := hO5.fr hFW hne5
          have hXW := hX5.trans' hFW (fun i hi h => by have h2 : i = w4.heap.size := h; omega)
          have c0 := hBNW.cell 0
          have c1 := hBNW.cell 1
          have l5 := (hBX.fr hF5 (fun h => h)).lt
          have y0 := (hBX.fr hF5 (fun h => h)).cell 0
          have y1 := (hBX.fr hF5 (fun h => h)).cell 1
          have y2 := (hBX.fr hF5 (fun h => h)).cell 2
          have y3 := (hBX.fr hF5 (fun h => h)).cell 3
          have z0 := (hBX.fr hF5 (fun h => h)).frozen 0
          have z1 := (hBX.fr hF5 (fun h => h)).frozen 1
          have z2 := (hBX.fr hF5 (fun h => h)).frozen 2
          have z3 := (hBX.fr hF5 (fun h => h)).frozen 3
          simp only [List.getElem?_cons_succ, List.getElem?_cons_zero] at c0 c1 y0 y1 y2 y3
          clear hcall hX hBX hO5 hF5 hX5 hBN hFW hne5 hN5
          have HBW := Lib.hid hBW
          have HOW := Lib.hid hOW
          have HXW := Lib.hid hXW
          have HBNW := Lib.hid hBNW
          clear hBW hOW hXW hBNW
          go_wp2_with (fail)
          have hcall := best_any l al cl costs ac cc a n _ (HL.out.fr0 HXW.out (fun _ _ h => h)) HW.out hll (HC.out.fr0 HXW.out (fun _ _ h => h)) (by omega) ha rfl rfl
          rw [← HM.out] at hcall
          refine hcall.mono ?_
          intro e6 w6 R6
          obtain ⟨a6, c6, ob6, he6, hO6, hF6, hN6⟩ := R6.okE HE.out
          simp only at hO6 he6
          subst he6
          have hX6 := HXW.out.trans hF6
          have hBW6 := (HBW.out.fr hF6 (fun h => h)).alloc (.cells #[.int .u32 a, .int .i64 n, .int .i64 sm, .slice a6 sh.length c6] 40)
          have hB6 := Blk.made w6 40 [.int .u32 a, .int .i64 n, .int .i64 sm, .slice a6 sh.length c6]
          have hO5 := (HOW.out.fr hF6 (fun _ _ h => h)).alloc (.cells #[.int .u32 a, .int .i64 n, .int .i64 sm, .slice a6 sh.length c6] 40)
          have hO6 := hO6.alloc (.cells #[.int .u32 a, .int .i64 n, .int .i64 sm, .slice a6 sh.length c6] 40)
          have hX6 := hX6.alloc (.cells #[.int .u32 a, .int .i64 n, .int .i64 sm, .slice a6 sh.length c6] 40)
          have hlen : sh.length ≤ 4 := by have h := (hopsK_len (pOf l costs a n) (mK (pOf l costs a n) costs.length) costs.length).1; have h2 := congrArg (fun s => s.2.length) (HM.out.trans (bestM_eq a n HLB.out HCB.out)); simp only at h2; omega
          clear hcall R6 hF6 hN6 y0 y1 y2 y3 z0 z1 z2 z3 c0 c1
          go_wp2_with (fail)
          refine (error_any none 0 _ (hg.none hX6)).mono ?_
          rintro e7 w7 ⟨rfl, hF7⟩
          rw [show (errN none == 0) = true from rfl]
          have hX7 := hX6.trans hF7
          have hBW7 := hBW6.fr hF7 (fun h => h)
          have hB7 := hB6.fr hF7 (fun h => h)
          have hO57 := (hO5.fr hF7 (fun _ _ h => h)).rd
          have hO67 := (hO6.fr hF7 (fun _ _ h => h)).rd
          have x0 := hBW7.cell 0
          have x1 := hBW7.cell 1
          have x2 := hBW7.cell 2
          have x3 := hBW7.cell 3
          have y0 := hB7.cell 0
          have y1 := hB7.cell 1
          have y2 := hB7.cell 2
          have y3 := hB7.cell 3
          simp only [List.getElem?_cons_succ, List.getElem?_cons_zero] at x0 x1 x2 x3 y0 y1 y2 y3
          clear hO5 hO6 hF7 hX6 hB6 hBW6 hBW7 hB7
          go_wp2_with (fail)
          refine (sbest_any ⟨a, n, sm, sh, a6, c6⟩ ⟨a, n, sm, sh, a5, c5⟩ w7 hO67 hO57 (by simp only; omega) (by simp only; omega)).mono ?_
          rintro e8 w8 ⟨rfl, hF8⟩
          rw [show bEq ⟨a, n, sm, sh, a6, c6⟩ ⟨a, n, sm, sh, a5, c5⟩ = true from decide_eq_true ⟨rfl, rfl, rfl, rfl⟩]
          have hX8 := hX7.trans hF8
          go_wp2
          go_ret
          exact RetV.mk rfl rfl hX8
    · have hbE : bestE l costs a n = some e := by
        rcases hE.out with ⟨h1, h2⟩ | ⟨h1, h2⟩
        · have h3 := HE0.out
          unfold bestE
          cases hh : nearE costs with
          | none => rw [hh] at h3; exact absurd h3 h1
          | some q => rw [hh] at h3; simp only [numO] at h3; rw [h2, h3]
        · have h4 : heardsE costs.length (l.take k) = some e := by
            cases hh : heardsE costs.length (l.take k) with
            | none => rw [hh] at h2; exact absurd h2 he
            | some q => rw [hh] at h2; simp only [numO] at h2; rw [h2]
          have h5 := heardsE_some (m := l.drop k) h4
          rw [List.take_append_drop] at h5
          unfold bestE
          have h6 : nearE costs = none := by
            cases hh : nearE costs with
            | none => rfl
            | some q => have h3 := HE0.out; rw [hh, h1] at h3; have := nearE_pos hh; subst this; cases h3
          rw [h6]
          simp only [h5]
      have HE := Lib.hid hbE
      have e0 : (e == 0) = false := by simp [he]
      have c0 := hB.cell 0
      have c1 := hB.cell 1
      simp only [List.getElem?_cons_succ, List.getElem?_cons_zero] at c0 c1
      have hlt4 := hB.lt
      clear hbE he hE
      have hX : Fr (fun _ => False) w (wr.alloc (.cells #[.int .u32 0, .int .i64 0, .int .i64 0, .slice none 0 0] 40)) := hF.alloc _
      have HBX := Lib.hid (Blk.made wr 40 [.int .u32 0, .int .i64 0, .int .i64 0, .slice none 0 0])
      go_wp2_with (fail)
      refine (best_any l al cl costs ac cc a n _ (HL.out.fr0 hX (fun _ _ h => h)) HW.out hll (HC.out.fr0 hX (fun _ _ h => h)) (by omega) ha rfl rfl).mono ?_
      intro e5 w5 R5
      obtain ⟨rfl, hF5⟩ := R5.errE HE.out
      have hX5 := hX.trans hF5
      have hX6 := hX5.alloc (.cells #[.int .u32 0, .int .i64 0, .int .i64 0, .slice none 0 0] 40)
      have hBX := ((HBX.out.fr hF5 (fun h => h)).alloc (.cells #[.int .u32 0, .int .i64 0, .int .i64 0, .slice none 0 0] 40))
      have hBY := Blk.made w5 40 [.int .u32 0, .int .i64 0, .int .i64 0, .slice none 0 0]
      clear R5 hF5 hX HBX hX5
      go_wp2_with (fail)
      refine (error_any (some e) e _ (hg.none hX6)).mono ?_
      rintro e7 w7 ⟨rfl, hF7⟩
      rw [show (errN (some e) == e) = true from by simp [errN]]
      have hX7 := hX6.trans hF7
      have x0 := (hBX.fr hF7 (fun h => h)).cell 0
      have x1 := (hBX.fr hF7 (fun h => h)).cell 1
      have x2 := (hBX.fr hF7 (fun h => h)).cell 2
      have x3 := (hBX.fr hF7 (fun h => h)).cell 3
      have y0 := (hBY.fr hF7 (fun h => h)).cell 0
      have y1 := (hBY.fr hF7 (fun h => h)).cell 1
      have y2 := (hBY.fr hF7 (fun h => h)).cell 2
      have y3 := (hBY.fr hF7 (fun h => h)).cell 3
      simp only [List.getElem?_cons_succ, List.getElem?_cons_zero] at x0 x1 x2 x3 y0 y1 y2 y3
      clear hBX hBY hF7 hX6
      go_wp2_with (fail)
      refine (sbest_any ⟨0, 0, 0, [], none, 0⟩ ⟨0, 0, 0, [], none, 0⟩ w7 (Rd.nil _ _ _) (Rd.nil _ _ _) (by simp) (by simp)).mono ?_
      rintro e8 w8 ⟨rfl, hF8⟩
      rw [show bEq ⟨0, 0, 0, [], none, 0⟩ ⟨0, 0, 0, [], none, 0⟩ = true from decide_eq_true ⟨rfl, rfl, rfl, rfl⟩]
      have hX8 := hX7.trans hF8
      go_wp2
      go_ret
      exact RetV.mk rfl rfl hX8
end Go.Proofs.YtfjempfffdeklaaDoor
