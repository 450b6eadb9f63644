import Derived.Test.YtfjempfffdeklaaDoorSppMath
import Derived.Test.YtfjempfffdeklaaDoorIntsIn
namespace Go.Proofs.YtfjempfffdeklaaDoor
open Go.RowKit

theorem ints_take {H : Array Obj} {a : Option Addr} {l : List Int} (h : Ints H a l) (k : Nat) (hk : k ≤ l.length) : Ints H a (l.take k) := by
  have hl : (l.take k).length = k := by simp; omega
  refine ⟨by simp [ivals], ?_⟩
  by_cases h0 : k = 0
  · left; subst h0; rfl
  · right
    rcases h.at' with q | ⟨b, off, e, hb, hc⟩
    · have := congrArg List.length q
      simp [ivals] at this
      subst this
      simp at hk
      omega
    · refine ⟨b, off, e, hb, fun w hw i hi => ?_⟩
      rw [hc w hw i (by simp [ivals] at hi ⊢; omega)]
      simp only [ivals, List.length_map, hl] at hi
      simp [ivals, List.getElem?_take, hi]
set_option maxRecDepth 100000 in
set_option maxHeartbeats 2000000 in
theorem right_any (n i : Nat) (l : List Int) (a : Option Addr) (c : Nat) (w : World) (hr : Ints w.heap a l) (hl : l.length ≤ 9223372036854775807) (hc : l.length ≤ c) :
    Calls Tryd.prog 129 #[.int .i64 n, .int .i64 i, .slice a l.length c] w (RetS w (.bool (rightB n i l))) := by
  obtain ⟨X, hX⟩ : ∃ X, X = rightB n i l := ⟨_, rfl⟩
  rw [← hX]
  have HX := Lib.hid hX
  have HR := Lib.hid hr
  clear hX hr
  by_cases h0 : l = []
  · have HF := Lib.hid (HX.out.trans (rightB_no (fun h => h.1 h0)))
    subst h0
    go_enter Tryd.func129, Tryd.ntmps129
    go_wp2
    go_ret
    exact RetS.mk (x := .bool false) (by rw [HF.out]) rfl rfl
  · have hpos : 0 < l.length := List.length_pos_iff.2 h0
    obtain ⟨g, o, rfl, hg, hcell⟩ := Ints.pos HR.out hpos
    have e0 : ((l.length : Int) == 0) = false := beq_eq_false_iff_ne.2 (by omega)
    have d0 := hcell w rfl 0 hpos
    simp only [Nat.add_zero] at d0
    have d1 := hcell w rfl (l.length - 1) (by omega)
    have H0 := Lib.hid h0
    obtain ⟨x0, hx0⟩ : ∃ x, x = nth l 0 := ⟨_, rfl⟩
    obtain ⟨x1, hx1⟩ : ∃ x, x = nth l (l.length - 1) := ⟨_, rfl⟩
    rw [← hx0] at d0
    rw [← hx1] at d1
    have HX0 := Lib.hid hx0
    have HX1 := Lib.hid hx1
    have hlen1 : ((l.length : Int) - 1) = ((l.length - 1 : Nat) : Int) := by omega
    obtain ⟨M, hM⟩ : ∃ M, M = l.length - 1 := ⟨_, rfl⟩
    rw [← hM] at d1 hlen1
    have HM := Lib.hid hM
    clear hx0 hx1 h0 hM
    by_cases h1 : x0 = i
    · have e1 : (x0 != (i : Int)) = false := by simp [h1]
      by_cases h2 : x1 = 0
      · have e2 : (x1 != 0) = false := by simp [h2]
        have HB := Lib.hid (And.intro (HX0.out.symm.trans h1) (show nth l (l.length - 1) = 0 from HX1.out.symm.trans h2))
        clear h1 h2 hcell
        go_enter Tryd.func129, Tryd.ntmps129
        go_wp2
        go_loopw [30] (fun s30 wr => ∃ k : Nat, k ≤ l.length ∧ s30 = .int .i64 k ∧ w = wr ∧ Hid (∀ j, j < k → 0 ≤ nth l j ∧ nth l j < n ∧ nth l j ∉ l.take j)) (fun s _ => l.length - (intOf s).toNat)
        case atStart => exact ⟨0, by omega, rfl, rfl, Lib.hid (fun j hj => absurd hj (Nat.not_lt_zero _))⟩
        case round =>
          obtain ⟨k, hk, rfl, rfl, hJ⟩ := hrel
          by_cases hkl : k < l.length
          · obtain ⟨g', o', hgo, hg', hcell⟩ := Ints.pos HR.out hpos
            cases hgo
            have d := hcell w rfl k hkl
            have hcn := contains_int (l.take k) (some ⟨g, o, none⟩) c (nth l k) w (ints_take HR.out k hk) (n := k) (by simp; omega) (by omega)
            obtain ⟨x, hx⟩ : ∃ x, x = nth l k := ⟨_, rfl⟩
            rw [← hx] at d hcn
            have HXK := Lib.hid hx
            have hbad : Hid (¬ (0 ≤ x ∧ x < n ∧ x ∉ l.take k) → X = false) := Lib.hid (fun h => HX.out.trans (rightB_no (fun hh => h (by rw [HXK.out]; exact hh.2.2.2 k hkl))))
            clear hcell hx hg'
            by_cases q1 : x < 0
            · have HF := Lib.hid (hbad.out (fun h => by omega))
              clear hcn
              go_wp2
              go_ret
              exact RetS.mk (x := .bool false) (by rw [HF.out]) rfl rfl
            · by_cases q2 : (n : Int) ≤ x
              · have HF := Lib.hid (hbad.out (fun h => by omega))
                clear hcn
                go_wp2
                go_ret
                exact RetS.mk (x := .bool false) (by rw [HF.out]) rfl rfl
              · by_cases q3 : x ∈ l.take k
                · have HF := Lib.hid (hbad.out (fun h => h.2.2 q3))
                  rw [decide_eq_true q3] at hcn
                  clear q3
                  go_wp2_with (fail)
                  refine hcn.mono ?_
                  rintro e1 w1 ⟨rfl, rfl⟩
                  clear hcn
                  go_wp2
                  go_ret
                  exact RetS.mk (x := .bool false) (by rw [HF.out]) rfl rfl
                · have hJ' := Lib.hid (show ∀ j, j < k + 1 → 0 ≤ nth l j ∧ nth l j < n ∧ nth l j ∉ l.take j from fun j hj => by
                    rcases Nat.lt_succ_iff_lt_or_eq.1 hj with h | h
                    · exact hJ.out j h
                    · subst h; rw [← HXK.out]; exact ⟨by omega, by omega, q3⟩)
                  rw [decide_eq_false q3] at hcn
                  clear q3 hJ
                  go_wp2_with (fail)
                  refine hcn.mono ?_
                  rintro e1 w1 ⟨rfl, rfl⟩
                  clear hcn
                  go_wp2
                  go_roundw
                  case rel => exact ⟨k + 1, by omega, by go_num, by first | trivial | rfl, hJ'⟩
                  case measure => simp [intOf]; omega
          · obtain rfl : k = l.length := by omega
            have HF := Lib.hid (HX.out.trans (rightB_yes ⟨H0.out, HB.out.1, HB.out.2, hJ.out⟩))
            go_wp2
            go_ret
            exact RetS.mk (x := .bool true) (by rw [HF.out]) rfl rfl
      · have e2 : (x1 != 0) = true := by simp [h2]
        have HF := Lib.hid (HX.out.trans (rightB_no (fun h => h2 (HX1.out.trans h.2.2.1))))
        clear h1 h2 hcell
        go_enter Tryd.func129, Tryd.ntmps129
        go_wp2
        go_ret
        exact RetS.mk (x := .bool false) (by rw [HF.out]) rfl rfl
    · have e1 : (x0 != (i : Int)) = true := by simp [h1]
      have HF := Lib.hid (HX.out.trans (rightB_no (fun h => h1 (HX0.out.trans h.2.1))))
      clear h1 hcell
      go_enter Tryd.func129, Tryd.ntmps129
      go_wp2
      go_ret
      exact RetS.mk (x := .bool false) (by rw [HF.out]) rfl rfl

set_option maxRecDepth 100000 in
set_option maxHeartbeats 2000000 in
theorem scheck_any (L : List Rw) (a : Option Addr) (c : Nat) (T : Nat → Prop) (w : World) (hL : Likes w.heap a L T) (hl : L.length ≤ 9223372036854775807) :
    Calls Tryd.prog 113 #[.slice a L.length c] w (RetS w (errO (sppErr (vals L)))) := by
  obtain ⟨X, hX⟩ : ∃ X, X = sppErr (vals L) := ⟨_, rfl⟩
  rw [← hX]
  have HX := Lib.hid hX
  have HL := Lib.hid hL
  have hvl := vals_len L
  clear hX hL
  by_cases hb : L.length < 1 ∨ 8 < L.length
  · have HF := Lib.hid (HX.out.trans (sppErr_1 (by rw [hvl]; exact hb)))
    have q : L.length < 1 ∨ (1 ≤ L.length ∧ 8 < L.length) := by omega
    clear hb hvl
    rcases q with q | ⟨q1, q2⟩
    all_goals
      go_enter Tryd.func113, Tryd.ntmps113
      go_wp2
      go_ret
      exact RetS.mk (x := errO (some 1)) (by rw [HF.out]) rfl rfl
  · have HB := Lib.hid (show ¬ ((vals L).length < 1 ∨ 8 < (vals L).length) by rw [hvl]; exact hb)
    have q1 : 1 ≤ L.length := by omega
    have q2 : L.length ≤ 8 := by omega
    have HVL := Lib.hid hvl
    clear hb hvl
    go_enter Tryd.func113, Tryd.ntmps113
    go_wp2
    go_loopw [18] (fun s18 wr => ∃ i : Nat, i ≤ L.length ∧ s18 = .int .i64 i ∧ w = wr ∧ Hid (∀ j, j < i → ∀ v ∈ nth (vals L) j, rightB (vals L).length j v = true)) (fun s _ => L.length - (intOf s).toNat)
    case atStart => exact ⟨0, by omega, rfl, rfl, Lib.hid (fun j hj => absurd hj (Nat.not_lt_zero _))⟩
    case round =>
      obtain ⟨i, hi, rfl, rfl, hJ⟩ := hrel
      by_cases hil : i < L.length
      · obtain ⟨g, o, rfl, hg, hc⟩ := Recs.pos HL.out.top Rw.cells_len (by omega) (by omega)
        have d := hc w rfl i 0 hil (by omega)
        have hmem := nth_mem L i hil
        have HM := Lib.hid (HL.out.mat _ hmem)
        have HC := Lib.hid (HL.out.cap _ hmem)
        have HV := Lib.hid (vals_nth L hil)
        have HY := Lib.hid (HL.out.many _ hmem)
        generalize nth L i = y at *
        obtain ⟨ya, yr, yc, yA, yC⟩ := y
        simp only [Rw.cells, List.getElem?_cons_zero, Nat.mul_one, Nat.add_zero] at d
        simp only at HM HC HV HY
        have hyl : yr.length ≤ 9223372036854775807 := HY.out
        clear hc hmem
        go_wp2
        go_loopw [25] (fun s25 wy => ∃ k : Nat, k ≤ yr.length ∧ s25 = .int .i64 k ∧ w = wy ∧ Hid (∀ j, j < k → rightB (vals L).length i (nth yr j) = true)) (fun s _ => yr.length - (intOf s).toNat)
        case atStart => exact ⟨0, by omega, rfl, rfl, Lib.hid (fun j hj => absurd hj (Nat.not_lt_zero _))⟩
        case round =>
          obtain ⟨k, hk, rfl, rfl, hK⟩ := hrel
          by_cases hkl : k < yr.length
          · obtain ⟨b, off, rfl, hb, hcell⟩ := HM.out.pos (by omega)
            have d2 := hcell w rfl k hkl
            have hri := right_any L.length i (nth yr k) (yA k) (yC k) w (HM.out.row k hkl) (HM.out.lens k hkl) (HC.out k hkl)
            have hmv : nth yr k ∈ nth (vals L) i := by rw [HV.out]; exact nth_mem yr k hkl
            obtain ⟨B, hB⟩ : ∃ B, B = rightB L.length i (nth yr k) := ⟨_, rfl⟩
            rw [← hB] at hri
            have HBB := Lib.hid hB
            have HMV := Lib.hid hmv
            clear hcell hB hmv
            go_wp2_with (fail)
            refine hri.mono ?_
            rintro e1 w1 ⟨rfl, rfl⟩
            clear hri
            cases B with
            | false =>
              have HF := Lib.hid (HX.out.trans (sppErr_3 HB.out (by rw [HVL.out]; exact hil) HMV.out (by rw [HVL.out]; exact HBB.out.symm)))
              go_wp2
              go_ret
              exact RetS.mk (x := errO (some 3)) (by rw [HF.out]) rfl rfl
            | true =>
              have hK' := Lib.hid (show ∀ j, j < k + 1 → rightB (vals L).length i (nth yr j) = true from fun j hj => by
                rcases Nat.lt_succ_iff_lt_or_eq.1 hj with h | h
                · exact hK.out j h
                · subst h; rw [HVL.out]; exact HBB.out.symm)
              clear hK
              go_wp2
              go_roundw
              case rel => exact ⟨k + 1, by omega, by go_num, by first | trivial | rfl, hK'⟩
              case measure => simp [intOf]; omega
          · obtain rfl : k = yr.length := by omega
            have hJ' := Lib.hid (show ∀ j, j < i + 1 → ∀ v ∈ nth (vals L) j, rightB (vals L).length j v = true from fun j hj => by
              rcases Nat.lt_succ_iff_lt_or_eq.1 hj with h | h
              · exact hJ.out j h
              · subst h
                rw [HV.out]
                intro v hv
                obtain ⟨q, hq, rfl⟩ := List.getElem_of_mem hv
                rw [← nth_eq yr q hq]
                exact hK.out q hq)
            clear hJ hK
            go_wp2
            go_roundw
            case rel => exact ⟨i + 1, by omega, by go_num, by first | trivial | rfl, hJ'⟩
            case measure => simp [intOf]; omega
      · obtain rfl : i = L.length := by omega
        have HF := Lib.hid (HX.out.trans (sppErr_0 HB.out (fun j hj => hJ.out j (by rw [HVL.out] at hj; exact hj))))
        go_wp2
        go_ret
        exact RetS.mk (x := errO none) (by rw [HF.out]) rfl rfl
end Go.Proofs.YtfjempfffdeklaaDoor
