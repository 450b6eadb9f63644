import Derived.Test.YtbmeeglehbaggaaLfiN
namespace Go.Proofs.Ytbmeeglehbaggaa
open Go.RowKit Go.Maps
section
variable {w : World} {Pd : Nat → Prop} {sb n c : Nat} {to : Int} {L : FL}

set_option maxRecDepth 100000 in
set_option maxHeartbeats 1000000 in
theorem one_any (a : Int) (h : LN w Pd sb n to c L) :
    Calls Try.prog 48 #[.pointer (some ⟨sb, 0, none⟩), .int .i64 a] w (RetV w (errO (lone n a))) := by
  obtain ⟨-, -, c2, -⟩ := h.cells
  have hn := h.n8
  by_cases g1 : a < 0 ∨ (n : Int) ≤ a
  · have hX : Hid (lone n a = some 1) := (if_pos g1 : lone n a = some 1)
    have q : (decide (a < 0) = true) ∨ (decide (a < 0) = false ∧ decide (a ≥ (n : Int)) = true) := by
      simp only [decide_eq_true_iff, decide_eq_false_iff_not]; omega
    clear g1 h
    rw [hX.out]
    rcases q with e1 | ⟨e1, e2⟩
    all_goals
      go_enter Try.func48, Try.ntmps48
      go_wp2
      go_ret
      exact RetV.mk rfl rfl (Fr.refl _ _)
  · have hX : Hid (lone n a = none) := (if_neg g1 : lone n a = none)
    have e1 : decide (a < 0) = false := by simp; omega
    have e2 : decide (a ≥ (n : Int)) = false := by simp; omega
    clear g1 h
    rw [hX.out]
    go_enter Try.func48, Try.ntmps48
    go_wp2
    go_ret
    exact RetV.mk rfl rfl (Fr.refl _ _)

set_option maxRecDepth 100000 in
set_option maxHeartbeats 2000000 in
theorem lnear_any (a b : Int) (h : LN w Pd sb n to c L) :
    Calls Try.prog 46 #[.pointer (some ⟨sb, 0, none⟩), .int .i64 a, .int .i64 b] w (RetV w (errO (lnear w L n a b))) := by
  have hn := h.n8
  obtain ⟨v, hv⟩ : ∃ v, v = lnear w L n a b := ⟨_, rfl⟩
  rw [← hv]
  have HV := Lib.hid hv
  have HL := Lib.hid h
  have HN := Lib.hid hn
  clear hv h hn
  go_enter Try.func46, Try.ntmps46
  go_wp2_with (fail)
  refine (one_any a HL.out).mono ?_
  rintro e1 w1 ⟨rfl, hF⟩
  by_cases g1 : a < 0 ∨ (n : Int) ≤ a
  · have hX := Lib.hid (HV.out.trans (if_pos (.inl g1)))
    rw [show lone n a = some 1 from if_pos g1, show errO (some 1) = errv 1 from rfl]
    have HF := Lib.hid hF
    clear hF g1
    go_wp2
    go_ret
    exact RetV.mk (x := errO (some 1)) (congrArg errO hX.out.symm) rfl HF.out
  rw [show lone n a = none from if_neg g1, show errO none = .nilIface from rfl]
  have HG1 := Lib.hid g1
  have h1 := HL.out.fr0 hF
  have HF := Lib.hid hF
  have H1 := Lib.hid h1
  clear hF g1 h1
  go_wp2_with (fail)
  refine (one_any b H1.out).mono ?_
  rintro e1 w2 ⟨rfl, hF2⟩
  have hF2 := HF.out.trans hF2
  by_cases g2 : b < 0 ∨ (n : Int) ≤ b
  · have hX := Lib.hid (HV.out.trans (if_pos (.inr g2)))
    rw [show lone n b = some 1 from if_pos g2, show errO (some 1) = errv 1 from rfl]
    have HF2 := Lib.hid hF2
    clear hF2 g2
    go_wp2
    go_ret
    exact RetV.mk (x := errO (some 1)) (congrArg errO hX.out.symm) rfl HF2.out
  rw [show lone n b = none from if_neg g2, show errO none = .nilIface from rfl]
  have g1 := HG1.out
  have hn := HN.out
  obtain ⟨i, rfl⟩ := Int.eq_ofNat_of_zero_le (show 0 ≤ a by omega)
  obtain ⟨k, rfl⟩ := Int.eq_ofNat_of_zero_le (show 0 ≤ b by omega)
  have hi : i < n := by omega
  have hk : k < n := by omega
  have h2 := HL.out.fr0 hF2
  obtain ⟨-, c1, -, -⟩ := h2.cells
  obtain ⟨d1, d2', -⟩ := h2.rowC hi
  have d2 := d2' k hk
  clear d2'
  have hE : v = if (i : Int) = k ∨ iv w2 (L.cr i) k = 16 then some 2 else none := by
    rw [HV.out]
    obtain ⟨-, -, -, -, l5⟩ := HL.out.lts
    unfold lnear
    rw [if_neg (by omega), Int.toNat_natCast, Int.toNat_natCast, iv_fr hF2 (l5 i hi).1 (fun h => h)]
  have HF2 := Lib.hid hF2
  clear hF2 h2 g1 g2
  generalize iv w2 (L.cr i) k = x at *
  by_cases g2 : (i : Int) = k ∨ x = 16
  · have hX := Lib.hid (hE.trans (if_pos g2))
    have q : (((i : Int) == k) = true) ∨ (((i : Int) == k) = false ∧ (x == 16) = true) := by
      by_cases h1 : (i : Int) = k
      · exact .inl (by simpa using h1)
      · exact .inr ⟨by simpa using h1, by simpa using g2.resolve_left h1⟩
    clear g2 hE
    rcases q with e3 | ⟨e3, e4⟩
    all_goals
      go_wp2
      go_ret
      exact RetV.mk (x := errO (some 2)) (congrArg errO hX.out.symm) rfl HF2.out
  · have hX := Lib.hid (hE.trans (if_neg g2))
    have e3 : ((i : Int) == k) = false := by have : ¬ (i : Int) = k := fun e => g2 (.inl e); simpa using this
    have e4 : (x == 16) = false := by have : ¬ x = 16 := fun e => g2 (.inr e); simpa using this
    clear g2 hE
    go_wp2
    go_ret
    exact RetV.mk (x := errO none) (congrArg errO hX.out.symm) rfl HF2.out

set_option maxRecDepth 100000 in
set_option maxHeartbeats 1000000 in
theorem ldist_any (i : Nat) (hi : i < n) (h : LN w Pd sb n to c L) :
    Calls Try.prog 26 #[.pointer (some ⟨sb, 0, none⟩), .int .i64 i] w (RetV w (.tuple #[.int .i64 (iv w (L.nd i) 0), .nilIface])) := by
  have hn := h.n8
  have HL := Lib.hid h
  go_enter Try.func26, Try.ntmps26
  go_wp2_with (fail)
  refine (one_any i HL.out).mono ?_
  rintro e1 w1 ⟨rfl, hF⟩
  rw [show lone n i = none from if_neg (by omega), show errO none = .nilIface from rfl]
  have h1 := HL.out.fr0 hF
  obtain ⟨-, -, c2, -⟩ := h1.cells
  obtain ⟨d0, d1, -⟩ := h1.rowN hi
  obtain ⟨-, -, -, -, l5⟩ := HL.out.lts
  rw [iv_fr hF (l5 i hi).2.1 (fun h => h)] at d1
  have HF := Lib.hid hF
  clear hF h1 l5
  go_wp2
  go_ret2
  exact ⟨rfl, HF.out⟩

set_option maxRecDepth 100000 in
set_option maxHeartbeats 4000000 in
theorem lnexts_any (i : Nat) (hi : i < n) (h : LN w Pd sb n to c L) :
    Calls Try.prog 49 #[.pointer (some ⟨sb, 0, none⟩), .int .i64 i] w (RetNew w 3 1 (nextsE w L n to i n).length (ivals .i64 (nextsE w L n to i n)) (fun v => v)) := by
  have hn := h.n8
  obtain ⟨c0, c1, c2, -⟩ := h.cells
  obtain ⟨d0, d1, d2, d3, -, d5, -⟩ := h.rowN hi
  have HL := Lib.hid h
  have HD := Lib.hid d5
  clear h d5 d1 c1
  go_enter Try.func49, Try.ntmps49
  go_wp2
  go_loopw [19, 5] (fun s19 s5 wr => ∃ (k : Nat) (ao : Option Addr) (m co : Nat) (ob : Option Nat) (xs : List Value), k ≤ n ∧ s19 = .int .i64 k ∧ s5 = .slice ao m co ∧ m ≤ k ∧ Hid (m = (nextsE w L n to i k).length ∧ xs = ivals .i64 (nextsE w L n to i k)) ∧ Ownd wr.heap 3 1 ao m co xs ob ∧ (∀ g, ob = some g → w.heap.size ≤ g) ∧ Fr (fun _ => False) w wr) (fun s _ _ => n - (intOf s).toNat)
  case atStart => exact ⟨0, none, 0, 0, none, [], by omega, rfl, rfl, by omega, Lib.hid ⟨rfl, rfl⟩, Ownd.nil _ _ _, (fun g h => nomatch h), Fr.refl _ _⟩
  case round =>
    obtain ⟨k, ao, m, co, ob, xs, hk, rfl, rfl, hmk, HX, hO, hN, hF⟩ := hrel
    have hLr := HL.out.fr0 hF
    obtain ⟨c0, -, c2, -⟩ := hLr.cells
    obtain ⟨d0, -, d2, d3, -, d5, -⟩ := hLr.rowN hi
    obtain ⟨-, -, -, -, l5⟩ := HL.out.lts
    by_cases hkn : k < n
    · have e5 := d5 k hkn
      have hne := nextsE_succ w L n to i k
      have hp : nxP w L n to i k = ((decide ((i : Int) ≠ to) && (lnear w L n i k).isNone) && decide (iv wr (L.hr i) k < iv wr (L.nd i) 1)) := by
        unfold nxP
        rw [iv_fr hF (l5 i hi).2.2 (fun h => h), iv_fr hF (l5 i hi).2.1 (fun h => h)]
      have HNE := Lib.hid hne
      have HP := Lib.hid hp
      have HLR := Lib.hid hLr
      have HF := Lib.hid hF
      have HO := Lib.hid hO
      have HNW := Lib.hid hN
      have HD5 := Lib.hid d5
      generalize hxv : iv wr (L.hr i) k = x at *
      generalize hyv : iv wr (L.nd i) 1 = y at *
      have HXV := Lib.hid hxv
      have HYV := Lib.hid hyv
      clear hne hp hLr hF hO hN d5 l5 hxv hyv
      by_cases g1 : (i : Int) = to
      · have e1 : ((i : Int) == to) = true := by simpa using g1
        have e1' : ((i : Int) != to) = false := by simpa using g1
        have HR := Lib.hid (show nxP w L n to i k = false by rw [HP.out]; simp [g1])
        clear g1
        go_wp2
        refine ⟨⟨k + 1, ao, m, co, ob, xs, by omega, rfl, rfl, by omega, ?_, HO.out, HNW.out, HF.out⟩, by simp [intOf]; omega⟩
        rw [HNE.out, HR.out]
        exact Lib.hid ⟨by simpa using HX.out.1, by simpa using HX.out.2⟩
      · have e1 : ((i : Int) == to) = false := by simpa using g1
        have e1' : ((i : Int) != to) = true := by simpa using g1
        have HG1 := Lib.hid g1
        clear g1
        go_wp2_with (fail)
        refine (lnear_any (i : Int) (k : Int) HLR.out).mono ?_
        rintro e2 w2 ⟨rfl, hF2⟩
        have hnr : lnear wr L n i k = lnear w L n i k := by
          obtain ⟨-, -, -, -, l5⟩ := HL.out.lts
          unfold lnear
          rw [Int.toNat_natCast, Int.toNat_natCast, iv_fr HF.out (l5 i hi).1 (fun h => h)]
        have hO2 := HO.out.fr hF2 (fun _ _ h => h)
        have hF3 := HF.out.trans hF2
        have hLr2 := HLR.out.fr0 hF2
        obtain ⟨c0, -, c2, -⟩ := hLr2.cells
        obtain ⟨d0, -, d2, d3, -, d5, -⟩ := hLr2.rowN hi
        obtain ⟨-, -, -, -, l5⟩ := HLR.out.lts
        rw [iv_fr hF2 (l5 i hi).2.1 (fun h => h), HYV.out] at d2
        rw [hnr]
        have HO2 := Lib.hid hO2
        have HF3 := Lib.hid hF3
        clear hF2 hO2 hF3 hLr2 d5 l5 hnr
        cases hq : lnear w L n i k with
        | some z =>
          have HR := Lib.hid (show nxP w L n to i k = false by rw [HP.out, hq]; simp)
          rw [show errO (some z) = errv z from rfl]
          clear hq
          go_wp2
          refine ⟨⟨k + 1, ao, m, co, ob, xs, by omega, rfl, rfl, by omega, ?_, HO2.out, HNW.out, HF3.out⟩, by simp [intOf]; omega⟩
          rw [HNE.out, HR.out]
          exact Lib.hid ⟨by simpa using HX.out.1, by simpa using HX.out.2⟩
        | none =>
          rw [show errO none = .nilIface from rfl]
          by_cases g3 : x < y
          · have e3 : decide (x < y) = true := by simpa using g3
            have HR := Lib.hid (show nxP w L n to i k = true by rw [HP.out, hq]; simpa [g3] using HG1.out)
            clear hq g3
            have hO2 := HO2.out
            have hrd := (Ownd.made w2 3 1 1 [.int .i64 (k : Int)] rfl (by decide)).rd
            go_wp2_with (at_builtin; refine wpList_app rfl _ _ 22 rfl Try.underlying22 infoInt rfl (by decide) rfl rfl (hO2.alloc _) hrd (ivals_one .i64 [(k : Int)]) (by omega) (by omega) ?_)
            intro a' c' w' ob' q1 q2 q3
            have hF4 := Fr.app (HF3.out.alloc _) q2 HNW.out
            have HQ1 := Lib.hid q1
            have HQ3 := Lib.hid q3
            have HF4 := Lib.hid hF4
            clear q1 q2 q3 hF4 hO2 hrd
            go_wp2
            refine ⟨⟨k + 1, a', m + 1, c', ob', _, by omega, rfl, rfl, by omega, ?_, HQ1.out, ?_, HF4.out⟩, by simp [intOf]; omega⟩
            · rw [HNE.out, HR.out]
              exact Lib.hid ⟨by have := HX.out.1; simp [this], by rw [HX.out.2]; simp [ivals]⟩
            · have h8 := HF3.out.size
              exact app_new HNW.out HQ3.out (by first | omega | (simp; omega))
          · have e3 : decide (x < y) = false := by simpa using g3
            have HR := Lib.hid (show nxP w L n to i k = false by rw [HP.out, hq]; simp [g3])
            clear hq g3
            go_wp2
            refine ⟨⟨k + 1, ao, m, co, ob, xs, by omega, rfl, rfl, by omega, ?_, HO2.out, HNW.out, HF3.out⟩, by simp [intOf]; omega⟩
            rw [HNE.out, HR.out]
            exact Lib.hid ⟨by simpa using HX.out.1, by simpa using HX.out.2⟩
    · obtain rfl : k = n := by omega
      have HF := Lib.hid hF
      have HO := Lib.hid hO
      clear hLr hF hO d5 l5
      go_wp2
      go_ret
      obtain ⟨rfl, rfl⟩ := HX.out
      exact ⟨ao, co, ob, rfl, HO.out, HF.out, hN⟩

set_option maxRecDepth 100000 in
set_option maxHeartbeats 1000000 in
theorem lNexts_any (i : Nat) (hi : i < n) (h : LN w Pd sb n to c L) :
    Calls Try.prog 23 #[.pointer (some ⟨sb, 0, none⟩), .int .i64 i] w (RetNew w 3 1 (nextsE w L n to i n).length (ivals .i64 (nextsE w L n to i n)) (fun v => .tuple #[v, .nilIface])) := by
  have hn := h.n8
  have HL := Lib.hid h
  clear h
  go_enter Try.func23, Try.ntmps23
  go_wp2_with (fail)
  refine (one_any i HL.out).mono ?_
  rintro e1 w1 ⟨rfl, hF⟩
  rw [show lone n i = none from if_neg (by omega), show errO none = .nilIface from rfl]
  have HF := Lib.hid hF
  have HL1 := Lib.hid (HL.out.fr0 hF)
  have hX := Lib.hid (nextsE_fr HL.out hF hi)
  clear hF
  go_wp2_with (fail)
  refine (lnexts_any i hi HL1.out).mono ?_
  rintro e2 w2 ⟨a, c', ob, rfl, hO, hF2, hN⟩
  rw [hX.out] at hO ⊢
  have HO := Lib.hid hO
  have HF2 := Lib.hid hF2
  have HN := Lib.hid hN
  clear hO hF2 hN
  go_wp2
  go_ret2
  have h8 := HF.out.size
  exact ⟨a, c', ob, rfl, HO.out, HF.out.trans HF2.out, fun g hg => Nat.le_trans h8 (HN.out g hg)⟩
end
end Go.Proofs.Ytbmeeglehbaggaa
