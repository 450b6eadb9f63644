/- LineSame's walk: with poison or without all come to the same distances, at every number of nodes and every list of links. -/
import Derived.Test.YtfjempfffdeklaaDoorLineTwo
import Derived.Test.YtfjempfffdeklaaDoorIntsOwn
import Derived.Test.YtfjempfffdeklaaDoorSame
import Derived.Test.YtfjempfffdeklaaDoorTold
namespace Go.Proofs.YtfjempfffdeklaaDoor
open Go.RowKit

set_option maxRecDepth 100000 in
set_option maxHeartbeats 16000000 in
theorem lineSame_any (n : Int) (l : List Lk) (al : Option Addr) (c : Nat) (w : World) (hg : Hd w) (hNb : Nb w) (hL : Links w.heap al l) (hl : l.length * 24 ≤ 140737488351232) (hw : ∀ x ∈ l, (Lit.int .i64 x.a).wf = true ∧ (Lit.int .i64 x.b).wf = true ∧ (Lit.int .i64 x.c).wf = true) (hnil : al = none → l = []) :
    Calls Tryd.prog 8 #[.int .i64 n, .slice al l.length c] w (RetV w (.bool true)) := by
  have HNB := Lib.hid hNb
  have HGD := Lib.hid hg
  have HW := Lib.hid hw
  have HL := Lib.hid hL
  have HNIL := Lib.hid hnil
  have hc1 := lineNew_any 1 [] none 0 true w hNb (Rd.nil _ _ _) (by simp) (fun _ => rfl) (fun _ h => nomatch h)
  rw [graph1] at hc1
  clear hnil hw hNb hg hL
  go_enter Tryd.func8, Tryd.ntmps8
  go_wp2_with (fail)
  refine hc1.mono ?_
  intro e1 w1 R1
  obtain ⟨b1, T1, rfl, hA1, hF1, -⟩ := R1.okE rfl
  rw [show (1 : Int).toNat = 1 from rfl] at hA1
  have hc2 := lineNew_any n l al c true w1 (HNB.out.fr hF1 (fun h => h)) (HL.out.fr hF1 (fun _ _ _ h => h)) hl HNIL.out HW.out
  clear hc1 R1
  go_wp2_with (fail)
  refine hc2.mono ?_
  intro e2 w2 R2
  cases hg : graphErr n l with
  | some k =>
    obtain ⟨rfl, hF2⟩ := R2.errE hg
    have hF02 := hF1.trans hF2
    have hc3 := lineNew_any n l al c false w2 (HNB.out.fr hF02 (fun h => h)) (HL.out.fr hF02 (fun _ _ _ h => h)) hl HNIL.out HW.out
    have hA2 := hA1.fr0 hF2
    have HG := Lib.hid hg
    clear hc2 R2 hF2 hF1 hA1 hg
    go_wp2_with (fail)
    refine hc3.mono ?_
    intro e3 w3 R3
    obtain ⟨rfl, hF3⟩ := R3.errE HG.out
    have hF03 := hF02.trans hF3
    have hA3 := hA2.fr0 hF3
    have hc4 := told2_any (some k) (some k) w3 (HGD.out.none hF03)
    rw [show (errN (some k) == errN (some k)) = true by simp, show errT (some k) = errv k from rfl] at hc4
    clear hc3 R3 hF3 hF02 hA2
    go_wp2_with (fail)
    refine hc4.mono ?_
    rintro e4 w4 ⟨rfl, hF4⟩
    have hF04 := hF03.trans hF4
    have hc5 := still_any (HNB.out.fr hF04 (fun h => h)) (hA3.fr0 hF4) (fun _ h => nomatch h) still1
    clear hc4 hF4 hF03 hA3
    go_wp2_with (fail)
    refine hc5.mono ?_
    rintro e5 w5 ⟨rfl, hF5⟩
    have hF05 := hF04.trans hF5
    clear hc5 hF5 hF04
    go_wp2
    go_ret
    exact RetV.mk rfl rfl hF05
  | none =>
    obtain ⟨b2, T2, rfl, hA2, hF2, hT2⟩ := R2.okE hg
    have hN18 := hA2.n8
    obtain ⟨N, rfl⟩ : ∃ N : Nat, n = N := ⟨n.toNat, by omega⟩
    rw [Int.toNat_natCast] at hA2 hN18
    have hF02 := hF1.trans hF2
    have hc3 := lineNew_any N l al c false w2 (HNB.out.fr hF02 (fun h => h)) (HL.out.fr hF02 (fun _ _ _ h => h)) hl HNIL.out HW.out
    have hA12 := hA1.fr0 hF2
    have HG := Lib.hid hg
    have HCP := Lib.hid (costs_pos hg)
    have hs1 := hF1.size
    clear hc2 R2 hA1 hg
    go_wp2_with (fail)
    refine hc3.mono ?_
    intro e3 w3 R3
    obtain ⟨b3, T3, rfl, hA3, hF3, hT3⟩ := R3.okE HG.out
    rw [Int.toNat_natCast] at hA3
    have hF03 := hF02.trans hF3
    have hA13 := hA12.fr0 hF3
    have hL2 := hA2.lt
    have hs2 := hF2.size
    have hTW : TwoL w w3 b2 b3 N l true false startT startT T2 T3 := ⟨hA2.fr0 hF3, hA3, fun k h1 h2 => by have := hL2 k h1; have := hT3 k h2; omega, fun k hk => by have := hT2 k hk; omega, fun k hk => by have := hT3 k hk; omega, hF03⟩
    have hc4 := told2_any none none w3 (HGD.out.none hF03)
    rw [show (errN none == errN none) = true from rfl, show errT none = .nilIface from rfl] at hc4
    clear hc3 R3 hF3 hF02 hF2 hF1 hA2 hA3 hT2 hT3 hL2 hA12
    go_wp2_with (fail)
    refine hc4.mono ?_
    rintro e4 w4 ⟨rfl, hF4⟩
    have hTW4 := hTW.fr0 hF4
    have hc5 := still_any (HNB.out.fr hTW4.fr (fun h => h)) (hA13.fr0 hF4) (fun _ h => nomatch h) still1
    clear hc4 hF4 hF03 hTW hA13
    go_wp2_with (fail)
    refine hc5.mono ?_
    rintro e5 w5 ⟨rfl, hF5⟩
    have hTW5 := hTW4.fr0 hF5
    clear hc5 hF5 hTW4
    go_wp2
    go_loopw [12] (fun s12 wx => ∃ (k : Nat) (T1 T2 : Nat → Prop), k ≤ N ∧ s12 = .int .i64 k ∧ TwoL w wx b2 b3 N l true false (lineT (costF N l) true N k) (lineT (costF N l) false N k) T1 T2) (fun s _ => N - (intOf s).toNat)
    case atStart => exact ⟨0, _, _, by omega, rfl, hTW5⟩
    case round =>
      clear hTW5
      obtain ⟨k, T5, T6, hk, rfl, hTW⟩ := hrel
      by_cases hkl : k < N
      · have hc5 := lstep_any (HNB.out.fr hTW.fr (fun h => h)) hTW.s HW.out
        have HT := Lib.hid hTW
        clear hTW
        rw [show stepTh (costF N l) true N (lineT (costF N l) true N k) = lineT (costF N l) true N (k + 1) from rfl] at hc5
        go_wp2_with (fail)
        refine hc5.mono ?_
        intro e5 w5 P5
        obtain ⟨rfl, T7, hTW⟩ := HT.out.stepS P5
        have hc6 := lstep_any (HNB.out.fr hTW.fr (fun h => h)) hTW.t HW.out
        rw [show stepTh (costF N l) false N (lineT (costF N l) false N k) = lineT (costF N l) false N (k + 1) from rfl] at hc6
        have HT2 := Lib.hid hTW
        clear hTW hc5 P5 HT
        go_wp2_with (fail)
        refine hc6.mono ?_
        intro e6 w6 P6
        obtain ⟨rfl, T8, hTW⟩ := HT2.out.stepT P6
        clear hc6 P6 HT2
        go_wp2
        go_roundw
        case rel => exact ⟨k + 1, T7, T8, by omega, by go_num, hTW⟩
        case measure => simp [intOf]; omega
      · obtain rfl : k = N := by omega
        have hst := Lib.hid (fun (p : Bool) (i o : Nat) (hi : i < k) (ho : o < k) => LineT.still HCP.out p hi ho)
        have hfs := Lib.hid (fun (i : Nat) (hi : i < k) => farL_same HCP.out k hi)
        obtain ⟨R, hR⟩ : ∃ R, R = lineT (costF k l) true k k := ⟨_, rfl⟩
        obtain ⟨S, hS⟩ : ∃ S, S = lineT (costF k l) false k k := ⟨_, rfl⟩
        have HSR : Hid (∀ i o, i < k → o < k → stepTh (costF k l) true k R i o = R i o) := Lib.hid (by rw [hR]; exact hst.out true)
        have HSS : Hid (∀ i o, i < k → o < k → stepTh (costF k l) false k S i o = S i o) := Lib.hid (by rw [hS]; exact hst.out false)
        rw [← hR, ← hS] at hTW
        rw [← hR, ← hS] at hfs
        clear hR hS hst
        go_wp2
        go_loopw [13] (fun s13 wy => ∃ (j : Nat), j ≤ k ∧ s13 = .int .i64 j ∧ TwoL w wy b2 b3 k l true false R S T5 T6) (fun s _ => k - (intOf s).toNat)
        case atStart => exact ⟨0, by omega, rfl, hTW⟩
        case round =>
          clear hTW
          obtain ⟨j, hj, rfl, hTW⟩ := hrel
          by_cases hjl : j < k
          · have hc5 := lrow_any j hTW.s hjl
            have HT := Lib.hid hTW
            have hfe := hfs.out j hjl
            clear hTW
            go_wp2_with (fail)
            refine hc5.mono ?_
            rintro e5 w5 ⟨a5, c5, o5, rfl, hO5, hF5, -⟩
            have hTW5 := HT.out.fr0 hF5
            have hc6 := lrow_any j hTW5.t hjl
            have HT5 := Lib.hid hTW5
            rw [← hfe] at hc6
            clear hTW5 hc5 hF5 HT hfe
            go_wp2_with (fail)
            refine hc6.mono ?_
            rintro e6 w6 ⟨a6, c6, o6, rfl, hO6, hF6, -⟩
            have hO56 := hO5.fr hF6 (fun _ _ h => h)
            have hTW6 := HT5.out.fr0 hF6
            have hfl := farL_len R k j
            generalize farL R k j = fl at *
            have hc7 := ints_any' fl fl a5 a6 c5 c6 w6 (by show Rd _ _ _ _ _; rw [hfl]; exact hO56.rd) (by show Rd _ _ _ _ _; rw [hfl]; exact hO6.rd) (by omega) (by omega) hfl.symm hfl.symm
            rw [decide_eq_true rfl] at hc7
            clear hc6 hO5 hO56 hO6 hF6 HT5
            go_wp2_with (fail)
            refine hc7.mono ?_
            intro e8 w8 R8
            obtain ⟨rfl, hF8⟩ := R8.v
            have hTW8 := hTW6.fr0 hF8
            clear hc7 R8 hF8 hTW6
            go_wp2
            go_roundw
            case rel => exact ⟨j + 1, by omega, by go_num, hTW8⟩
            case measure => simp [intOf]; omega
          · obtain rfl : j = k := by omega
            have hc8 := still_any (HNB.out.fr hTW.fr (fun h => h)) hTW.s HW.out HSR.out
            have HT := Lib.hid hTW
            clear hTW
            go_wp2_with (fail)
            refine hc8.mono ?_
            rintro e8 w8 ⟨rfl, hF8⟩
            have hTW8 := HT.out.fr0 hF8
            have hc9 := still_any (HNB.out.fr hTW8.fr (fun h => h)) hTW8.t HW.out HSS.out
            clear hc8 hF8 HT
            go_wp2_with (fail)
            refine hc9.mono ?_
            rintro e9 w9 ⟨rfl, hF9⟩
            have hFe := hTW8.fr.trans hF9
            clear hc9 hF9 hTW8
            go_wp2
            go_ret
            exact RetV.mk rfl rfl hFe
end Go.Proofs.YtfjempfffdeklaaDoor
