import Derived.Test.YtbmeeglehbaggaaLfiNew
import Derived.Test.YtbmeeglehbaggaaIntsOwn
import Derived.Test.YtbmeeglehbaggaaSame
namespace Go.Proofs.Ytbmeeglehbaggaa
open Go.RowKit Go.Maps

/-- The state of the law: s where it may write, t untouched. -/
structure LSt (w : World) (z0 z1 z2 sS sT N : Nat) (to : Int) (Ls Lt : FL) (wr : World) (c : Nat) : Prop where
  s : LN wr (fun k => (z0 ≤ k ∧ k < z1) ∨ z2 ≤ k) sS N to c Ls
  t : LN wr (fun k => z1 ≤ k ∧ k < z2) sT N to 0 Lt
  far : FarOf wr Lt N to
  fr : Fr (fun _ => False) w wr
  z : z2 ≤ wr.heap.size
theorem LSt.step {w : World} {z0 z1 z2 sS sT N : Nat} {to : Int} {Ls Lt : FL} {wr w' : World} {c c' : Nat} (h : LSt w z0 z1 z2 sS sT N to Ls Lt wr c) (hz0 : w.heap.size ≤ z0) (hz : z0 ≤ z1 ∧ z1 ≤ z2)
    (hs : LN w' (fun k => (z0 ≤ k ∧ k < z1) ∨ z2 ≤ k) sS N to c' Ls) (F : Fr (fun k => (z0 ≤ k ∧ k < z1) ∨ z2 ≤ k) wr w') : LSt w z0 z1 z2 sS sT N to Ls Lt w' c' := by
  refine ⟨hs, h.t.frP F (fun k _ h1 h2 => by omega), fun i hi => ?_, h.fr.trans' F (fun k hk h1 => by omega), Nat.le_trans h.z F.size⟩
  have h1 := (h.t.pd.2.2.2.2 i hi).2.1
  rw [iv_fr F (h.t.lts.2.2.2.2 i hi).2.1 (fun h2 => by omega)]
  exact h.far i hi
theorem LSt.fr0 {w : World} {z0 z1 z2 sS sT N : Nat} {to : Int} {Ls Lt : FL} {wr w' : World} {c : Nat} (h : LSt w z0 z1 z2 sS sT N to Ls Lt wr c) (F : Fr (fun _ => False) wr w') : LSt w z0 z1 z2 sS sT N to Ls Lt w' c :=
  ⟨h.s.fr0 F, h.t.fr0 F, fun i hi => by rw [iv_fr F (h.t.lts.2.2.2.2 i hi).2.1 (fun h => h)]; exact h.far i hi, h.fr.trans F, Nat.le_trans h.z F.size⟩

set_option maxRecDepth 100000 in
set_option maxHeartbeats 4000000 in
theorem lfiOwn_any (n : Int) (l : List Lk) (to : Int) (la lb : List Int) (x : Int) (al aA aB : Option Addr) (cl cA cB : Nat) (w : World) (hL : Links w.heap al l) (hl : l.length ≤ 9223372036854775807) (hw : ∀ x ∈ l, (Lit.int .i64 x.a).wf = true ∧ (Lit.int .i64 x.b).wf = true ∧ (Lit.int .i64 x.c).wf = true)
    (hA : Ints w.heap aA la) (hB : Ints w.heap aB lb) (hla : la.length < 9223372036854775807) :
    Calls Try.prog 5 #[.int .i64 n, .slice al l.length cl, .int .i64 to, .slice aA la.length cA, .slice aB lb.length cB, .int .i64 x] w (RetV w (.bool true)) := by
  have HL := Lib.hid hL
  have HA := Lib.hid hA
  have HB := Lib.hid hB
  have HNEW := Lib.hid (fun W (h : Links W.heap al l) => lnew_any n l al cl to W h hl hw)
  have HFACT := Lib.hid (fun W => (show Calls Try.prog 19 #[.int .i64 1, .slice none 0 0, .int .i64 0] W (LNewPost W 1 0 none) from lnew_any 1 [] none 0 0 W (Rd.nil _ _ _) (by decide) (fun x hx => absurd hx List.not_mem_nil)))
  obtain ⟨ll, hll⟩ : ∃ ll, ll = l.length := ⟨_, rfl⟩
  rw [← hll] at HNEW ⊢
  clear hL hA hB hll hl hw
  cases hE : lnewE n l to with
  | some e =>
    rw [hE] at HNEW
    clear hE
    go_enter Try.func5, Try.ntmps5
    go_wp2_with (fail)
    refine (HNEW.out w HL.out).mono ?_
    rintro e1 w1 ⟨rfl, k1⟩
    have HK1 := Lib.hid k1
    clear k1
    go_wp2_with (fail)
    refine (HNEW.out w1 (HL.out.fr HK1.out (fun _ _ _ h => h))).mono ?_
    rintro e2 w2 ⟨rfl, k2⟩
    have HK2 := Lib.hid (HK1.out.trans k2)
    clear k2
    go_wp2_with (fail)
    refine (HFACT.out w2).mono ?_
    rintro e3 w3 ⟨N3, s3, L3, -, rfl, -, -, k3⟩
    have HK3 := Lib.hid (HK2.out.trans k3)
    clear k3
    go_wp2
    (refine wp_region_mix (fun _ => True) 11 (by kernel_rfl) (by kernel_rfl) (trivial) ?_; simp only [List.take_succ_cons, List.take_zero, List.drop_succ_cons, List.drop_zero])
    (refine wpMix_earlyN 11 (by kernel_rfl) (by kernel_rfl) ?_; simp only [List.take_succ_cons, List.take_zero, List.drop_succ_cons, List.drop_zero]; (repeat (go_big_quiet_step (fail))); refine wpQuiet_nil ?_)
    refine wpMix_nil ?_
    go_wp2
    go_ret
    exact RetV.mk rfl rfl HK3.out.drew
  | none =>
    rw [hE] at HNEW
    clear hE
    go_enter Try.func5, Try.ntmps5
    go_wp2_with (fail)
    refine (HNEW.out w HL.out).mono ?_
    rintro e1 w1 ⟨N, sS, Ls, rfl, rfl, k1, -, f1⟩
    have HK1 := Lib.hid k1
    have HF1 := Lib.hid f1
    clear k1 f1
    go_wp2_with (fail)
    refine (HNEW.out w1 (HL.out.fr HF1.out (fun _ _ _ h => h))).mono ?_
    rintro e2 w2 ⟨N', sT, Lt, hNN, rfl, k2, g2, f2⟩
    obtain rfl : N = N' := by omega
    have hz1 := HF1.out.size
    have hz2 := f2.size
    have hS0 : LSt w w.heap.size w1.heap.size w2.heap.size sS sT N to Ls Lt w2 0 := ⟨(HK1.out.mono (fun k hk h => Or.inl ⟨h, hk⟩) (Nat.le_refl 0)).fr0 f2, k2.mono (fun k hk h => ⟨h, hk⟩) (Nat.le_refl 0), g2, HF1.out.trans f2, Nat.le_refl _⟩
    have HS0 := Lib.hid hS0
    clear k2 g2 f2 hS0 hNN
    go_wp2_with (fail)
    refine (HFACT.out w2).mono ?_
    rintro e3 w3 ⟨N3, s3, L3, -, rfl, -, -, k3⟩
    have HS1 := Lib.hid ((HS0.out.fr0 k3).fr0 (Fr.refl _ _).drew)
    clear k3
    go_wp2
    (refine wp_region_mix (fun _ => True) 11 (by kernel_rfl) (by kernel_rfl) (trivial) ?_; simp only [List.take_succ_cons, List.take_zero, List.drop_succ_cons, List.drop_zero])
    (refine wpMix_earlyN 11 (by kernel_rfl) (by kernel_rfl) ?_; simp only [List.take_succ_cons, List.take_zero, List.drop_succ_cons, List.drop_zero]; (repeat (go_big_quiet_step (fail))); refine wpQuiet_nil ?_)
    refine wpMix_nil ?_
    go_wp2
    go_loopw [19] (fun s19 wr => ∃ k : Nat, k ≤ la.length ∧ s19 = .int .i64 k ∧ Hid (LSt w w.heap.size w1.heap.size w2.heap.size sS sT N to Ls Lt wr k)) (fun s _ => la.length - (intOf s).toNat)
    case atStart => exact ⟨0, by omega, rfl, HS1⟩
    case round =>
      obtain ⟨k, hk, rfl, HS⟩ := hrel
      by_cases hkA : k < la.length
      · have e1 : decide ((k : Int) < (la.length : Int)) = true := by simp; omega
        by_cases hkB : k < lb.length
        · have e2 : decide ((k : Int) < (lb.length : Int)) = true := by simp; omega
          obtain ⟨bA, oA, rfl, hbA, hcA'⟩ := Ints.pos HA.out (by omega)
          obtain ⟨bB, oB, rfl, hbB, hcB'⟩ := Ints.pos HB.out (by omega)
          have hcA : Hid (∀ W, Fr (fun _ => False) w W → W.cell? ⟨bA, oA + k, none⟩ = some (.int .i64 (nth la k))) := Lib.hid (fun W F => (F.cell (p := ⟨bA, oA + k, none⟩) hbA (fun h => h)).trans (hcA' w rfl k hkA))
          have hcB : Hid (∀ W, Fr (fun _ => False) w W → W.cell? ⟨bB, oB + k, none⟩ = some (.int .i64 (nth lb k))) := Lib.hid (fun W F => (F.cell (p := ⟨bB, oB + k, none⟩) hbB (fun h => h)).trans (hcB' w rfl k hkB))
          generalize nth la k = ka at *
          generalize nth lb k = kb at *
          clear hcA' hcB'
          have dA := hcA.out _ HS.out.fr
          have dB := hcB.out _ HS.out.fr
          have HSd := Lib.hid (HS.out.fr0 (Fr.refl _ _).drew)
          have hmx : maxLen = 9223372036854775807 := rfl
          go_wp2
          (refine wp_region_mix (fun _ => True) 9 (by kernel_rfl) (by kernel_rfl) (trivial) ?_; simp only [List.take_succ_cons, List.take_zero, List.drop_succ_cons, List.drop_zero])
          (refine wpMix_earlyN 9 (by kernel_rfl) (by kernel_rfl) ?_; simp only [List.take_succ_cons, List.take_zero, List.drop_succ_cons, List.drop_zero]; (repeat (go_big_quiet_step (fail))); refine wpQuiet_nil ?_)
          refine wpMix_nil ?_
          go_wp2_with (fail)
          refine (lsend_any ka kb HSd.out.s (fun j hj => Or.inr (Nat.le_trans HSd.out.z hj)) (by omega)).mono ?_
          rintro e4 w4 ⟨v4, rfl, h4, f4⟩
          have HS4 := Lib.hid (HSd.out.step (Nat.le_refl _) ⟨hz1, hz2⟩ h4 f4)
          clear h4 f4 dA dB
          have dA := hcA.out _ HS4.out.fr
          have dB := hcB.out _ HS4.out.fr
          have HS4d := Lib.hid (HS4.out.fr0 (Fr.refl _ _).drew)
          go_wp2
          (refine wp_region_mix (fun _ => True) 9 (by kernel_rfl) (by kernel_rfl) (trivial) ?_; simp only [List.take_succ_cons, List.take_zero, List.drop_succ_cons, List.drop_zero])
          (refine wpMix_earlyN 9 (by kernel_rfl) (by kernel_rfl) ?_; simp only [List.take_succ_cons, List.take_zero, List.drop_succ_cons, List.drop_zero]; (repeat (go_big_quiet_step (fail))); refine wpQuiet_nil ?_)
          refine wpMix_nil ?_
          go_wp2_with (fail)
          refine (ltake_any ka kb HS4d.out.s (by omega)).mono ?_
          rintro e5 w5 ⟨v5, rfl, h5, f5⟩
          have HS5 := Lib.hid (HS4d.out.step (Nat.le_refl _) ⟨hz1, hz2⟩ h5 f5)
          clear h5 f5 dA dB
          have dA := hcA.out _ HS5.out.fr
          have dB := hcB.out _ HS5.out.fr
          have HS5d := Lib.hid (HS5.out.fr0 (Fr.refl _ _).drew)
          go_wp2
          (refine wp_region_mix (fun _ => True) 12 (by kernel_rfl) (by kernel_rfl) (trivial) ?_; simp only [List.take_succ_cons, List.take_zero, List.drop_succ_cons, List.drop_zero])
          (refine wpMix_earlyN 12 (by kernel_rfl) (by kernel_rfl) ?_; simp only [List.take_succ_cons, List.take_zero, List.drop_succ_cons, List.drop_zero]; (repeat (go_big_quiet_step (fail))); refine wpQuiet_nil ?_)
          refine wpMix_nil ?_
          go_wp2_with (fail)
          refine (lcost_any ka kb _ HS5d.out.s).mono ?_
          rintro e6 w6 ⟨v6, rfl, h6, f6⟩
          have HS6 := Lib.hid (HS5d.out.step (Nat.le_refl _) ⟨hz1, hz2⟩ h6 f6)
          clear h6 f6 dA dB
          go_wp2
          go_loopw [20] (fun s20 wx => ∃ i : Nat, i ≤ N ∧ s20 = .int .i64 i ∧ Hid (LSt w w.heap.size w1.heap.size w2.heap.size sS sT N to Ls Lt wx (k + 1))) (fun s _ => N - (intOf s).toNat)
          case atStart => exact ⟨0, by omega, rfl, HS6⟩
          case round =>
            clear HS HSd HS4 HS4d HS5 HS5d HS6
            obtain ⟨i, hi, rfl, HX⟩ := hrel
            by_cases hiN : i < N
            · have e3 : decide ((i : Int) < (N : Int)) = true := by simp; omega
              have hn8 := HX.out.s.n8
              go_wp2_with (fail)
              refine (lNexts_any i hiN HX.out.s).mono ?_
              rintro e7 w7 ⟨a7, c7, ob7, rfl, hO7, f7, hN7⟩
              have hnx := Lib.hid (fun W (F : Fr (fun _ => False) wr W) => nextsE_fr HX.out.s F hiN)
              have hl8 := nextsE_len (w := wr) (L := Ls) (n := N) (to := to) (i := i) (m := N)
              generalize nextsE wr Ls N to i N = ls at *
              have HO7 := Lib.hid hO7
              have HF7 := Lib.hid f7
              have HN7 := Lib.hid hN7
              clear hO7 f7 hN7
              go_wp2_with (fail)
              refine (intsCopy_any ls a7 c7 w7 HO7.out.rd rfl (by omega)).mono ?_
              rintro e8 w8 ⟨a8, c8, ob8, rfl, hO8, f8, hN8⟩
              simp only [id]
              have HO8 := Lib.hid hO8
              have HF8 := Lib.hid f8
              have HN8 := Lib.hid hN8
              clear hO8 f8 hN8
              go_wp2_with (fail)
              refine (intsSpoil_any ob7 a7 c7 ls x w8 rfl (HO7.out.fr HF8.out (fun _ _ h => h))).mono ?_
              rintro e9 w9 ⟨rfl, f9⟩
              have k9 := Fr.app (HF7.out.trans HF8.out) f9 HN7.out
              have h9 := hnx.out w9 k9
              have HX9 := Lib.hid (HX.out.fr0 k9)
              have HO9 := Lib.hid (HO8.out.fr f9 (fun g hg h => by have := HO7.out.lt g h; have := HN8.out g hg; omega))
              clear k9 f9
              go_wp2_with (fail)
              refine (lNexts_any i hiN HX9.out.s).mono ?_
              rintro e10 w10 ⟨a10, c10, ob10, rfl, hO10, f10, -⟩
              rw [h9] at hO10 ⊢
              have HX10 := Lib.hid (HX9.out.fr0 f10)
              have HO10 := Lib.hid hO10
              have HO11 := Lib.hid (HO9.out.fr f10 (fun _ _ h => h))
              clear hO10 f10 h9
              by_cases hto : (i : Int) = to
              · have e4 : ((i : Int) == to) = true := by simpa using hto
                have hfar := (HX10.out.far i hiN).trans (if_pos hto)
                have HFAR := Lib.hid hfar
                clear hto hfar
                go_wp2_with (fail)
                refine (ldist_any i hiN HX10.out.t).mono ?_
                rintro e11 w11 ⟨rfl, f11⟩
                rw [HFAR.out]
                have HX11 := Lib.hid (HX10.out.fr0 f11)
                have HO12 := Lib.hid (HO10.out.fr f11 (fun _ _ h => h))
                have HO13 := Lib.hid (HO11.out.fr f11 (fun _ _ h => h))
                clear f11
                go_wp2_with (fail)
                refine (ints_any' ls ls a10 a8 c10 c8 w11 HO12.out.rd HO13.out.rd (by omega) (by omega) rfl rfl).mono ?_
                rintro e12 w12 ⟨rfl, m12, rfl⟩
                rw [decide_eq_true (rfl : ls = ls)]
                have HX12 := Lib.hid (HX11.out.fr0 ((Fr.refl _ w11).drewN m12))
                go_wp2
                go_roundw
                case rel => exact ⟨i + 1, by omega, by go_num, HX12⟩
                case measure => simp [intOf]; omega
              · have e4 : ((i : Int) == to) = false := by simpa using hto
                have hfar := (HX10.out.far i hiN).trans (if_neg hto)
                have HFAR := Lib.hid hfar
                clear hto hfar
                go_wp2_with (fail)
                refine (ldist_any i hiN HX10.out.t).mono ?_
                rintro e11 w11 ⟨rfl, f11⟩
                rw [HFAR.out]
                have HX11 := Lib.hid (HX10.out.fr0 f11)
                have HO12 := Lib.hid (HO10.out.fr f11 (fun _ _ h => h))
                have HO13 := Lib.hid (HO11.out.fr f11 (fun _ _ h => h))
                clear f11
                go_wp2_with (fail)
                refine (ints_any' ls ls a10 a8 c10 c8 w11 HO12.out.rd HO13.out.rd (by omega) (by omega) rfl rfl).mono ?_
                rintro e12 w12 ⟨rfl, m12, rfl⟩
                rw [decide_eq_true (rfl : ls = ls)]
                have HX12 := Lib.hid (HX11.out.fr0 ((Fr.refl _ w11).drewN m12))
                go_wp2
                go_roundw
                case rel => exact ⟨i + 1, by omega, by go_num, HX12⟩
                case measure => simp [intOf]; omega
            · have e3 : decide ((i : Int) < (N : Int)) = false := by simp; omega
              go_wp2
              go_roundw
              case rel => exact ⟨k + 1, by omega, by go_num, HX⟩
              case measure => simp [intOf]; omega
        · have e2 : decide ((k : Int) < (lb.length : Int)) = false := by simp; omega
          go_wp2
          go_ret
          exact RetV.mk rfl rfl HS.out.fr
      · have e1 : decide ((k : Int) < (la.length : Int)) = false := by simp; omega
        go_wp2
        go_ret
        exact RetV.mk rfl rfl HS.out.fr
end Go.Proofs.Ytbmeeglehbaggaa
