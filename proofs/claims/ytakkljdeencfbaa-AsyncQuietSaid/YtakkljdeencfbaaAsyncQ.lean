import Derived.Test.YtakkljdeencfbaaAsyncT
import Derived.Test.YtakkljdeencfbaaAsyncNew
import Derived.Test.YtakkljdeencfbaaAsyncG
import Derived.Test.YtakkljdeencfbaaArgRecs
namespace Go.Proofs.Ytakkljdeencfbaa
open Go.RowKit

theorem send_at {n : Nat} {C : Nat → List Int} {f : List Int} {q : Nat → Nat → List Int} {i k : Nat} (hE : nearE n C i k = none) (hl : (q i k).length < 20) :
    sendE n C q i k = none ∧ sendQ n C f q i k i k = q i k ++ [nth f i] := by
  have h1 : sendE n C q i k = none := by
    unfold sendE
    rw [hE]
    exact if_neg (by simp only [Int.toNat_natCast]; omega)
  refine ⟨h1, ?_⟩
  unfold sendQ
  rw [h1]
  simp only [Int.toNat_natCast]
  rw [ANet.upd2_same]
theorem take_at {n : Nat} {to : Int} {C hd : Nat → List Int} {f : List Int} {q : Nat → Nat → List Int} {i k : Nat} {d : Int} {tl : List Int} (hE : nearE n C i k = none) (hq : q i k = d :: tl) :
    takeE n C q i k = none ∧ takeV n C q i k = d ∧ takeQ n C q i k i k = tl ∧ takeH n C hd q i k = ANet.upd hd k ((hd k).set i d) ∧ takeF n to C hd f q i k = if (k : Int) = to then f else f.set k (farV (C k) ((hd k).set i d) k n) := by
  have h1 : takeE n C q i k = none := by
    unfold takeE
    rw [hE]
    exact if_neg (by simp only [Int.toNat_natCast]; rw [hq]; simp)
  have h2 : takeH n C hd q i k = ANet.upd hd k ((hd k).set i d) := by
    unfold takeH
    rw [h1]
    simp [hq, nth]
  refine ⟨h1, ?_, ?_, h2, ?_⟩
  · unfold takeV
    rw [h1]
    simp [hq, nth]
  · unfold takeQ
    rw [h1]
    simp only [Int.toNat_natCast]
    rw [ANet.upd2_same, hq]
    rfl
  · unfold takeF
    rw [h1]
    simp only [Int.toNat_natCast]
    rw [h2, ANet.upd_same]
/-- The law, in plain. -/
theorem quiet_law {n : Nat} {to : Int} {C hd : Nat → List Int} {f : List Int} {q q2 q3 : Nat → Nat → List Int} {hd3 : Nat → List Int} {f3 : List Int} {i k : Nat} (hE : nearE n C i k = none) (h0 : (q i k).length = 0)
    (e2 : q2 = sendQ n C f (sendQ n C f q i k) i k) (e3 : q3 = takeQ n C q2 i k) (e4 : hd3 = takeH n C hd q2 i k) (e5 : f3 = takeF n to C hd f q2 i k) :
    sendE n C q i k = none ∧ sendE n C (sendQ n C f q i k) i k = none ∧ (q2 i k).length = 2 ∧ takeE n C q2 i k = none ∧ takeE n C q3 i k = none ∧ (takeQ n C q3 i k i k).length = 0 ∧ takeV n C q2 i k = takeV n C q3 i k ∧ nth (takeF n to C hd3 f3 q3 i k) k = nth f3 k := by
  obtain ⟨-, hk, -⟩ := nearE_none hE
  have hq : q i k = [] := List.length_eq_zero_iff.1 h0
  obtain ⟨s1, s2⟩ := send_at (f := f) hE (q := q) (by omega)
  rw [hq] at s2
  obtain ⟨s3, s4⟩ := send_at (f := f) hE (q := sendQ n C f q i k) (by rw [s2]; simp)
  rw [s2] at s4
  have h2 : q2 i k = [nth f i, nth f i] := by rw [e2, s4]; rfl
  obtain ⟨t1, t2, t3, t4, t5⟩ := take_at (to := to) (hd := hd) (f := f) hE h2
  rw [← e3] at t3
  rw [← e4] at t4
  rw [← e5] at t5
  obtain ⟨u1, u2, u3, u4, u5⟩ := take_at (to := to) (hd := hd3) (f := f3) hE t3
  refine ⟨s1, s3, by rw [h2]; rfl, t1, u1, by rw [u3]; rfl, by rw [t2, u2], ?_⟩
  rw [u5]
  by_cases hto : (k : Int) = to
  · rw [if_pos hto]
  · rw [if_neg hto]
    rw [if_neg hto] at t5
    have h3 : hd3 k = (hd k).set i (nth f i) := by rw [t4, ANet.upd_same]
    rw [h3, List.set_set, t5, List.set_set]
theorem takeQ_len {n : Nat} {C : Nat → List Int} {q : Nat → Nat → List Int} {a b : Int} (hE : nearE n C a b = none) {m : Nat} (h : (q a.toNat b.toNat).length ≤ m) : (takeQ n C q a b a.toNat b.toNat).length ≤ m - 1 := by
  unfold takeQ
  cases h1 : takeE n C q a b with
  | some x =>
    unfold takeE at h1
    rw [hE] at h1
    simp only at h1
    split at h1
    · show (q a.toNat b.toNat).length ≤ _
      omega
    · cases h1
  | none =>
    simp only
    rw [ANet.upd2_same]
    simp
    omega

set_option maxRecDepth 100000 in
set_option maxHeartbeats 4000000 in
theorem asyncQuiet_any (n : Int) (l : List Lk) (al : Option Addr) (c : Nat) (to : Int) (tk : List Bool) (at' : Option Addr) (ct : Nat) (xa xb : List Int) (aa ab : Option Addr) (ca cb : Nat) (a b : Int) (w : World) (hL : Links w.heap al l) (hl : l.length ≤ 9223372036854775807) (hw : ∀ x ∈ l, (Lit.int .i64 x.a).wf = true ∧ (Lit.int .i64 x.b).wf = true ∧ (Lit.int .i64 x.c).wf = true)
    (hT : Recs w.heap at' 1 bcells tk) (hA : Ints w.heap aa xa) (hB : Ints w.heap ab xb) (htl : tk.length ≤ 9223372036854775806) (hal : xa.length ≤ 9223372036854775806) (hbl : xb.length ≤ 9223372036854775806) :
    Calls Try.prog 5 #[.int .i64 n, .slice al l.length c, .int .i64 to, .slice at' tk.length ct, .slice aa xa.length ca, .slice ab xb.length cb, .int .i64 a, .int .i64 b] w (RetV w (.bool true)) := by
  go_enter Try.func5, Try.ntmps5
  go_wp2_with (fail)
  refine (anew_any 1 [] none 0 0 w (Rd.nil _ _ _) (by decide) (by simp)).mono ?_
  intro e1 w1 R1
  obtain ⟨N1, sb1, hd1, f1, q1, L1, -, rfl, -, hF1⟩ : ∃ (N sb : Nat) (hd : Nat → List Int) (f : List Int) (q : Nat → Nat → List Int) (L : AL), (1 : Int) = N ∧ e1 = .returned (.tuple #[.pointer (some ⟨sb, 0, none⟩), .nilIface]) ∧ ANet w1.heap w.heap.size sb N N N 0 (fun i => nth (costsM N []) i) hd f q L ∧ Fr (fun _ => False) w w1 := R1
  go_wp2_with (fail)
  refine (anew_any n l al c to w1 (hL.fr0 hF1 (fun _ _ h => h)) hl hw).mono ?_
  intro e2 w2 R2
  cases hne : newE n l to with
  | some k =>
    rw [hne] at R2
    obtain ⟨rfl, hF2⟩ := R2
    have hF02 := hF1.trans hF2
    clear hne
    go_wp2
    go_ret
    exact RetV.mk rfl rfl hF02
  | none =>
    rw [hne] at R2
    obtain ⟨N, sb, hd, f, q, L, rfl, rfl, hN, hF2⟩ := R2
    have hge : Hid (graphErr N l = none) := Lib.hid (by
      unfold newE at hne
      split at hne
      · cases hne
      · assumption)
    have hF02 := hF1.trans hF2
    have hs1 := hF1.size
    obtain ⟨C, hC⟩ : ∃ C, C = (fun i => nth (costsM N l) i) := ⟨_, rfl⟩
    rw [← hC] at hN
    clear hne hC hF2 hF1
    obtain ⟨B, hB0⟩ : ∃ B, B = w1.heap.size := ⟨_, rfl⟩
    rw [← hB0] at hN hs1
    have hBw : B ≤ w2.heap.size := by have := hN.lo _ (by rw [hN.rs]; decide); have := hN.sB.lt; omega
    clear hB0
    go_wp2
    go_loopw [21] (fun s21 wr => ∃ (k : Nat) (hd : Nat → List Int) (f : List Int) (q : Nat → Nat → List Int) (L : AL), s21 = .int .i64 k ∧ k ≤ tk.length ∧ ANet wr.heap B sb N N N to C hd f q L ∧ Fr (fun _ => False) w wr ∧ B ≤ wr.heap.size) (fun s _ => tk.length - (intOf s).toNat)
    case atStart => exact ⟨0, _, _, _, _, rfl, by omega, hN, hF02, hBw⟩
    case round =>
      clear hN hF02 hBw
      obtain ⟨k, hd, f, q, L, rfl, hk, hN, hF, hBw⟩ := hrel
      by_cases hgo : k < tk.length ∧ k < xa.length ∧ k < xb.length
      · obtain ⟨h1, h2, h3⟩ := hgo
        obtain ⟨gt, ot, rfl, hgt, hct⟩ := Recs.pos hT bcells_len (by omega) (by omega)
        obtain ⟨ga, oa, rfl, hga, hca⟩ := Ints.pos hA (by omega)
        obtain ⟨gb, ob, rfl, hgb, hcb⟩ := Ints.pos hB (by omega)
        have dt := (hF.cell (p := ⟨gt, ot + (k * 1 + 0), none⟩) hgt (fun h => h)).trans (hct w rfl k 0 h1 (by omega))
        have da := (hF.cell (p := ⟨ga, oa + k, none⟩) hga (fun h => h)).trans (hca w rfl k h2)
        have db := (hF.cell (p := ⟨gb, ob + k, none⟩) hgb (fun h => h)).trans (hcb w rfl k h3)
        simp only [bcells, List.getElem?_cons_zero, Nat.mul_one, Nat.add_zero] at dt
        generalize nth xa k = x at *
        generalize nth xb k = y at *
        clear hct hca hcb
        cases htk : nth tk k with
        | true =>
          rw [htk] at dt
          clear htk
          go_wp2
          (refine wp_region_mix (fun _ => True) 9 (by kernel_rfl) (by kernel_rfl) (trivial) ?_; simp only [List.take_succ_cons, List.take_zero, List.drop_succ_cons, List.drop_zero])
          (refine wpMix_earlyN 9 (by kernel_rfl) (by kernel_rfl) ?_; simp only [List.take_succ_cons, List.take_zero, List.drop_succ_cons, List.drop_zero]; (repeat (go_big_quiet_step (fail))); refine wpQuiet_nil ?_)
          refine wpMix_nil ?_
          go_wp2_with (fail)
          refine (take_any (w := wr.drew) x y (hN.fr0 (Fr.refl (fun _ => False) wr).drew) hBw).mono ?_
          rintro e5 w5 ⟨rfl, ⟨L', hN5⟩, hF5⟩
          have hF05 : Fr (fun _ => False) w w5 := hF.drew.trans' hF5 (fun i hi h => by omega)
          have hB5 : B ≤ w5.heap.size := Nat.le_trans hBw hF5.size
          generalize takeH N C hd q x y = hd' at *
          generalize takeF N to C hd f q x y = f' at *
          generalize takeQ N C q x y = q' at *
          go_wp2
          go_roundw
          case rel => exact ⟨k + 1, _, _, _, _, by go_num, by omega, hN5, hF05, hB5⟩
          case measure => simp [intOf]; omega
        | false =>
          rw [htk] at dt
          clear htk
          go_wp2
          (refine wp_region_mix (fun _ => True) 9 (by kernel_rfl) (by kernel_rfl) (trivial) ?_; simp only [List.take_succ_cons, List.take_zero, List.drop_succ_cons, List.drop_zero])
          (refine wpMix_earlyN 9 (by kernel_rfl) (by kernel_rfl) ?_; simp only [List.take_succ_cons, List.take_zero, List.drop_succ_cons, List.drop_zero]; (repeat (go_big_quiet_step (fail))); refine wpQuiet_nil ?_)
          refine wpMix_nil ?_
          go_wp2_with (fail)
          refine (send_any (w := wr.drew) x y (hN.fr0 (Fr.refl (fun _ => False) wr).drew) hBw).mono ?_
          rintro e5 w5 ⟨rfl, ⟨L', hN5⟩, hF5⟩
          have hF05 : Fr (fun _ => False) w w5 := hF.drew.trans' hF5 (fun i hi h => by omega)
          have hB5 : B ≤ w5.heap.size := Nat.le_trans hBw hF5.size
          generalize sendQ N C f q x y = q' at *
          go_wp2
          go_roundw
          case rel => exact ⟨k + 1, _, _, _, _, by go_num, by omega, hN5, hF05, hB5⟩
          case measure => simp [intOf]; omega
      · have q0 : (¬ k < tk.length) ∨ (k < tk.length ∧ ¬ k < xa.length) ∨ (k < tk.length ∧ k < xa.length ∧ ¬ k < xb.length) := by omega
        clear hgo
        rcases q0 with g1 | ⟨g1, g2⟩ | ⟨g1, g2, g3⟩
        all_goals
          go_wp2
          go_loopw [22] (fun s22 wr => ∃ (j : Nat) (hd : Nat → List Int) (f : List Int) (q : Nat → Nat → List Int) (L : AL), s22 = .int .i64 j ∧ j ≤ 20 ∧ ANet wr.heap B sb N N N to C hd f q L ∧ Fr (fun _ => False) w wr ∧ B ≤ wr.heap.size ∧ Hid (nearE N C a b = none → (q a.toNat b.toNat).length ≤ 20 - j)) (fun s _ => 20 - (intOf s).toNat)
          case atStart => exact ⟨0, _, _, _, _, rfl, by omega, hN, hF, hBw, Lib.hid (fun h => hN.q20 _ _ (by have := nearE_none h; omega) (by have := nearE_none h; omega))⟩
          case round =>
            clear hN hF hBw
            obtain ⟨j, hd, f, q, L, rfl, hj, hN, hF, hBw, hQ⟩ := hrel
            by_cases hj20 : j < 20
            · go_wp2_with (fail)
              refine (take_any a b hN hBw).mono ?_
              rintro e5 w5 ⟨rfl, ⟨L', hN5⟩, hF5⟩
              have hF05 : Fr (fun _ => False) w w5 := hF.trans' hF5 (fun i hi h => by omega)
              have hB5 : B ≤ w5.heap.size := Nat.le_trans hBw hF5.size
              have hQ5 : Hid (nearE N C a b = none → (takeQ N C q a b a.toNat b.toNat).length ≤ 20 - (j + 1)) := Lib.hid (fun h => by
                have := takeQ_len h (hQ.out h)
                omega)
              generalize takeH N C hd q a b = hd' at *
              generalize takeF N to C hd f q a b = f' at *
              generalize takeQ N C q a b = q' at *
              go_wp2
              go_roundw
              case rel => exact ⟨j + 1, _, _, _, _, by go_num, by omega, hN5, hF05, hB5, hQ5⟩
              case measure => simp [intOf]; omega
            · obtain rfl : j = 20 := by omega
              cases hE : nearE N C a b with
              | some e =>
                have hs : sendE N C q a b = some e := by unfold sendE; rw [hE]
                clear hE hQ
                go_wp2_with (fail)
                refine (send_any a b hN hBw).mono ?_
                rintro e5 w5 ⟨rfl, -, hF5⟩
                have hF05 : Fr (fun _ => False) w w5 := hF.trans' hF5 (fun i hi h => by omega)
                rw [hs, show errO (some e) = errv e from rfl]
                go_wp2_with (fail)
                refine (gfault_any N l al c w5 (hL.fr0 hF05 (fun _ _ h => h)) hge.out).mono ?_
                rintro e6 w6 ⟨rfl, hF6⟩
                go_wp2
                go_ret
                exact RetV.mk rfl rfl (hF05.trans hF6)
              | none =>
                obtain ⟨ha, hb, -⟩ := nearE_none hE
                have h0 := hQ.out hE
                obtain ⟨i, rfl⟩ := Int.eq_ofNat_of_zero_le ha.1
                obtain ⟨k, rfl⟩ := Int.eq_ofNat_of_zero_le hb.1
                simp only [Int.toNat_natCast] at h0
                have hk : k < N := by omega
                obtain ⟨q1, hq1⟩ : ∃ x, x = sendQ N C f q i k := ⟨_, rfl⟩
                obtain ⟨q2, hq2⟩ : ∃ x, x = sendQ N C f q1 i k := ⟨_, rfl⟩
                obtain ⟨q3, hq3⟩ : ∃ x, x = takeQ N C q2 i k := ⟨_, rfl⟩
                obtain ⟨hd3, hh3⟩ : ∃ x, x = takeH N C hd q2 i k := ⟨_, rfl⟩
                obtain ⟨f3, hf3⟩ : ∃ x, x = takeF N to C hd f q2 i k := ⟨_, rfl⟩
                obtain ⟨q4, hq4⟩ : ∃ x, x = takeQ N C q3 i k := ⟨_, rfl⟩
                obtain ⟨f4, hf4⟩ : ∃ x, x = takeF N to C hd3 f3 q3 i k := ⟨_, rfl⟩
                obtain ⟨l1, l2, l3, l4, l5, l6, l7, l8⟩ := quiet_law (to := to) (hd := hd) (f := f) (q := q) hE (by omega) (by rw [hq2, hq1]) hq3 hh3 hf3
                rw [← hq1] at l2
                rw [← hq4] at l6
                rw [← hf4] at l8
                clear hQ h0 ha hb
                have HE := Lib.hid hE
                have HS1 := Lib.hid l1
                have HS2 := Lib.hid l2
                have HT1 := Lib.hid l4
                have HT2 := Lib.hid l5
                have HQ1 := Lib.hid hq1
                have HQ2 := Lib.hid hq2
                have HQ3 := Lib.hid hq3
                have HQ4 := Lib.hid hq4
                have HH3 := Lib.hid hh3
                have HF3 := Lib.hid hf3
                have HF4 := Lib.hid hf4
                have HX := Lib.hid (And.intro l3 (And.intro l6 (And.intro l7 l8)))
                clear hE l1 l2 l3 l4 l5 l6 l7 l8 hq1 hq2 hq3 hq4 hh3 hf3 hf4
                go_wp2_with (fail)
                refine (send_any i k hN hBw).mono ?_
                rintro e5 w5 ⟨rfl, ⟨L5, hN5⟩, hF5⟩
                have hF05 : Fr (fun _ => False) w w5 := hF.trans' hF5 (fun i hi h => by omega)
                have hB5 : B ≤ w5.heap.size := Nat.le_trans hBw hF5.size
                rw [HS1.out, show errO none = .nilIface from rfl]
                rw [← HQ1.out] at hN5
                clear hF5 hN hF hBw
                go_wp2_with (fail)
                refine (send_any i k hN5 hB5).mono ?_
                rintro e6 w6 ⟨rfl, ⟨L6, hN6⟩, hF6⟩
                have hF06 : Fr (fun _ => False) w w6 := hF05.trans' hF6 (fun i hi h => by omega)
                have hB6 : B ≤ w6.heap.size := Nat.le_trans hB5 hF6.size
                rw [HS2.out, show errO none = .nilIface from rfl]
                rw [← HQ2.out] at hN6
                clear hF6 hN5 hF05 hB5
                go_wp2_with (fail)
                refine (waits_any i k hN6 HE.out).mono ?_
                rintro e7 w7 ⟨rfl, hF7⟩
                have hN7 := hN6.fr0 hF7
                have hF07 := hF06.trans hF7
                have hB7 : B ≤ w7.heap.size := Nat.le_trans hB6 hF7.size
                clear hF7 hN6 hF06 hB6
                go_wp2_with (fail)
                refine (take_any i k hN7 hB7).mono ?_
                rintro e8 w8 ⟨rfl, ⟨L8, hN8⟩, hF8⟩
                have hF08 : Fr (fun _ => False) w w8 := hF07.trans' hF8 (fun i hi h => by omega)
                have hB8 : B ≤ w8.heap.size := Nat.le_trans hB7 hF8.size
                rw [HT1.out, show errO none = .nilIface from rfl]
                rw [← HH3.out, ← HF3.out, ← HQ3.out] at hN8
                clear hF8 hN7 hF07 hB7
                go_wp2_with (fail)
                refine (dist_any k hk hN8).mono ?_
                rintro e9 w9 ⟨rfl, hF9⟩
                have hN9 := hN8.fr0 hF9
                have hF09 := hF08.trans hF9
                have hB9 : B ≤ w9.heap.size := Nat.le_trans hB8 hF9.size
                clear hF9 hN8 hF08 hB8
                go_wp2_with (fail)
                refine (take_any i k hN9 hB9).mono ?_
                rintro e10 w10 ⟨rfl, ⟨L10, hN10⟩, hF10⟩
                have hF010 : Fr (fun _ => False) w w10 := hF09.trans' hF10 (fun i hi h => by omega)
                have hB10 : B ≤ w10.heap.size := Nat.le_trans hB9 hF10.size
                rw [HT2.out, show errO none = .nilIface from rfl]
                rw [← HF4.out, ← HQ4.out] at hN10
                clear hF10 hN9 hF09 hB9
                go_wp2_with (fail)
                refine (dist_any k hk hN10).mono ?_
                rintro e11 w11 ⟨rfl, hF11⟩
                have hN11 := hN10.fr0 hF11
                have hF011 := hF010.trans hF11
                clear hF11 hN10 hF010 hB10
                go_wp2_with (fail)
                refine (waits_any i k hN11 HE.out).mono ?_
                rintro e12 w12 ⟨rfl, hF12⟩
                have hF012 := hF011.trans hF12
                clear hF12 hN11 hF011
                obtain ⟨m1, m2, m3, m4⟩ := HX.out
                rw [m1, m2, m3, m4]
                clear m1 m2 m3 m4
                go_wp2
                go_ret
                exact RetV.mk rfl rfl hF012
end Go.Proofs.Ytakkljdeencfbaa
