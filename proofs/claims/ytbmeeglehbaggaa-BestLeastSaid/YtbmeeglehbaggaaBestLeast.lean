import Derived.Test.YtbmeeglehbaggaaChosen
import Derived.Test.YtbmeeglehbaggaaArgHea
import Derived.Test.YtbmeeglehbaggaaLeastMath
namespace Go.Proofs.Ytbmeeglehbaggaa
open Go.RowKit

theorem bestE_none {l : List Hea} {costs : List Int} {a n : Int} (h : bestE l costs a n = none) : nearE costs = none ∧ heardsE costs.length l = none := by
  unfold bestE at h
  cases hn : nearE costs with
  | some k => rw [hn] at h; cases h
  | none =>
    rw [hn] at h
    simp only at h
    cases hh : heardsE costs.length l with
    | some k => rw [hh] at h; cases h
    | none => exact ⟨rfl, rfl⟩
/-- What is asked of the best way. -/
structure LeastF (l : List Hea) (costs : List Int) (a n sm : Int) (sh : List Int) : Prop where
  hop : ∀ j, j < sh.length → ∃ q : Nat, nth sh j = q ∧ q < costs.length ∧ nth costs q + lastOf l q a n = sm ∧ sm < 16
  up : ∀ j, j + 1 < sh.length → nth sh j < nth sh (j + 1)
  le : ∀ q : Nat, q < costs.length → sm ≤ nth costs q + lastOf l q a n
  lb : 2 ≤ sm ∧ sm ≤ 16
  four : sh.length ≤ 4
  nil : sh = [] ↔ sm = 16
  c8 : costs.length ≤ 8
  cb : ∀ c ∈ costs, 1 ≤ c ∧ c ≤ 16
  ob : ∀ f, 1 ≤ lastOf l f a n ∧ lastOf l f a n ≤ 16
theorem leastF {l : List Hea} {costs : List Int} {a n : Int} (h : bestE l costs a n = none) : LeastF l costs a n (bestM l costs a n).1 (bestM l costs a n).2 := by
  obtain ⟨h1, h2⟩ := bestE_none h
  obtain ⟨n8, nb⟩ := nearE_ok h1
  have hl : ∀ x ∈ l, 1 ≤ x.m ∧ x.m ≤ 16 := fun x hx => (heardE_ok (heardsE_ok h2 x hx)).2.2.2
  obtain ⟨q1, q2, q3⟩ := best_least a n hl nb
  obtain ⟨p1, p2, p3, -, p5⟩ := chK_bd (fun i => lastO l i a n) costs (fun i m hm => lastO_bd hl hm) nb costs.length (Nat.le_refl _)
  exact ⟨q1, q2, q3, ⟨p1, p2⟩, p3, p5, n8, nb, fun f => lastOf_bd hl f a n⟩

set_option maxRecDepth 100000 in
set_option maxHeartbeats 4000000 in
theorem bestLeast_any (costs : List Int) (ac : Option Addr) (cc : Nat) (l : List Hea) (al : Option Addr) (cl : Nat) (a n i : Int) (w : World) (hL : Recs w.heap al 4 Hea.cells l) (hw : ∀ x ∈ l, Hea.wf x) (hll : l.length ≤ 9223372036854775806) (hC : Ints w.heap ac costs) (hcl : costs.length ≤ 9223372036854775806) (ha : 0 ≤ a ∧ a < 4294967296) :
    Calls Try.prog 3 #[.slice ac costs.length cc, .slice al l.length cl, .agg #[.int .u32 a, .int .i64 n], .int .i64 i] w (RetV w (.bool true)) := by
  have HL := Lib.hid hL
  have HW := Lib.hid (show ∀ x ∈ l, 0 ≤ x.a ∧ x.a < 4294967296 from fun x hx => ⟨(hw x hx).2.1.1, (hw x hx).2.1.2.1⟩)
  have HC := Lib.hid hC
  have k0 : Blk (w.alloc (.cells #[.int .u32 a, .int .i64 n] 26)).heap w.heap.size 26 [.int .u32 a, .int .i64 n] := Blk.made w 26 [.int .u32 a, .int .i64 n]
  have hF0 := (Fr.refl (fun _ => False) w).alloc (.cells #[.int .u32 a, .int .i64 n] 26)
  clear hL hw hC
  go_enter Try.func3, Try.ntmps3
  go_wp2_with (fail)
  refine (chosen3_any _).mono ?_
  rintro e1 w1 ⟨rfl, hF1⟩
  have k1 := k0.fr hF1 (fun h => h)
  have hF01 := hF0.trans hF1
  have c0 := k1.cell 0
  have c1 := k1.cell 1
  have hlt1 := k1.lt
  simp only [List.getElem?_cons_succ, List.getElem?_cons_zero] at c0 c1
  have hbF := @leastF l costs a n
  obtain ⟨Mx, hM⟩ : ∃ Mx, Mx = bestM l costs a n := ⟨_, rfl⟩
  have hcall := best_any l al cl costs ac cc a n w1 (HL.out.fr0 hF01 (fun _ _ h => h)) HW.out (by omega) (HC.out.fr0 hF01 (fun _ _ h => h)) (by omega) ha rfl rfl
  rw [← hM] at hcall hbF
  obtain ⟨sm, sh⟩ := Mx
  simp only at hcall hbF
  clear k0 hF0 hF1 hM
  go_wp2_with (fail)
  refine hcall.mono ?_
  intro e2 w2 R2
  cases hE : bestE l costs a n with
  | some q =>
    obtain ⟨rfl, hF2⟩ := R2.errE hE
    have hF3 := (hF01.trans hF2).alloc (.cells #[.int .u32 0, .int .i64 0, .int .i64 0, .slice none 0 0] 29)
    clear hcall hbF R2 hE
    go_wp2
    go_ret
    exact RetV.mk rfl rfl hF3
  | none =>
    obtain ⟨ah, ch, ob, rfl, hO, hF2, -⟩ := R2.okE hE
    simp only at hO ⊢
    have hf := hbF hE
    have hB2 := (k1.fr hF2 (fun h => h)).alloc (.cells #[.int .u32 a, .int .i64 n, .int .i64 sm, .slice ah sh.length ch] 29)
    have hN2 := Blk.made w2 29 [.int .u32 a, .int .i64 n, .int .i64 sm, .slice ah sh.length ch]
    have hI2 := (hO.alloc (.cells #[.int .u32 a, .int .i64 n, .int .i64 sm, .slice ah sh.length ch] 29)).rd
    have hF02 := (hF01.trans hF2).alloc (.cells #[.int .u32 a, .int .i64 n, .int .i64 sm, .slice ah sh.length ch] 29)
    have h4 := hf.four
    have hsb := hf.lb
    have hc8 := hf.c8
    have HF := Lib.hid hf
    clear hcall hbF R2 hE k1 hF01 hF2 hO c0 c1 hf hlt1
    go_wp2
    go_loopw [12] (fun s12 wr => ∃ k : Nat, k ≤ sh.length ∧ s12 = .int .i64 k ∧ Blk wr.heap w.heap.size 26 [.int .u32 a, .int .i64 n] ∧ Blk wr.heap w2.heap.size 29 [.int .u32 a, .int .i64 n, .int .i64 sm, .slice ah sh.length ch] ∧ Ints wr.heap ah sh ∧ Fr (fun _ => False) w wr) (fun s _ => sh.length - (intOf s).toNat)
    case atStart => exact ⟨0, by omega, rfl, hB2, hN2, hI2, hF02⟩
    case round =>
      clear hB2 hN2 hI2 hF02
      obtain ⟨k, hk, rfl, hB, hN, hI, hF⟩ := hrel
      have b0 := hB.cell 0
      have b1 := hB.cell 1
      have t0 := hN.cell 0
      have t1 := hN.cell 1
      have t2 := hN.cell 2
      have t3 := hN.cell 3
      simp only [List.getElem?_cons_succ, List.getElem?_cons_zero] at b0 b1 t0 t1 t2 t3
      have hbl := hB.lt
      have hnl := hN.lt
      by_cases hks : k < sh.length
      · obtain ⟨q, hq, hqc, hqs, hs16⟩ := HF.out.hop k hks
        obtain ⟨g, o, rfl, hgl, hgc⟩ := Ints.pos hI (show 0 < sh.length by omega)
        have d0 := hgc wr rfl k hks
        rw [hq] at d0
        have hq' := hq
        obtain ⟨gc, oc, rfl, hcl1, hcc⟩ := Ints.pos HC.out (show 0 < costs.length by omega)
        have dC := fun c : Cls (fun _ => False) wr => (c.fr.cell (p := ⟨gc, oc + q, none⟩) (Nat.lt_of_lt_of_le hcl1 hF.size) (fun h => h)).trans ((hF.cell (p := ⟨gc, oc + q, none⟩) hcl1 (fun h => h)).trans (hcc w rfl q hqc))
        have tC := fun c : Cls (fun _ => False) wr => (c.fr.cell (p := ⟨w2.heap.size, 2, none⟩) hnl (fun h => h)).trans t2
        have uC := fun c : Cls (fun _ => False) wr => (c.fr.cell (p := ⟨w2.heap.size, 3, none⟩) hnl (fun h => h)).trans t3
        have hxb := HF.out.cb _ (nth_mem costs q hqc)
        have hlo := HF.out.ob q
        generalize nth costs q = x at *
        have HQS := Lib.hid hqs
        have hL1 := HL.out.fr0 hF.drew (fun _ _ h => h)
        have eqs : (x + lastOf l q a n != sm) = false := by simp [hqs]
        have g0 : decide ((q : Int) < 0) = false := by simp
        have g1 : decide ((costs.length : Int) ≤ (q : Int)) = false := by simp; omega
        have g2 : decide (costs.length ≤ q) = false := by simp; omega
        have g3 : decide (16 ≤ sm) = false := by simp; omega
        clear hcc hqs hq
        have HQ' := Lib.hid hq'
        clear hq'
        rcases Nat.eq_zero_or_pos k with hk0 | hk0
        · subst hk0
          clear hgc
          simp only [Nat.add_zero] at d0
          go_wp2
          (refine wp_region_mix (fun w' => ∃ c : Cls (fun _ => False) wr, w' = c.wo) 38 (by kernel_rfl) (by kernel_rfl) (⟨⟨_, (Fr.refl _ _).drew⟩, rfl⟩) ?_; simp only [List.take_succ_cons, List.take_zero, List.drop_succ_cons, List.drop_zero])
          (refine wpMix_earlyN 14 (by kernel_rfl) (by kernel_rfl) ?_; simp only [List.take_succ_cons, List.take_zero, List.drop_succ_cons, List.drop_zero]; (repeat (go_big_quiet_step (fail))); refine wpQuiet_nil ?_)
          (refine wpMix_lateN 4 (⟨⟨_, (Fr.refl _ _).drew⟩, rfl⟩) (by kernel_rfl) ?_; simp only [List.take_succ_cons, List.take_zero, List.drop_succ_cons, List.drop_zero]; (repeat (go_big_quiet_step (fail))); refine wpQuiet_nil ?_)
          (refine wpMix_earlyN 3 (by kernel_rfl) (by kernel_rfl) ?_; simp only [List.take_succ_cons, List.take_zero, List.drop_succ_cons, List.drop_zero]; (repeat (go_big_quiet_step (fail))); refine wpQuiet_nil ?_)
          refine wpMix_eff (by kernel_rfl) ?_
          go_wp2_with (fail)
          refine (lastOf_any l al cl q a n wr.drew hL1 hll rfl).mono ?_
          rintro e3 w3 ⟨rfl, hF3⟩
          have hF31 : Fr (fun _ => False) wr w3 := (Fr.refl (fun _ => False) wr).drew.trans hF3
          clear hF3
          go_wp2
          refine ⟨⟨⟨_, hF31⟩, rfl⟩, ?_⟩
          (refine wpMix_lateN 16 (⟨⟨_, (Fr.refl _ _).drew⟩, rfl⟩) (by kernel_rfl) ?_; simp only [List.take_succ_cons, List.take_zero, List.drop_succ_cons, List.drop_zero]; (repeat (go_big_quiet_step (fail))); refine wpQuiet_nil ?_)
          refine wpMix_nil ?_
          have hB3 := hB.fr hF31 (fun h => h)
          have hN3 := hN.fr hF31 (fun h => h)
          have hI3 := hI.fr hF31 (fun _ _ _ h => h)
          have hF03 := hF.trans hF31
          clear hB hN hI hF hF31 dC tC uC hL1
          go_wp2
          go_roundw
          case rel => exact ⟨0 + 1, by omega, by go_num, hB3, hN3, hI3, hF03⟩
          case measure => simp [intOf]; omega
        · obtain ⟨k, rfl⟩ : ∃ m, k = m + 1 := ⟨k - 1, by omega⟩
          have hup := HF.out.up k hks
          rw [HQ'.out] at hup
          have vC := fun c : Cls (fun _ => False) wr => (c.fr.cell (p := ⟨g, o + k, none⟩) hgl (fun h => h)).trans (hgc wr rfl k (by omega))
          generalize nth sh k = y at *
          have hge : decide (y ≥ (q : Int)) = false := by simpa using hup
          have hpred : ((k + 1 : Nat) : Int) - 1 = (k : Int) := by omega
          clear hgc hk0
          go_wp2
          (refine wp_region_mix (fun w' => ∃ c : Cls (fun _ => False) wr, w' = c.wo) 38 (by kernel_rfl) (by kernel_rfl) (⟨⟨_, (Fr.refl _ _).drew⟩, rfl⟩) ?_; simp only [List.take_succ_cons, List.take_zero, List.drop_succ_cons, List.drop_zero])
          (refine wpMix_earlyN 14 (by kernel_rfl) (by kernel_rfl) ?_; simp only [List.take_succ_cons, List.take_zero, List.drop_succ_cons, List.drop_zero]; (repeat (go_big_quiet_step (fail))); refine wpQuiet_nil ?_)
          (refine wpMix_lateN 4 (⟨⟨_, (Fr.refl _ _).drew⟩, rfl⟩) (by kernel_rfl) ?_; simp only [List.take_succ_cons, List.take_zero, List.drop_succ_cons, List.drop_zero]; (repeat (go_big_quiet_step (fail))); refine wpQuiet_nil ?_)
          (refine wpMix_earlyN 3 (by kernel_rfl) (by kernel_rfl) ?_; simp only [List.take_succ_cons, List.take_zero, List.drop_succ_cons, List.drop_zero]; (repeat (go_big_quiet_step (fail))); refine wpQuiet_nil ?_)
          refine wpMix_eff (by kernel_rfl) ?_
          go_wp2_with (fail)
          refine (lastOf_any l al cl q a n wr.drew hL1 hll rfl).mono ?_
          rintro e3 w3 ⟨rfl, hF3⟩
          have hF31 : Fr (fun _ => False) wr w3 := (Fr.refl (fun _ => False) wr).drew.trans hF3
          clear hF3
          go_wp2
          refine ⟨⟨⟨_, hF31⟩, rfl⟩, ?_⟩
          (refine wpMix_lateN 16 (⟨⟨_, (Fr.refl _ _).drew⟩, rfl⟩) (by kernel_rfl) ?_; simp only [List.take_succ_cons, List.take_zero, List.drop_succ_cons, List.drop_zero]; (repeat (go_big_quiet_step (fail))); refine wpQuiet_nil ?_)
          refine wpMix_nil ?_
          have hB3 := hB.fr hF31 (fun h => h)
          have hN3 := hN.fr hF31 (fun h => h)
          have hI3 := hI.fr hF31 (fun _ _ _ h => h)
          have hF03 := hF.trans hF31
          clear hB hN hI hF hF31 dC tC uC vC hL1
          go_wp2
          go_roundw
          case rel => exact ⟨k + 1 + 1, by omega, by go_num, hB3, hN3, hI3, hF03⟩
          case measure => simp [intOf]; omega
      · obtain rfl : k = sh.length := by omega
        have hd16 : decide (0 < sh.length) = decide (sm < 16) := by
          have h1 := HF.out.nil
          by_cases h : sh = []
          · have h2 := h1.1 h
            subst h
            rw [decide_eq_false (by simp), decide_eq_false (by omega)]
          · have h2 : sm ≠ 16 := fun e => h (h1.2 e)
            have h3 : 0 < sh.length := List.length_pos_iff.2 h
            rw [decide_eq_true h3, decide_eq_true (by omega)]
        have g4 : decide (16 < sm) = false := by simp; omega
        have g5 : decide (4 < sh.length) = false := by simp; omega
        have hd2 : (decide (0 < sh.length) = true ∧ decide (sm < 16) = true) ∨ (decide (0 < sh.length) = false ∧ decide (sm < 16) = false) := by
          rw [← hd16]; cases decide (0 < sh.length) <;> simp
        clear hd16
        by_cases hi : i < 0 ∨ (costs.length : Int) ≤ i
        · rcases hi with hi | hi
          · have g7 : decide (i < 0) = true := by simpa using hi
            rcases hd2 with ⟨g8, g9⟩ | ⟨g8, g9⟩
            all_goals
              go_wp2
              go_quiet (fail)
              go_wp2
              go_ret
              exact RetV.mk rfl rfl (hF.drewN _)
          · have g7 : decide (i < 0) = false := by simp; omega
            have g10 : decide ((costs.length : Int) ≤ i) = true := by simpa using hi
            rcases hd2 with ⟨g8, g9⟩ | ⟨g8, g9⟩
            all_goals
              go_wp2
              go_quiet (fail)
              go_wp2
              go_ret
              exact RetV.mk rfl rfl (hF.drewN _)
        · obtain ⟨q, rfl⟩ := Int.eq_ofNat_of_zero_le (show 0 ≤ i by omega)
          have hqc : q < costs.length := by omega
          clear hi
          obtain ⟨gc, oc, rfl, hcl1, hcc⟩ := Ints.pos HC.out (show 0 < costs.length by omega)
          have dC := fun c : Cls (fun _ => False) wr => (c.fr.cell (p := ⟨gc, oc + q, none⟩) (Nat.lt_of_lt_of_le hcl1 hF.size) (fun h => h)).trans ((hF.cell (p := ⟨gc, oc + q, none⟩) hcl1 (fun h => h)).trans (hcc w rfl q hqc))
          have tC := fun c : Cls (fun _ => False) wr => (c.fr.cell (p := ⟨w2.heap.size, 2, none⟩) hnl (fun h => h)).trans t2
          have hxb := HF.out.cb _ (nth_mem costs q hqc)
          have hlo := HF.out.ob q
          have hle := HF.out.le q hqc
          generalize nth costs q = x at *
          have hL1 := HL.out.fr0 hF.drew (fun _ _ h => h)
          have e0 : decide ((q : Int) < 0) = false := by simp
          have e1 : decide ((costs.length : Int) ≤ (q : Int)) = false := by simp; omega
          have e2 : decide (costs.length ≤ q) = false := by simp; omega
          have e3 : decide (sm ≤ x + lastOf l q a n) = true := by simpa using hle
          clear hcc
          rcases hd2 with ⟨g8, g9⟩ | ⟨g8, g9⟩
          all_goals
            go_wp2
            (refine wp_region_mix (fun w' => ∃ c : Cls (fun _ => False) wr, w' = c.wo) 20 (by kernel_rfl) (by kernel_rfl) (⟨⟨_, (Fr.refl _ _).drew⟩, rfl⟩) ?_; simp only [List.take_succ_cons, List.take_zero, List.drop_succ_cons, List.drop_zero])
            (refine wpMix_earlyN 9 (by kernel_rfl) (by kernel_rfl) ?_; simp only [List.take_succ_cons, List.take_zero, List.drop_succ_cons, List.drop_zero]; (repeat (go_big_quiet_step (fail))); refine wpQuiet_nil ?_)
            (refine wpMix_lateN 6 (⟨⟨_, (Fr.refl _ _).drew⟩, rfl⟩) (by kernel_rfl) ?_; simp only [List.take_succ_cons, List.take_zero, List.drop_succ_cons, List.drop_zero]; (repeat (go_big_quiet_step (fail))); refine wpQuiet_nil ?_)
            (refine wpMix_earlyN 3 (by kernel_rfl) (by kernel_rfl) ?_; simp only [List.take_succ_cons, List.take_zero, List.drop_succ_cons, List.drop_zero]; (repeat (go_big_quiet_step (fail))); refine wpQuiet_nil ?_)
            refine wpMix_eff (by kernel_rfl) ?_
            go_wp2_with (fail)
            refine (lastOf_any l al cl q a n wr.drew hL1 hll rfl).mono ?_
            rintro e3 w3 ⟨rfl, hF3⟩
            have hF31 : Fr (fun _ => False) wr w3 := (Fr.refl (fun _ => False) wr).drew.trans hF3
            clear hF3
            go_wp2
            refine ⟨⟨⟨_, hF31⟩, rfl⟩, ?_⟩
            (refine wpMix_lateN 1 (⟨⟨_, (Fr.refl _ _).drew⟩, rfl⟩) (by kernel_rfl) ?_; simp only [List.take_succ_cons, List.take_zero, List.drop_succ_cons, List.drop_zero]; (repeat (go_big_quiet_step (fail))); refine wpQuiet_nil ?_)
            refine wpMix_nil ?_
            have hF03 := hF.trans hF31
            clear hB hN hI hF hF31 dC tC hL1
            go_wp2
            go_ret
            exact RetV.mk rfl rfl hF03
end Go.Proofs.Ytbmeeglehbaggaa
