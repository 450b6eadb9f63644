import Derived.Test.YtbmeeglehbaggaaLfiW
namespace Go.Proofs.Ytbmeeglehbaggaa
open Go.RowKit Go.Maps
/-- What a call leaves that writes into a net: the net's shape is kept, nothing else has turned. -/
def RetLN (w : World) (Pd : Nat → Prop) (sb n : Nat) (to : Int) (c : Nat) (L : FL) (v : Value) (e : Ending) (w' : World) : Prop := e = .returned v ∧ LN w' Pd sb n to c L ∧ Fr Pd w w'
def RetLX (w : World) (Pd : Nat → Prop) (sb n : Nat) (to : Int) (c : Nat) (L : FL) (e : Ending) (w' : World) : Prop := ∃ v, e = .returned v ∧ LN w' Pd sb n to c L ∧ Fr Pd w w'
section
variable {w : World} {Pd : Nat → Prop} {sb n c : Nat} {to : Int} {L : FL}

set_option maxRecDepth 100000 in
set_option maxHeartbeats 4000000 in
theorem lanew_any (i : Nat) (hi : i < n) (h : LN w Pd sb n to c L) :
    Calls Try.prog 47 #[.pointer (some ⟨sb, 0, none⟩), .int .i64 i] w (RetLN w Pd sb n to c L (.tuple #[])) := by
  have hn := h.n8
  obtain ⟨c0, -, c2, -⟩ := h.cells
  by_cases hto : (i : Int) = to
  · have e1 : ((i : Int) == to) = true := by simpa using hto
    have HL := Lib.hid h
    clear h hto
    go_enter Try.func47, Try.ntmps47
    go_wp2
    go_end0
    exact ⟨rfl, HL.out, Fr.refl _ _⟩
  · have e1 : ((i : Int) == to) = false := by simpa using hto
    obtain ⟨d0, d1, -, -, d4, -⟩ := h.rowN hi
    have f0 := d4 0
    have HL1 := Lib.hid (h.setN hi (i := 0) (by omega) 16)
    obtain ⟨-, -, -, -, p5⟩ := h.pd
    have hPd := (p5 i hi).2.1
    have hlt := (h.lts.2.2.2.2 i hi).2.1
    have HF1 := Lib.hid ((Fr.refl Pd w).setCell (p := ⟨L.nd i, 0, none⟩) (fun _ => hPd) (.int .i64 16))
    clear h hto p5 d4
    go_enter Try.func47, Try.ntmps47
    go_wp2_with (fail)
    refine (lnexts_any i hi HL1.out).mono ?_
    rintro e2 w1 ⟨a, c', ob, rfl, hO, hF1, hN⟩
    have hl8 := nextsE_len (w := w.setCell ⟨L.nd i, 0, none⟩ (.int .i64 16)) (L := L) (n := n) (to := to) (i := i) (m := n)
    have hmem := nextsE_mem (w := w.setCell ⟨L.nd i, 0, none⟩ (.int .i64 16)) (L := L) (n := n) (to := to) (i := i) (m := n)
    generalize nextsE (w.setCell ⟨L.nd i, 0, none⟩ (.int .i64 16)) L n to i n = l at *
    have HM := Lib.hid hmem
    have HL2 := Lib.hid (HL1.out.fr0 hF1)
    have HF2 := Lib.hid (HF1.out.trans (hF1.none Pd))
    have HO := Lib.hid hO
    have hNb : ob ≠ some (L.nd i) := fun e => by have := hN _ e; simp at this; omega
    clear hmem hF1 hO hN c0 c2 d0 d1 f0
    go_wp2
    go_loopw [27] (fun s27 wr => ∃ k : Nat, k ≤ l.length ∧ s27 = .int .i64 k ∧ Hid (LN wr Pd sb n to c L) ∧ Hid (Fr Pd w wr) ∧ Hid (Fr (fun g => g = L.nd i) w1 wr)) (fun s _ => l.length - (intOf s).toNat)
    case atStart => exact ⟨0, by omega, rfl, HL2, HF2, Lib.hid (Fr.refl _ _)⟩
    case round =>
      obtain ⟨k, hk, rfl, HLr, HFr, HF1r⟩ := hrel
      have hLr := HLr.out
      obtain ⟨-, c1, -, -⟩ := hLr.cells
      obtain ⟨-, d1, d2, d3, d4, d5, -⟩ := hLr.rowN hi
      have f0 := d4 0
      have f1 := d4 1
      by_cases hkl : k < l.length
      · have hOr := HO.out.fr HF1r.out (fun g hg e => hNb (by rw [hg, e]))
        obtain ⟨g, rfl, -, -, hc, -⟩ := hOr.pos (by omega)
        obtain ⟨kk, hkk, hkn⟩ := HM.out _ (nth_mem l k hkl)
        have c5 := (hc k (by omega)).trans (ivals_get .i64 l k hkl)
        rw [hkk] at c5
        obtain ⟨b1, b2', -⟩ := hLr.rowC hi
        have b2 := b2' kk hkn
        have b3 := d5 kk hkn
        have HSN := Lib.hid (fun v => hLr.setN hi (i := 0) (by omega) v)
        clear hLr hOr hc b2' d5 d4 hkk d2 f1
        generalize iv wr (L.nd i) 0 = x0 at *
        generalize iv wr (L.cr i) kk = x1 at *
        generalize iv wr (L.hr i) kk = x2 at *
        go_wp2
        (refine wp_region_mix (fun _ => True) 24 (by kernel_rfl) (by kernel_rfl) (trivial) ?_; simp only [List.take_succ_cons, List.take_zero, List.drop_succ_cons, List.drop_zero])
        (refine wpMix_earlyN 24 (by kernel_rfl) (by kernel_rfl) ?_; simp only [List.take_succ_cons, List.take_zero, List.drop_succ_cons, List.drop_zero]; (repeat (go_big_quiet_step (fail))); refine wpQuiet_nil ?_)
        refine wpMix_nil ?_
        go_wp2
        refine ⟨⟨k + 1, by omega, by simp, ?_, Lib.hid (HFr.out.setCell (fun _ => hPd) _).drew, Lib.hid (HF1r.out.setCell (fun _ => rfl) _).drew⟩, by simp [intOf]; omega⟩
        exact Lib.hid ((HSN.out _).fr0 (Fr.refl _ _).drew)
      · obtain rfl : k = l.length := by omega
        have HSN := Lib.hid (fun v => hLr.setN hi (i := 1) (by omega) v)
        clear hLr d4 d5
        generalize iv wr (L.nd i) 0 = x0 at *
        generalize iv wr (L.nd i) 1 = x1 at *
        go_wp2
        (refine wp_region_mix (fun _ => True) 10 (by kernel_rfl) (by kernel_rfl) (trivial) ?_; simp only [List.take_succ_cons, List.take_zero, List.drop_succ_cons, List.drop_zero])
        (refine wpMix_earlyN 10 (by kernel_rfl) (by kernel_rfl) ?_; simp only [List.take_succ_cons, List.take_zero, List.drop_succ_cons, List.drop_zero]; (repeat (go_big_quiet_step (fail))); refine wpQuiet_nil ?_)
        refine wpMix_nil ?_
        go_wp2
        all_goals go_end0
        all_goals exact ⟨rfl, (HSN.out _).fr0 (Fr.refl _ _).drew, (HFr.out.setCell (fun _ => hPd) _).drew⟩

set_option maxRecDepth 100000 in
set_option maxHeartbeats 4000000 in
theorem lcost_any (a b x : Int) (h : LN w Pd sb n to c L) :
    Calls Try.prog 22 #[.pointer (some ⟨sb, 0, none⟩), .int .i64 a, .int .i64 b, .int .i64 x] w (RetLX w Pd sb n to c L) := by
  have HL := Lib.hid h
  have hn := h.n8
  clear h
  go_enter Try.func22, Try.ntmps22
  go_wp2_with (fail)
  refine (lnear_any a b HL.out).mono ?_
  rintro e1 w1 ⟨rfl, hF1⟩
  have HL1 := Lib.hid (HL.out.fr0 hF1)
  have HF1 := Lib.hid (hF1.none Pd)
  clear hF1
  cases hq : lnear w L n a b with
  | some z =>
    rw [show errO (some z) = errv z from rfl]
    clear hq
    go_wp2
    go_ret
    exact ⟨_, rfl, HL1.out, HF1.out⟩
  | none =>
    rw [show errO none = .nilIface from rfl]
    obtain ⟨ha, hb, hab⟩ := lnear_none hq
    obtain ⟨i, rfl⟩ := Int.eq_ofNat_of_zero_le ha.1
    obtain ⟨k, rfl⟩ := Int.eq_ofNat_of_zero_le hb.1
    have hi : i < n := by omega
    have hk : k < n := by omega
    have hik : i ≠ k := fun e => hab (by rw [e])
    clear hq ha hb hab
    by_cases hx : x < 1 ∨ 15 < x
    · have q : decide (x < 1) = true ∨ (decide (x < 1) = false ∧ decide (x > 15) = true) := by
        simp only [decide_eq_true_iff, decide_eq_false_iff_not]; omega
      clear hx
      rcases q with e1 | ⟨e1, e2⟩
      all_goals
        go_wp2
        go_ret
        exact ⟨_, rfl, HL1.out, HF1.out⟩
    · have e1 : decide (x < 1) = false := by simp; omega
      have e2 : decide (x > 15) = false := by simp; omega
      have hL1 := HL1.out
      obtain ⟨-, c1, -, -⟩ := hL1.cells
      obtain ⟨b1, b2', b3'⟩ := hL1.rowC hi
      obtain ⟨b4, b5', b6'⟩ := hL1.rowC hk
      have b2 := b2' k hk
      have b3 := b3' k
      have b5 := b5' i hi
      have b6 := b6' i
      obtain ⟨-, -, -, -, p5⟩ := hL1.pd
      have hPi := (p5 i hi).1
      have hPk := (p5 k hk).1
      have HS1 := hL1.setI (hL1.cR i hi) k x
      have HS := Lib.hid (HS1.setI (HS1.cR k hk) i x)
      have hls := hL1.lts
      have l1 : L.cr i < w1.heap.size := (hls.2.2.2.2 i hi).1
      clear hL1 b2' b3' b5' b6' p5 HS1 hls hx
      go_wp2
      (refine wp_region_mix (fun w' => ∃ c : Cls (fun k => k = L.cr i) w1, w' = c.wo) 20 (by kernel_rfl) (by kernel_rfl) (⟨⟨_, (Fr.refl _ _).drew⟩, rfl⟩) ?_; simp only [List.take_succ_cons, List.take_zero, List.drop_succ_cons, List.drop_zero])
      (refine wpMix_earlyN 15 (by kernel_rfl) (by kernel_rfl) ?_; simp only [List.take_succ_cons, List.take_zero, List.drop_succ_cons, List.drop_zero]; (repeat (go_big_quiet_step (fail))); refine wpQuiet_nil ?_)
      (refine wpMix_lateN 1 (⟨⟨_, (Fr.refl _ _).drew⟩, rfl⟩) (by kernel_rfl) ?_; simp only [List.take_succ_cons, List.take_zero, List.drop_succ_cons, List.drop_zero]; (repeat (go_big_quiet_step (fail))); refine wpQuiet_nil ?_)
      (refine wpMix_earlyN 1 (by kernel_rfl) (by kernel_rfl) ?_; simp only [List.take_succ_cons, List.take_zero, List.drop_succ_cons, List.drop_zero]; (repeat (go_big_quiet_step (fail))); refine wpQuiet_nil ?_)
      (refine wpMix_lateN 1 (⟨⟨_, (Fr.refl _ _).drew⟩, rfl⟩) (by kernel_rfl) ?_; simp only [List.take_succ_cons, List.take_zero, List.drop_succ_cons, List.drop_zero]; (repeat (go_big_quiet_step (fail))); refine wpQuiet_nil ?_)
      (refine wpMix_earlyN 1 (by kernel_rfl) (by kernel_rfl) ?_; simp only [List.take_succ_cons, List.take_zero, List.drop_succ_cons, List.drop_zero]; (repeat (go_big_quiet_step (fail))); refine wpQuiet_nil ?_)
      refine wpMix_eff (by kernel_rfl) ?_
      go_wp2
      refine ⟨⟨⟨_, ((Fr.refl (fun k => k = L.cr i) w1).setCell (fun _ => rfl) _).drew⟩, rfl⟩, ?_⟩
      refine wpMix_nil ?_
      have HF2 := Lib.hid ((((HF1.out.setCell (p := ⟨L.cr i, k, none⟩) (fun _ => hPi) (.int .i64 x))).setCell (p := ⟨L.cr k, i, none⟩) (fun _ => hPk) (.int .i64 x)).drew)
      have HS2 := Lib.hid (HS.out.fr0 (Fr.refl _ _).drew)
      go_wp2_with (fail)
      case inl =>
        clear c1 b1 b2 b3 b4 b5 b6
        refine (lanew_any k hk HS2.out).mono ?_
        rintro e1 w2 ⟨rfl, hL2, hF3⟩
        have HL2 := Lib.hid hL2
        have HF3 := Lib.hid (HF2.out.trans hF3)
        clear hL2 hF3
        go_wp2_with (fail)
        refine (lanew_any i hi HL2.out).mono ?_
        rintro e1 w3 ⟨rfl, hL3, hF4⟩
        have HL3 := Lib.hid hL3
        have HF4 := Lib.hid (HF3.out.trans hF4)
        clear hL3 hF4
        go_wp2
        go_ret
        exact ⟨_, rfl, HL3.out, HF4.out⟩
      case inr =>
        clear c1 b1 b2 b3 b4 b5 b6
        refine (lanew_any i hi HS2.out).mono ?_
        rintro e1 w2 ⟨rfl, hL2, hF3⟩
        have HL2 := Lib.hid hL2
        have HF3 := Lib.hid (HF2.out.trans hF3)
        clear hL2 hF3
        go_wp2_with (fail)
        refine (lanew_any k hk HL2.out).mono ?_
        rintro e1 w3 ⟨rfl, hL3, hF4⟩
        have HL3 := Lib.hid hL3
        have HF4 := Lib.hid (HF3.out.trans hF4)
        clear hL3 hF4
        go_wp2
        go_ret
        exact ⟨_, rfl, HL3.out, HF4.out⟩
end
end Go.Proofs.Ytbmeeglehbaggaa
