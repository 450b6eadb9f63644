import Derived.Test.YtakkljdeencfbaaAsyncW
namespace Go.Proofs.Ytakkljdeencfbaa
open Go.RowKit

/-- What comes of sending. -/
def sendE (n : Nat) (C : Nat → List Int) (q : Nat → Nat → List Int) (a b : Int) : Option Int :=
  match nearE n C a b with
  | some k => some k
  | none => if 20 ≤ (q a.toNat b.toNat).length then some 4 else none
def sendQ (n : Nat) (C : Nat → List Int) (f : List Int) (q : Nat → Nat → List Int) (a b : Int) : Nat → Nat → List Int :=
  match sendE n C q a b with
  | some _ => q
  | none => ANet.upd q a.toNat (ANet.upd (q a.toNat) b.toNat (q a.toNat b.toNat ++ [nth f a.toNat]))
def SendPost (base sb n : Nat) (to : Int) (C hd : Nat → List Int) (f : List Int) (q' : Nat → Nat → List Int) (er : Option Int) (w : World) (e : Ending) (w' : World) : Prop :=
  e = .returned (errO er) ∧ (∃ L', ANet w'.heap base sb n n n to C hd f q' L') ∧ Fr (fun g => base ≤ g) w w'
set_option maxRecDepth 100000 in
set_option maxHeartbeats 2000000 in
theorem send_any {base sb n : Nat} {to : Int} {C hd : Nat → List Int} {f : List Int} {q : Nat → Nat → List Int} {L : AL} {w : World} (a b : Int) (h : ANet w.heap base sb n n n to C hd f q L) (hbase : base ≤ w.heap.size) :
    Calls Try.prog 14 #[.pointer (some ⟨sb, 0, none⟩), .int .i64 a, .int .i64 b] w (SendPost base sb n to C hd f (sendQ n C f q a b) (sendE n C q a b) w) := by
  obtain ⟨Q', hQ'⟩ : ∃ x, x = sendQ n C f q a b := ⟨_, rfl⟩
  obtain ⟨E', hE'⟩ : ∃ x, x = sendE n C q a b := ⟨_, rfl⟩
  rw [← hQ', ← hE']
  have HQ := Lib.hid hQ'
  have HE := Lib.hid hE'
  clear hQ' hE'
  have hn := h.n8
  go_enter Try.func14, Try.ntmps14
  go_wp2_with (fail)
  refine (near_any a b h).mono ?_
  rintro e1 w1 ⟨rfl, hF1⟩
  have h1 := h.fr0 hF1
  cases hne : nearE n C a b with
  | some k =>
    have hX : sendE n C q a b = some k := by unfold sendE; rw [hne]
    have H1 := Lib.hid (HE.out.trans hX)
    have H2 := Lib.hid (HQ.out.trans (by unfold sendQ; rw [hX]))
    have H3 := Lib.hid h1
    clear hne hX h h1
    rw [show errO (some k) = errv k from rfl]
    go_wp2
    go_ret
    rw [H1.out, H2.out]
    exact ⟨rfl, ⟨_, H3.out⟩, hF1.none _⟩
  | none =>
    rw [show errO none = .nilIface from rfl]
    obtain ⟨ha, hb, -⟩ := nearE_none hne
    obtain ⟨i, rfl⟩ := Int.eq_ofNat_of_zero_le ha.1
    obtain ⟨k, rfl⟩ := Int.eq_ofNat_of_zero_le hb.1
    have hi : i < n := by omega
    have hk : k < n := by omega
    obtain ⟨-, -, c2, -, c4⟩ := h1.cells
    obtain ⟨g, hwt, hg, hwtb, d1, hwr, hd2, hfz⟩ := h1.rowW hi
    obtain ⟨hfl, hfb, hfc, -⟩ := h1.rowF
    have d2 := hd2 k hk
    have d3 := hfc i hi
    rw [hwt] at c2
    have hO := h1.qO i k hi hk
    have h20 := h1.q20 i k hi hk
    have hE0 : sendE n C q i k = if 20 ≤ (q i k).length then some 4 else none := by unfold sendE; rw [hne]; rfl
    by_cases hfull : 20 ≤ (q i k).length
    · have hX := hE0.trans (if_pos hfull)
      have H1 := Lib.hid (HE.out.trans hX)
      have H2 := Lib.hid (HQ.out.trans (by unfold sendQ; rw [hX]))
      have H3 := Lib.hid h1
      have e0 : decide (((q i k).length : Int) ≥ 20) = true := by simp; omega
      clear hne hX h h1 hE0 hd2 hfz hfc hwt
      go_wp2
      go_ret
      rw [H1.out, H2.out]
      exact ⟨rfl, ⟨_, H3.out⟩, hF1.none _⟩
    · have hX := hE0.trans (if_neg hfull)
      have H1 := Lib.hid (HE.out.trans hX)
      obtain ⟨xs, hxs⟩ : ∃ xs, xs = q i k ++ [nth f i] := ⟨_, rfl⟩
      have H2 := Lib.hid (HQ.out.trans (show sendQ n C f q i k = ANet.upd q i (ANet.upd (q i) k xs) by unfold sendQ; rw [hX, hxs]; rfl))
      have hxl : xs.length = (q i k).length + 1 := by rw [hxs]; simp
      have hxi : ivals .i64 xs = ivals .i64 (q i k) ++ [.int .i64 (nth f i)] := by rw [hxs]; simp [ivals]
      have HXI := Lib.hid hxi
      have HXL := Lib.hid hxl
      have H3 := Lib.hid h1
      have e0 : decide (((q i k).length : Int) ≥ 20) = false := by simp; omega
      have hro : ∀ x r, L.role x = r → r < 100 → L.qb i k ≠ some x := fun x r hx hr h => by
        have := h1.rq i k x hi hk h
        omega
      have n1 := hro _ _ h1.rs (by omega)
      have n2 := hro _ _ (h1.rwt g hwtb) (by omega)
      have n3 := hro _ _ (h1.rwr i hi) (by omega)
      have hsb := h1.sB.lt
      have hlo1 : ∀ g, L.qb i k = some g → base ≤ g := fun g hg => h1.lo g (by rw [h1.rq i k g hi hk hg]; omega)
      have hlo2 : base ≤ L.wr i := h1.lo _ (by rw [h1.rwr i hi]; omega)
      have hbase1 : base ≤ w1.heap.size := Nat.le_trans hbase hF1.size
      have HLO := Lib.hid hlo1
      have h19 : (q i k).length < 20 := by omega
      have hOl := hO.lt
      clear hne hX h h1 hE0 hfc hwt hxs hro hlo1 hxi hxl hfull
      generalize nth f i = fi at *
      have q2 : ∀ c : Cls (fun x => L.qb i k = some x) w1, c.wo.cell? ⟨sb, 2, none⟩ = some (.slice (some ⟨g, 0, none⟩) n L.wc) := fun c => (c.fr.cell (p := ⟨sb, 2, none⟩) hsb n1).trans c2
      have q3 : ∀ c : Cls (fun x => L.qb i k = some x) w1, c.wo.cell? ⟨g, i, none⟩ = some (.slice (some ⟨L.wr i, 0, none⟩) n (L.wcr i)) := fun c => (c.fr.cell (p := ⟨g, i, none⟩) hg n2).trans d1
      have q4 : ∀ c : Cls (fun x => L.qb i k = some x) w1, c.wo.cell? ⟨L.wr i, k, none⟩ = some (.slice (L.qa i k) (q i k).length (L.qc i k)) := fun c => (c.fr.cell (p := ⟨L.wr i, k, none⟩) hwr n3).trans d2
      have HFZ := Lib.hid hfz
      clear hd2 hfz
      go_wp2
      (refine wp_region_mix (fun w' => ∃ c : Cls (fun x => L.qb i k = some x) w1, w' = c.wo) 27 (by kernel_rfl) (by kernel_rfl) (⟨⟨_, (Fr.refl _ _).drew⟩, rfl⟩) ?_; simp only [List.take_succ_cons, List.take_zero, List.drop_succ_cons, List.drop_zero])
      (refine wpMix_lateN 18 (⟨⟨_, (Fr.refl _ _).drew⟩, rfl⟩) (by kernel_rfl) ?_; simp only [List.take_succ_cons, List.take_zero, List.drop_succ_cons, List.drop_zero]; (repeat (go_big_quiet_step (fail))); refine wpQuiet_nil ?_)
      (refine wpMix_earlyN 7 (by kernel_rfl) (by kernel_rfl) ?_; simp only [List.take_succ_cons, List.take_zero, List.drop_succ_cons, List.drop_zero]; (repeat (go_big_quiet_step (fail))); refine wpQuiet_nil ?_)
      refine wpMix_eff (by kernel_rfl) ?_
      go_wp2
      refine ⟨⟨⟨_, ((Fr.refl _ _).alloc _).drew⟩, rfl⟩, ?_⟩
      refine wpMix_eff (by kernel_rfl) ?_
      have hrd := (Own.made w1 3 1 1 [.int .i64 fi] rfl (by decide)).rd
      go_wp2_with (at_builtin; refine wpList_app rfl _ _ 23 rfl Try.underlying23 infoInt rfl (by decide) rfl rfl (hO.alloc _) hrd (ivals_one .i64 [fi]) (by omega) (by omega) ?_)
      intro a' c' w6 ob' z1 z2 z3
      have hF6 : Fr (fun x => L.qb i k = some x) w1 w6 := (((Fr.refl _ w1).alloc _).drew).trans z2
      have z4 : Own w6.heap 3 1 a' xs.length c' (ivals .i64 xs) ob' := by rw [HXL.out, HXI.out]; exact z1
      have z5 : ob' = L.qb i k ∨ ∀ g, ob' = some g → w1.heap.size ≤ g := by
        rcases z3 with z3 | ⟨g', z3, z4⟩
        · exact .inl z3
        · refine .inr fun g hg => ?_
          rw [z3] at hg
          cases hg
          exact Nat.le_trans (by simp) z4
      have hP := ANet.setQ H3.out hi hk hF6 z4 z5 (by rw [HXL.out]; omega) hbase1
      rw [HXL.out] at hP
      have HP := Lib.hid hP
      have b1 := (hF6.cell (p := ⟨L.wr i, k, none⟩) hwr n3).trans d2
      have b2 := (hF6.frozen (p := ⟨L.wr i, k, none⟩) hwr n3).trans (HFZ.out k)
      have hwr6 := Nat.lt_of_lt_of_le hwr hF6.size
      have hF7 : Fr (fun g => base ≤ g) w (w6.setCell ⟨L.wr i, k, none⟩ (.slice a' ((q i k).length + 1) c')) := ((hF1.none _).trans (hF6.mono (fun x _ h => HLO.out x h))).setCell (fun _ => hlo2) _
      clear z1 z2 z3 z4 z5 hP hO hrd
      go_wp2
      refine ⟨⟨⟨_, hF6⟩, rfl⟩, ?_⟩
      refine wpMix_nil ?_
      clear q2 q3 q4
      go_wp2
      go_ret
      rw [H1.out, H2.out]
      exact ⟨rfl, ⟨_, HP.out⟩, hF7⟩
end Go.Proofs.Ytakkljdeencfbaa
