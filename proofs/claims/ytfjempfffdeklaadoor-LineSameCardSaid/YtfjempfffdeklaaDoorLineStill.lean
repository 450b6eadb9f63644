import Derived.Test.YtfjempfffdeklaaDoorLinePos
namespace Go.Proofs.YtfjempfffdeklaaDoor
open Go.RowKit

/-! Still: a step that changes nothing. -/
set_option maxRecDepth 100000 in
set_option maxHeartbeats 1000000 in
theorem equalTh_any {n : Nat} (f x : Nat → Int) (g1 g2 c1 c2 : Nat) (w : World) (hn : n ≤ 8) (l1 : g1 < w.heap.size) (l2 : g2 < w.heap.size)
    (h1 : ∀ o, o < n → w.cell? ⟨g1, o * 2, none⟩ = some (.int .i64 (f o)) ∧ w.cell? ⟨g1, o * 2 + 1, none⟩ = some (.int .i64 (x o))) (h2 : ∀ o, o < n → w.cell? ⟨g2, o * 2, none⟩ = some (.int .i64 (f o)) ∧ w.cell? ⟨g2, o * 2 + 1, none⟩ = some (.int .i64 (x o))) :
    Calls Tryd.prog 91 #[.slice (some ⟨g1, 0, none⟩) n c1, .slice (some ⟨g2, 0, none⟩) n c2] w (RetQ w (.bool true)) := by
  have H1 := Lib.hid h1
  have H2 := Lib.hid h2
  clear h1 h2
  go_enter Tryd.func91, Tryd.ntmps91
  go_wp2
  go_loopw [13] (fun i wr => ∃ k m : Nat, k ≤ n ∧ i = .int .i64 k ∧ wr = w.drewN m) (fun i _ => n - (intOf i).toNat)
  case atStart => exact ⟨0, 0, by omega, rfl, rfl⟩
  case round =>
    obtain ⟨k, m, hk, rfl, rfl⟩ := hrel
    by_cases hlt : k < n
    · obtain ⟨d0, d1⟩ := H1.out k hlt
      obtain ⟨e0, e1⟩ := H2.out k hlt
      go_wp2
      go_quiet (fail)
      go_wp2
      go_roundw
      case rel => exact ⟨k + 1, m + nq, by omega, by go_num, by simp⟩
      case measure => simp [intOf]; omega
    · obtain rfl : k = n := by omega
      go_wp2
      go_ret
      exact RetQ.mk rfl rfl m rfl
set_option maxRecDepth 100000 in
set_option maxHeartbeats 1000000 in
theorem equalFn_any {n : Nat} {R S : Nat → Nat → Th} {a a' : Option Addr} {c c' : Nat} {ob ob' : Option Nat} {G C G' C' : Nat → Nat} (w : World) (hn : n ≤ 8) (h : TMat w.heap n n R a c ob G C) (h' : TMat w.heap n n S a' c' ob' G' C') (hRS : ∀ i o, i < n → o < n → S i o = R i o) :
    Calls Tryd.prog 89 #[.slice a n c, .slice a' n c', .func (.func 91) #[] #[]] w (RetQ w (.bool true)) := by
  have H := Lib.hid h
  have H' := Lib.hid (h'.congr hRS)
  clear h h' hRS
  go_enter Tryd.func89, Tryd.ntmps89
  go_wp2
  go_loopw [17] (fun i wr => ∃ k m : Nat, k ≤ n ∧ i = .int .i64 k ∧ wr = w.drewN m) (fun i _ => n - (intOf i).toNat)
  case atStart => exact ⟨0, 0, by omega, rfl, rfl⟩
  case round =>
    obtain ⟨k, m, hk, rfl, rfl⟩ := hrel
    by_cases hlt : k < n
    · obtain ⟨g, rfl, hg, d1, hG, -⟩ := H.out.cells hlt hlt
      obtain ⟨g', rfl, hg', e1, hG', -⟩ := H'.out.cells hlt hlt
      have hq := equalTh_any (fun o => (R k o).f) (fun o => (R k o).x) (G k) (G' k) (C k) (C' k) (w.drewN m) hn hG hG' (fun o ho => by
          obtain ⟨_, h1, _, _, _, h4, h5⟩ := H.out.cells hlt ho
          exact ⟨h4, h5⟩) (fun o ho => by
          obtain ⟨_, h1, _, _, _, h4, h5⟩ := H'.out.cells hlt ho
          exact ⟨h4, h5⟩)
      go_wp2_with (fail)
      refine hq.mono ?_
      rintro e w1 ⟨rfl, m2, rfl⟩
      clear hq
      go_wp2
      go_roundw
      case rel => exact ⟨k + 1, m + m2, by omega, by go_num, by simp⟩
      case measure => simp [intOf]; omega
    · obtain rfl : k = n := by omega
      go_wp2
      go_ret
      exact RetQ.mk rfl rfl m rfl
set_option maxRecDepth 100000 in
set_option maxHeartbeats 1000000 in
theorem still_any {w : World} {bs n : Nat} {l : List Lk} {p : Bool} {R : Nat → Nat → Th} {T : Nat → Prop} (hNb : Nb w) (h : LineAt w bs n l p R T) (hw : ∀ x ∈ l, (Lit.int .i64 x.a).wf = true ∧ (Lit.int .i64 x.b).wf = true ∧ (Lit.int .i64 x.c).wf = true)
    (hst : ∀ i o, i < n → o < n → stepTh (costF n l) p n R i o = R i o) :
    Calls Tryd.prog 36 #[.pointer (some ⟨bs, 0, none⟩)] w (RetV w (.bool true)) := by
  have hcall := fun W (f : Fr (fun _ => False) w W) => lstepped_any (hNb.fr f (fun h => h)) (h.fr0 f) hw
  have hn := h.n8
  obtain ⟨al, cl, ar, cr, ob, G, C, h⟩ := h
  have H := Lib.hid h
  have HST := Lib.hid hst
  have qc := fun c : Cls (fun _ => False) w => (h.fr0 c.fr).bcells.2.2.1
  obtain ⟨-, -, c2, -, bl⟩ := h.bcells
  clear hst h
  go_enter Tryd.func36, Tryd.ntmps36
  go_wp2
  (refine wp_region_mix (fun w' => ∃ c : Cls (fun _ => False) w, w' = c.wo) 6 (by kernel_rfl) (by kernel_rfl) (⟨⟨_, (Fr.refl _ _).drew⟩, rfl⟩) ?_; simp only [List.take_succ_cons, List.take_zero, List.drop_succ_cons, List.drop_zero])
  (refine wpMix_lateN 4 (⟨⟨_, (Fr.refl _ _).drew⟩, rfl⟩) (by kernel_rfl) ?_; simp only [List.take_succ_cons, List.take_zero, List.drop_succ_cons, List.drop_zero]; (repeat (go_big_quiet_step (fail))); refine wpQuiet_nil ?_)
  (refine wpMix_earlyN 1 (by kernel_rfl) (by kernel_rfl) ?_; simp only [List.take_succ_cons, List.take_zero, List.drop_succ_cons, List.drop_zero]; (repeat (go_big_quiet_step (fail))); refine wpQuiet_nil ?_)
  refine wpMix_eff (by kernel_rfl) ?_
  go_wp2_with (fail)
  refine (hcall _ (Fr.refl _ _).drew).mono ?_
  rintro e1 w1 ⟨a1, c1, o1, G1, C1, rfl, hT, hF, -, -⟩
  have hF1 : Fr (fun _ => False) w w1 := (Fr.refl (fun _ => False) w).drew.trans hF
  have heq := equalFn_any w1 hn.2 (H.out.fr0 hF1).mat hT HST.out
  clear qc c2 hcall hF hT
  go_wp2
  refine ⟨⟨⟨_, hF1⟩, rfl⟩, ?_⟩
  refine wpMix_nil ?_
  go_wp2_with (fail)
  refine heq.mono ?_
  rintro e2 w2 ⟨rfl, m2, rfl⟩
  have hF2 := hF1.drewN m2
  clear heq hF1
  go_wp2
  go_ret
  exact RetV.mk rfl rfl hF2
end Go.Proofs.YtfjempfffdeklaaDoor
