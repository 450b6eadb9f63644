import Derived.Test.YtfglidaicjjpfaaNetClone
import Derived.Test.YtfglidaicjjpfaaQOwn4
import Derived.Test.YtfglidaicjjpfaaRow
import Derived.Test.YtfglidaicjjpfaaRows
section
namespace Go.Proofs.Ytfglidaicjjpfaa
open Go.RowKit
/-- A copy of nets. -/
theorem netsCopy_any {n : Nat} (l : List Nt) (a : Option Addr) (c : Nat) (w : World) (hr : Recs w.heap a 2 Nt.cells l) (hn : n = l.length) (hl : n * 16 ≤ 140737488351232) :
    Calls Try.prog 17 #[.slice a n c] w (RetNew w 43 2 n (l.flatMap Nt.cells) id) := by
  subst hn
  go_enter Try.func17, Try.ntmps17
  go_wp2_with (at_builtin; refine wpList_app rfl _ _ 23 rfl Try.underlying23 infoNt rfl (by decide) rfl rfl (Own.made w 43 2 0 [] rfl (by decide)) (hr.fr (S := fun _ => False) ((Fr.refl _ _).alloc _) (fun _ _ _ h => h)) (nts_one l) (by omega) (by omega) ?_)
  intro a' c' w' ob' h1 h2 h3
  go_wp2
  go_ret
  refine ⟨a', c', ob', by simp, by simpa using h1, ?_, ?_⟩
  · exact ((Fr.refl _ _).alloc _).trans' h2 (fun i hi h => by cases h; omega)
  · intro g hg
    rcases h3 with h3 | ⟨g', h3, h4⟩
    · rw [h3] at hg; cases hg; exact Nat.le_refl _
    · rw [h3] at hg; cases hg; exact Nat.le_trans (by simp) h4
theorem ntset_n (l : List Nt) (i : Nat) (x : Int) (h : i < l.length) : (l.flatMap Nt.cells).set (i * 2 + 1) (.int .i64 x) = (l.set i ⟨(nth l i).a, x⟩).flatMap Nt.cells := by
  induction l generalizing i with
  | nil => simp at h
  | cons y l ih =>
    cases i with
    | zero => rfl
    | succ i =>
      have := ih i (by simpa using h)
      rw [nth_cons_succ, List.set_cons_succ, List.flatMap_cons, List.flatMap_cons, ← this]
      rw [List.set_append_right _ _ (by simp [Nt.cells_len]; omega)]
      congr 2
      simp [Nt.cells_len]; omega
theorem netsSpoil_any {n : Nat} (ob : Option Nat) (a : Option Addr) (c : Nat) (l : List Nt) (x : Int) (w : World) (hl : l.length = n) (hO : Own w.heap 43 2 a n c (l.flatMap Nt.cells) ob) :
    Calls Try.prog 19 #[.slice a n c, .int .i64 x] w (fun e w' => e = .returned (.tuple #[]) ∧ Fr (fun k => ob = some k) w w') := by
  have hle := hO.le
  go_enter Try.func19, Try.ntmps19
  go_wp2
  go_loopw [4] (fun s4 wr => ∃ i : Nat, i ≤ n ∧ s4 = .int .i64 i ∧ Fr (fun k => ob = some k) w wr ∧ ∃ l' : List Nt, l'.length = n ∧ Own wr.heap 43 2 a n c (l'.flatMap Nt.cells) ob) (fun s _ => n - (intOf s).toNat)
  case atStart => exact ⟨0, by omega, rfl, Fr.refl _ _, l, hl, hO⟩
  case round =>
    obtain ⟨i, hi, rfl, hF, l', hl', hO'⟩ := hrel
    by_cases hlt : i < n
    · obtain ⟨g, rfl, rfl, h5, h6, h7⟩ := hO'.pos (by omega)
      have hc0 := (h6 (i * 2 + 0) (by omega)).trans (flat_get _ 2 Nt.cells_len l' i 0 (by omega) (by omega))
      have hc := (h6 (i * 2 + 1) (by omega)).trans (flat_get _ 2 Nt.cells_len l' i 1 (by omega) (by omega))
      have hf := h7 (i * 2 + 1)
      have hset := hO'.set rfl (i * 2 + 1) (.int .i64 x)
      rw [ntset_n l' i x (by omega)] at hset
      simp only [Nt.cells, List.getElem?_cons_zero, List.getElem?_cons_succ, Nat.add_zero] at hc0 hc
      clear h6 h7
      go_wp2
      go_roundw
      case rel => exact ⟨i + 1, by omega, by go_num, hF.setCell (fun _ => rfl) _, _, by rw [List.length_set, hl'], hset⟩
      case measure => simp [intOf]; omega
    · obtain rfl : i = n := by omega
      go_wp2
      go_end0
      exact ⟨rfl, hF⟩
end Go.Proofs.Ytfglidaicjjpfaa
end

section
namespace Go.Proofs.Ytfglidaicjjpfaa
open Go.RowKit

theorem ownAddr {H : Array Obj} {E : TypeId} {sz : Nat} {a : Option Addr} {n cap g : Nat} {xs : List Value} (h : Own H E sz a n cap xs (some g)) : a = some ⟨g, 0, none⟩ := by
  rcases h.is with ⟨_, _, _, h1⟩ | ⟨g', cur, h0, h1, _⟩
  · cases h1
  · cases h1; exact h0

/-- A copy, in a block of its own. -/
def RetCopy (w : World) (n : Nat) (l : List Int) (e : Ending) (w' : World) : Prop :=
  ∃ g c, e = .returned (.slice (some ⟨g, 0, none⟩) n c) ∧ Own w'.heap 3 1 (some ⟨g, 0, none⟩) n c (ivals .i64 l) (some g) ∧ Fr (fun _ => False) w w' ∧ w.heap.size ≤ g

set_option maxRecDepth 100000 in
set_option maxHeartbeats 1000000 in
theorem copy_any {n : Nat} (a : Option Addr) (l : List Int) (c : Nat) (w : World) (hn : n = l.length) (hl : l.length * 8 ≤ 140737488351232) (hr : Ints w.heap a l) :
    Calls Try.prog 16 #[.slice a n c] w (RetCopy w n l) := by
  subst hn
  go_enter Try.func16, Try.ntmps16
  go_wp2_with (at_builtin; refine wpList_app rfl _ _ 22 rfl Try.underlying22 infoInt rfl (by decide) rfl rfl (Own.made w 3 1 0 [] rfl (by decide)) (hr.fr (S := fun _ => False) ((Fr.refl _ _).alloc _) (fun _ _ _ h => h)) (ivals_one _ _) (by omega) (by omega) ?_)
  intro a' c' w' ob' h1 h2 h3
  have h3' : ∃ g, ob' = some g ∧ w.heap.size ≤ g := by
    rcases h3 with h3 | ⟨g', h3, h4⟩
    · exact ⟨_, h3, Nat.le_refl _⟩
    · exact ⟨g', h3, Nat.le_trans (by simp) h4⟩
  clear h3
  obtain ⟨g, rfl, hg⟩ := h3'
  obtain rfl := ownAddr h1
  go_wp2
  go_ret
  refine ⟨g, c', by simp, by simpa using h1, ?_, hg⟩
  exact ((Fr.refl _ _).alloc _).trans' h2 (fun i hi h => by omega)

set_option maxRecDepth 100000 in
set_option maxHeartbeats 1000000 in
theorem spoil_any {n : Nat} (g c : Nat) (l : List Int) (x : Int) (w : World) (hl : l.length = n) (hO : Own w.heap 3 1 (some ⟨g, 0, none⟩) n c (ivals .i64 l) (some g)) :
    Calls Try.prog 18 #[.slice (some ⟨g, 0, none⟩) n c, .int .i64 x] w (fun e w' => e = .returned (.tuple #[]) ∧ Fr (fun k => k = g) w w') := by
  have hle := hO.le
  go_enter Try.func18, Try.ntmps18
  go_wp2
  go_loopw [4] (fun s4 wr => ∃ i : Nat, i ≤ n ∧ s4 = .int .i64 i ∧ Fr (fun k => k = g) w wr ∧ ∃ l' : List Int, l'.length = n ∧ Own wr.heap 3 1 (some ⟨g, 0, none⟩) n c (ivals .i64 l') (some g)) (fun s _ => n - (intOf s).toNat)
  case atStart => exact ⟨0, by omega, rfl, Fr.refl _ _, l, hl, hO⟩
  case round =>
    obtain ⟨i, hi, rfl, hF, l', hl', hO'⟩ := hrel
    by_cases hlt : i < n
    · obtain ⟨_, h4, h5, _, h6, h7⟩ := hO'.pos (by omega)
      cases h4
      have hc := (h6 i (by omega)).trans (ivals_get .i64 l' i (by omega))
      have hf := h7 i
      have hset := hO'.set rfl i (.int .i64 x)
      have e : (ivals .i64 l').set i (.int .i64 x) = ivals .i64 (l'.set i x) := by simp [ivals, List.map_set]
      rw [e] at hset
      clear h6 h7 e
      go_wp2
      go_roundw
      case rel => exact ⟨i + 1, by omega, by go_num, hF.at1 i _, l'.set i x, by rw [List.length_set, hl'], hset⟩
      case measure => simp [intOf]; omega
    · obtain rfl : i = n := by omega
      go_wp2
      go_end0
      exact ⟨rfl, hF⟩

/-- Nothing to spoil. -/
theorem spoil_nil (a : Option Addr) (c : Nat) (x : Int) (w : World) : Calls Try.prog 18 #[.slice a 0 c, .int .i64 x] w (fun e w' => e = .returned (.tuple #[]) ∧ Fr (fun _ => False) w w') := by
  go_enter Try.func18, Try.ntmps18
  go_wp2
  go_loopw [4] (fun s4 wr => s4 = .int .i64 0 ∧ wr = w) (fun _ _ => 0)
  case atStart => exact ⟨rfl, rfl⟩
  case round =>
    obtain ⟨rfl, rfl⟩ := hrel
    go_wp2
    go_end0
    exact ⟨rfl, Fr.refl _ _⟩
theorem spoil_own {n : Nat} (a : Option Addr) (c : Nat) (ob : Option Nat) (l : List Int) (x : Int) (w : World) (hO : Own w.heap 3 1 a n c (ivals .i64 l) ob) :
    Calls Try.prog 18 #[.slice a n c, .int .i64 x] w (fun e w' => e = .returned (.tuple #[]) ∧ Fr (fun k => ob = some k) w w') := by
  have hl : l.length = n := by have := hO.len; simpa using this
  rcases hO.is with ⟨rfl, rfl, rfl, rfl⟩ | ⟨g, cur, rfl, rfl, _⟩
  · exact (spoil_nil none 0 x w).mono fun e w' ⟨h1, h2⟩ => ⟨h1, h2.none _⟩
  · exact (spoil_any g c l x w hl hO).mono fun e w' ⟨h1, h2⟩ => ⟨h1, h2.mono (fun i _ h => by rw [h])⟩
end Go.Proofs.Ytfglidaicjjpfaa
end

section
namespace Go.Proofs.Ytfglidaicjjpfaa
open Go.RowKit

theorem pwAt {α : Type} [Inhabited α] {r : α → α → Prop} {l : List α} (h : l.Pairwise r) {i j : Nat} (hij : i < j) (hj : j < l.length) : r (nth l i) (nth l j) := by
  induction l generalizing i j with
  | nil => simp at hj
  | cons x l ih =>
    obtain ⟨h1, h2⟩ := List.pairwise_cons.1 h
    cases j with
    | zero => omega
    | succ j =>
      rw [nth_cons_succ]
      have hj' : j < l.length := by simpa using hj
      cases i with
      | zero => exact h1 _ (nth_mem l j hj')
      | succ i => rw [nth_cons_succ]; exact ih h2 (by omega) hj'
/-- What is heard hangs on costs and own nets alone. -/
theorem hearM_same {D E : DC} (hc : D.costs = E.costs) (ho : D.own = E.own) (now : Int) (l : List Td) (bad : Int) (b : List Int) (f t : Int) : hearM D now l bad b f t = hearM E now l bad b f t := by
  cases D; cases E; simp only at hc ho; subst hc; subst ho; rfl
theorem bestD_same {D E : DC} (hc : D.costs = E.costs) (ho : D.own = E.own) (l : List Td) (q : Nt) : bestD D l q = bestD E l q := by
  cases D; cases E; simp only at hc ho; subst hc; subst ho; rfl
theorem tab_same {D E : DC} (hc : D.costs = E.costs) (ho : D.own = E.own) {l : List Td} {R S : List BestR} (hR : TabR D l R) (hS : TabR E l S) : S.length = R.length ∧ ∀ i, i < R.length → bEq (nth R i) (nth S i) = true := by
  have hn : R.map bnet = S.map bnet := nsx hR.srt hS.srt (fun q => by rw [hR.mem, hS.mem, bestD_same hc ho, ho])
  have hl : S.length = R.length := by have := congrArg List.length hn; simpa using this.symm
  refine ⟨hl, fun i hi => ?_⟩
  have h1 : nth (R.map bnet) i = nth (S.map bnet) i := by rw [hn]
  rw [nth_map _ _ _ hi, nth_map _ _ _ (by omega)] at h1
  have hx := hR.val _ (nth_mem R i hi)
  have hy := hS.val _ (nth_mem S i (by omega))
  rw [bestD_same hc ho, h1, ← hy] at hx
  simp only [Prod.mk.injEq] at hx
  exact decide_eq_true ⟨hx.2, congrArg Nt.a h1, congrArg Nt.n h1, hx.1⟩
set_option maxRecDepth 100000 in
set_option maxHeartbeats 64000000 in
theorem daemonOwn_any (costs : List Int) (ac : Option Addr) (cc : Nat) (own : List Nt) (ao : Option Addr) (co : Nat) (ask : Bool) (es : List En) (A : Option Addr) (C : Nat) (x : Int) (w : World)
    (hC : Ints w.heap ac costs) (hcl : costs.length * 8 ≤ 140737488351232) (hcn : ac = none → costs = []) (hO : Recs w.heap ao 2 Nt.cells own) (how : ∀ x ∈ own, 0 ≤ x.a ∧ x.a < 4294967296) (hol : own.length * 16 ≤ 140737488351232) (hon : ao = none → own = []) (hcap : own.length ≤ co)
    (hM : Recs w.heap A 5 En.cells es) (hew : ∀ e ∈ es, En.wf e) (hel : es.length ≤ 9223372036854775806) :
    Calls Try.prog 4 #[.slice ac costs.length cc, .slice ao own.length co, .agg #[.bool ask, .slice A es.length C], .int .i64 x] w (RetV w (.bool true)) := by
  have hB0 := Blk.made w 39 [.bool ask, .slice A es.length C]
  have hF0 := (Fr.refl (fun _ => False) w).alloc (.cells #[.bool ask, .slice A es.length C] 39)
  have hs0 : (w.alloc (.cells #[.bool ask, .slice A es.length C] 39)).heap.size = w.heap.size + 1 := by simp
  have hC0 := hC.fr0 hF0 (fun _ _ h => h)
  have hO0 := hO.fr hF0 (fun _ _ _ h => h)
  have HM := Lib.hid hM
  have HC := Lib.hid hC
  have HO := Lib.hid hO
  clear hM hC hO
  go_enter Try.func4, Try.ntmps4
  go_wp2_with (fail)
  refine (copy_any ac costs cc _ rfl hcl hC0).mono ?_
  rintro e1 w1 ⟨g1, c1, rfl, hO1, hF1, hg1⟩
  have hs1 := hF1.size
  have hO01 := hO0.fr hF1 (fun _ _ _ h => h)
  have hB1 := hB0.fr hF1 (fun h => h)
  have hF01 := hF0.trans hF1
  have hl1 := hO1.lt _ rfl
  clear hB0 hC0 hO0 hF0 hF1
  go_wp2_with (fail)
  refine (netsCopy_any own ao co _ hO01 rfl hol).mono ?_
  rintro e2 w2 ⟨a2, c2, ob2, rfl, hO2, hF2, hN2⟩
  rw [show id (Value.slice a2 own.length c2) = .slice a2 own.length c2 from rfl]
  have hs2 := hF2.size
  have hB2 := hB1.fr hF2 (fun h => h)
  have hF02 := hF01.trans hF2
  have hO12 := hO1.fr hF2 (fun _ _ h => h)
  have hl2 := hO2.lt
  have hcap2 := hO2.cap
  clear hB1 hO01 hF01 hF2 hO1
  have hcall := dnew_any costs (some ⟨g1, 0, none⟩) c1 own a2 c2 w2 hO12.rd hcl (fun h => nomatch h) hO2.rd how hol (fun h => by
    rcases hO2.is with ⟨_, q, _⟩ | ⟨_, _, q, _⟩
    · exact List.eq_nil_of_length_eq_zero q
    · rw [q] at h; cases h) hcap2 rfl rfl
  go_wp2_with (fail)
  refine hcall.mono ?_
  intro e3 w3 R3
  have hF3 : Fr (fun _ => False) w2 w3 := by
    cases hE' : dnewE costs own with
    | some q => exact (R3.errE hE').2
    | none => obtain ⟨_, _, _, _, _, _, _, h⟩ := R3.okE hE'; exact h
  have hcall4 := dnew_any costs ac cc own ao co w3 (HC.out.fr0 (hF02.trans hF3) (fun _ _ h => h)) hcl hcn (HO.out.fr (hF02.trans hF3) (fun _ _ _ h => h)) how hol hon hcap rfl rfl
  cases hE : dnewE costs own with
  | some q =>
    obtain ⟨rfl, -⟩ := R3.errE hE
    clear R3 hcall
    go_wp2_with (fail)
    refine hcall4.mono ?_
    intro e4 w4 R4
    obtain ⟨rfl, hF4⟩ := R4.errE hE
    have hF04 := (hF02.trans hF3).trans hF4
    have hL5 : Ints (w4.alloc (.cells #[.int .i64 1] 3)).heap (some ⟨w4.heap.size, 0, none⟩) [1] := (Own.made w4 3 1 1 [.int .i64 1] rfl (by decide)).rd
    have hcall5 := dnew_any [1] (some ⟨w4.heap.size, 0, none⟩) 1 [] none 0 (w4.alloc (.cells #[.int .i64 1] 3)) hL5 (by decide) (fun h => nomatch h) ⟨by simp, by simp⟩ (fun _ h => nomatch h) (by decide) (fun _ => rfl) (Nat.le_refl _) rfl rfl
    clear R4 hcall4 hE hL5
    go_wp2_with (fail)
    refine hcall5.mono ?_
    intro e5 w5 R5
    obtain ⟨D5, rfl, -, -, -, -, -, hF5⟩ := R5.okE (by decide)
    have hF05 := (hF04.alloc (.cells #[.int .i64 1] 3)).trans hF5
    clear R5 hcall5
    go_wp2
    (refine wp_region_mix (fun _ => True) 11 (by kernel_rfl) (by kernel_rfl) (trivial) ?_; simp only [List.take_succ_cons, List.take_zero, List.drop_succ_cons, List.drop_zero])
    (refine wpMix_earlyN 13 (by kernel_rfl) (by kernel_rfl) ?_; simp only [List.take_succ_cons, List.take_zero, List.drop_succ_cons, List.drop_zero]; (repeat (go_big_quiet_step (fail))); refine wpQuiet_nil ?_)
    refine wpMix_nil ?_
    go_wp2
    go_ret
    exact RetV.mk rfl rfl hF05.drew
  | none =>
    obtain ⟨D, rfl, hDc, hDo, hlo, hhi, hD, -⟩ := R3.okE hE
    clear R3 hcall
    go_wp2_with (fail)
    refine hcall4.mono ?_
    intro e4 w4 R4
    obtain ⟨E, rfl, hEc, hEo, hlo', hhi', hD', hF4⟩ := R4.okE hE
    have hF34 := hF3.trans hF4
    have hF04 := hF02.trans hF34
    have hs3 := hF3.size
    have hs4 := hF4.size
    have hL5 : Ints (w4.alloc (.cells #[.int .i64 1] 3)).heap (some ⟨w4.heap.size, 0, none⟩) [1] := (Own.made w4 3 1 1 [.int .i64 1] rfl (by decide)).rd
    have hcall5 := dnew_any [1] (some ⟨w4.heap.size, 0, none⟩) 1 [] none 0 (w4.alloc (.cells #[.int .i64 1] 3)) hL5 (by decide) (fun h => nomatch h) ⟨by simp, by simp⟩ (fun _ h => nomatch h) (by decide) (fun _ => rfl) (Nat.le_refl _) rfl rfl
    clear R4 hcall4 hE hL5
    go_wp2_with (fail)
    refine hcall5.mono ?_
    intro e5 w5 R5
    obtain ⟨D5, rfl, -, -, -, -, -, hF5⟩ := R5.okE (by decide)
    have hF45 := (((Fr.refl (fun _ => False) w4).alloc (.cells #[.int .i64 1] 3)).trans hF5).drew
    have hF25 := hF34.trans hF45
    have hF05 := hF02.trans hF25
    have hs5 : w4.heap.size ≤ w5.drew.heap.size := hF45.size
    have hO25 := hO2.fr hF25 (fun _ _ h => h)
    have hO15 := hO12.fr hF25 (fun _ _ h => h)
    have hB5 := hB2.fr hF25 (fun h => h)
    have HCC := Lib.hid (hDc.trans hEc.symm)
    have HOO := Lib.hid (hDo.trans hEo.symm)
    have hD5 := fun base (hb : w3.heap.size ≤ base) => (hD base hb).fr0 (hF4.trans hF45)
    have hE5 := fun base (hb : w4.heap.size ≤ base) => (hD' base hb).fr0 hF45
    have hbd := (hD _ (Nat.le_refl _)).lbd
    have hbr := (hD _ (Nat.le_refl _)).lbr
    have hbd' := (hD' _ (Nat.le_refl _)).lbd
    have hbr' := (hD' _ (Nat.le_refl _)).lbr
    clear R5 hcall5 hO2 hO12 hB2 hF25 hF34 hF3 hF02 hD hD' hDc hDo hEc hEo hF4 hF04 hF45 hF5
    go_wp2
    (refine wp_region_mix (fun _ => True) 11 (by kernel_rfl) (by kernel_rfl) (trivial) ?_; simp only [List.take_succ_cons, List.take_zero, List.drop_succ_cons, List.drop_zero])
    (refine wpMix_earlyN 13 (by kernel_rfl) (by kernel_rfl) ?_; simp only [List.take_succ_cons, List.take_zero, List.drop_succ_cons, List.drop_zero]; (repeat (go_big_quiet_step (fail))); refine wpQuiet_nil ?_)
    refine wpMix_nil ?_
    go_wp2_with (fail)
    refine (spoil_own (some ⟨g1, 0, none⟩) c1 (some g1) costs x w5.drew hO15).mono ?_
    rintro e6 w6 ⟨rfl, hF6⟩
    have hF6' : Fr (fun k => k = g1) w5.drew w6 := hF6.mono (fun k _ h => (Option.some.inj h).symm)
    have hF06 : Fr (fun _ => False) w w6 := hF05.trans' hF6' (fun k hk e => by omega)
    have hO26 := hO25.fr hF6' (fun g hg e => by have := hN2 g hg; omega)
    have hB6 := hB5.fr hF6' (fun e => by omega)
    have hD6 := fun base (hb : w4.heap.size ≤ base) => (hD5 base (by omega)).fr hF6' (fun k hk => by have := hk; omega)
    have hE6 := fun base (hb : w4.heap.size ≤ base) => (hE5 base hb).fr hF6' (fun k hk => by have := hk; omega)
    have hs6 := hF6'.size
    clear hF6 hF6' hF05 hO15 hO25 hB5 hD5 hE5
    go_wp2_with (fail)
    refine (netsSpoil_any ob2 a2 c2 own x w6 rfl hO26).mono ?_
    rintro e7 w7 ⟨rfl, hF7⟩
    have hF07 : Fr (fun _ => False) w w7 := hF06.trans' hF7 (fun k hk e => by have := hN2 k e; omega)
    have hB7 := hB6.fr hF7 (fun e => by have := hN2 _ e; omega)
    have hD7 := fun base (hb : w4.heap.size ≤ base) => (hD6 base hb).fr hF7 (fun k hk => by have := hl2 k hk; omega)
    have hE7 := fun base (hb : w4.heap.size ≤ base) => (hE6 base hb).fr hF7 (fun k hk => by have := hl2 k hk; omega)
    have hs7 := hF7.size
    have b0 := hB7.cell 0
    have b1 := hB7.cell 1
    have bl := hB7.lt
    simp only [List.getElem?_cons_zero, List.getElem?_cons_succ] at b0 b1
    have hcall8 := encode_any ask es A C w7 (HM.out.fr hF07 (fun _ _ _ h => h)) hew hel rfl
    clear hF7 hF06 hO26 hB6 hB7 hD6 hE6 hl2
    go_wp2_with (fail)
    refine hcall8.mono ?_
    intro e8 w8 R8
    cases hme : msgErr es with
    | some q =>
      obtain ⟨rfl, hF8⟩ := R8.errE hme
      have hs8 := hF8.size
      have hDa := (hD7 w8.heap.size (by omega)).fr0 hF8
      have hDb := (hE7 w8.heap.size (by omega)).fr0 hF8
      have hFB := hF07.trans hF8
      obtain ⟨base, hbase⟩ : ∃ b, b = w8.heap.size := ⟨_, rfl⟩
      rw [← hbase] at hDa hDb
      clear R8 hcall8 hme hD7 hE7 hF8 hF07 b0 b1 bl
      go_wp2
      go_loopw [19] (fun s19 wr => s19 = .int .i64 0 ∧ wr = w8) (fun _ _ => 0)
      case atStart => exact ⟨rfl, rfl⟩
      case round =>
        obtain ⟨rfl, hw⟩ := hrel
        subst hw
        obtain ⟨l, hl⟩ : ∃ l : List Td, l = [] := ⟨_, rfl⟩
        rw [← hl] at hDa hDb
        clear hl
        obtain ⟨wB, hwB⟩ : ∃ q, q = wr := ⟨_, rfl⟩
        subst hwB
        have hcallT := dtab_any wB hDa
        go_wp2_with (fail)
        refine hcallT.mono ?_
        rintro eT wT ⟨R, aR, cR, obR, rfl, hA, hR, hFT⟩
        have hRl := hR.len
        have HPW := Lib.hid hA.pw
        have HNW := Lib.hid hA.new
        obtain ⟨nR, hnR⟩ : ∃ n, n = R.length := ⟨_, rfl⟩
        have hrow : Hid (∀ j, 0 ≤ j → j < nR → ∃ o, (R.flatMap BestR.cells)[j * 4 + 2]? = some (.int .i64 (nth R j).m) ∧ (R.flatMap BestR.cells)[j * 4 + 3]? = some (.slice (nth R j).A (nth R j).h.length (nth R j).C) ∧ Own wT.heap 3 1 (nth R j).A (nth R j).h.length (nth R j).C (ivals .i64 (nth R j).h) o ∧ ∀ g, o = some g → wB.heap.size ≤ g ∧ obR ≠ some g) := Lib.hid (fun j _ hj => by
          rw [hnR] at hj
          obtain ⟨o, q1, q2⟩ := hA.row _ (nth_mem R j hj)
          exact ⟨o, flat_get BestR.cells 4 BestR.cells_len R j 2 hj (by omega), flat_get BestR.cells 4 BestR.cells_len R j 3 hj (by omega), q1, q2⟩)
        have hown := hA.own
        rw [← hnR] at hown hRl ⊢
        have HN := Lib.hid hnR
        obtain ⟨xs0, hxs0⟩ : ∃ q, q = R.flatMap BestR.cells := ⟨_, rfl⟩
        rw [← hxs0] at hown hrow
        clear hcallT hA hR hnR hxs0
        go_wp2
        go_loopw [21] (fun s21 wq => ∃ (i : Nat) (xs : List Value), i ≤ nR ∧ s21 = .int .i64 i ∧ Fr (fun _ => False) wB wq ∧ Own wq.heap 50 4 aR nR cR xs obR ∧ Hid (∀ j, i ≤ j → j < nR → ∃ o, xs[j * 4 + 2]? = some (.int .i64 (nth R j).m) ∧ xs[j * 4 + 3]? = some (.slice (nth R j).A (nth R j).h.length (nth R j).C) ∧ Own wq.heap 3 1 (nth R j).A (nth R j).h.length (nth R j).C (ivals .i64 (nth R j).h) o ∧ ∀ g, o = some g → wB.heap.size ≤ g ∧ obR ≠ some g)) (fun s _ => nR - (intOf s).toNat)
        case atStart => exact ⟨0, xs0, by omega, rfl, hFT, hown, hrow⟩
        case round =>
          clear hFT hown hrow
          obtain ⟨i, xs, hi, rfl, hFq, hOq, hRq⟩ := hrel
          by_cases hil : i < nR
          · obtain ⟨g, rfl, rfl, h5, h6, h7⟩ := hOq.pos (by omega)
            obtain ⟨oi, x2, x3, hoi, hni⟩ := hRq.out i (Nat.le_refl _) hil
            have d2 := (h6 (i * 4 + 2) (by omega)).trans x2
            have d3 := (h6 (i * 4 + 3) (by omega)).trans x3
            have f2 := h7 (i * 4 + 2)
            have hset := hOq.set rfl (i * 4 + 2) (.int .i64 x)
            have hgB := HNW.out g rfl
            have hpw : Hid (∀ j, i < j → j < nR → ∀ p, (nth R i).A = some p → (nth R j).A ≠ some p) := Lib.hid (fun j hj hjl => pwAt HPW.out hj (by rw [← HN.out]; exact hjl))
            obtain ⟨y, hy⟩ : ∃ y, y = nth R i := ⟨_, rfl⟩
            rw [← hy] at d2 d3 hoi hpw
            have HNI := Lib.hid hni
            have HRQ := Lib.hid hRq.out
            have hoi' := hoi.fr ((Fr.refl (fun k => k = g) wr).setCell (p := ⟨g, i * 4 + 2, none⟩) (fun _ => rfl) (.int .i64 x)) (fun g' hg' e => (HNI.out g' hg').2 (by rw [e]))
            obtain ⟨ya, yn, ym, yh, yA, yC⟩ := y
            simp only at d2 d3 hoi hoi' hpw
            have hsp := spoil_own yA yC oi yh x _ hoi'
            have HOI := Lib.hid hoi
            clear h6 h7 hni x2 x3 hRq hoi hoi' hy
            go_wp2_with (fail)
            refine hsp.mono ?_
            rintro e6 wS ⟨rfl, hFS⟩
            have hFqs : Fr (fun _ => False) wB (wr.setCell ⟨g, i * 4 + 2, none⟩ (.int .i64 x)) := hFq.trans' ((Fr.refl (fun k => k = g) wr).setCell (p := ⟨g, i * 4 + 2, none⟩) (fun _ => rfl) (.int .i64 x)) (fun k hk e => by omega)
            have hFq6 : Fr (fun _ => False) wB wS := hFqs.trans' hFS (fun k hk e => by have := (HNI.out k e).1; omega)
            have hOq6 := hset.fr hFS (fun g' hg' e => (HNI.out g' e).2 hg')
            have hRq6 := Lib.hid (show ∀ j, i + 1 ≤ j → j < nR → ∃ o, (xs.set (i * 4 + 2) (.int .i64 x))[j * 4 + 2]? = some (.int .i64 (nth R j).m) ∧ (xs.set (i * 4 + 2) (.int .i64 x))[j * 4 + 3]? = some (.slice (nth R j).A (nth R j).h.length (nth R j).C) ∧ Own wS.heap 3 1 (nth R j).A (nth R j).h.length (nth R j).C (ivals .i64 (nth R j).h) o ∧ ∀ g', o = some g' → wB.heap.size ≤ g' ∧ some g ≠ some g' from fun j hj hjl => by
              obtain ⟨o', q2, q3, h1, h2⟩ := HRQ.out j (by omega) hjl
              refine ⟨o', by rw [List.getElem?_set_ne (by omega)]; exact q2, by rw [List.getElem?_set_ne (by omega)]; exact q3, (h1.fr ((Fr.refl (fun k => k = g) wr).setCell (p := ⟨g, i * 4 + 2, none⟩) (fun _ => rfl) (.int .i64 x)) (fun g' hg' e => (h2 g' hg').2 (by rw [e]))).fr hFS (fun g' hg' e => ?_), h2⟩
              subst hg'
              subst e
              exact hpw.out j (by omega) hjl _ (ownAddr HOI.out) (ownAddr h1))
            clear hFS hFqs hFq hOq hset hsp d2 d3 f2
            go_wp2
            go_roundw
            case rel => exact ⟨i + 1, _, by omega, by go_num, hFq6, hOq6, hRq6⟩
            case measure => simp [intOf]; omega
          · have hDa' := hDa.fr0 hFq
            have hDb' := hDb.fr0 hFq
            have hFq' := hFB.trans hFq
            have hcT1 := dtab_any wr hDa'
            clear hOq hRq hDa hDb hFB hFq
            go_wp2_with (fail)
            refine hcT1.mono ?_
            rintro eX wX ⟨R1, aR1, cR1, obR1, rfl, hA1, hR1, hFX⟩
            have hDbX := hDb'.fr0 hFX
            have hcT2 := dtab_any wX hDbX
            have hFX' := hFq'.trans hFX
            have HDa := Lib.hid hDa'
            have HA1 := Lib.hid hA1
            have HR1 := Lib.hid hR1
            have hR1l := hR1.len
            obtain ⟨n1, hn1⟩ : ∃ n, n = R1.length := ⟨_, rfl⟩
            rw [← hn1] at hR1l ⊢
            have HN1 := Lib.hid hn1
            have HDb := Lib.hid hDbX
            clear hcT1 hDa' hDb' hDbX hA1 hR1 hFX hn1 hFq'
            go_wp2_with (fail)
            refine hcT2.mono ?_
            rintro eY wY ⟨R2, aR2, cR2, obR2, rfl, hA2, hR2, hFY⟩
            obtain ⟨q1, q2⟩ := tab_same HCC.out HOO.out HR1.out hR2
            have hb1 := (HA1.out.fr0 hFY).tells (TabR.h4 HDa.out HR1.out)
            have hb2 := hA2.tells (TabR.h4 HDb.out hR2)
            have hFe := hFX'.trans hFY
            have hsb := sbests_true (n := n1) (k := R2.length) R1 R2 aR1 aR2 cR1 cR2 wY hb1 hb2 (Lib.hid q2) q1 (by have := HN1.out; omega) HN1.out q1
            clear hcT2 hA2 hR2 hb1 hb2 q1 q2 hFY
            go_wp2_with (fail)
            refine hsb.mono ?_
            rintro eZ wZ ⟨rfl, hFZ⟩
            have hFz := hFe.trans hFZ
            go_wp2
            go_ret
            exact RetV.mk rfl rfl hFz
    | none =>
      obtain ⟨a3, c3, ob3, rfl, hO3, hF8, hN3⟩ := R8.okE hme
      have hs8 := hF8.size
      have hel8 := encD_len ask es
      have hes25 := (msgErr_ok hme).1
      obtain ⟨b, hbq⟩ : ∃ b, b = encD ask es := ⟨_, rfl⟩
      have hbb : ∀ x ∈ b, 0 ≤ x ∧ x < 256 := by rw [hbq]; exact encD_bd ask es
      rw [← hbq] at hO3 hel8 ⊢
      have hcap3 := hO3.cap
      have hb504 : b.length ≤ 504 := by omega
      have hl3 := hO3.lt
      have hDa := (hD7 w8.heap.size (by omega)).fr0 hF8
      have hDb := (hE7 w8.heap.size (by omega)).fr0 hF8
      have hF08 := hF07.trans hF8
      obtain ⟨base, hbase⟩ : ∃ b, b = w8.heap.size := ⟨_, rfl⟩
      rw [← hbase] at hDa hDb
      have hcall9 := dhear_any b a3 c3 0 0 w8 hDa (by omega) (by omega) hO3.rd hbb (by omega) (by omega) rfl
      clear R8 hcall8 hme hD7 hE7 hF8 hF07 b0 b1 bl hel8 hbq hes25
      go_wp2_with (fail)
      refine hcall9.mono ?_
      rintro e9 w9 ⟨rfl, hD9, hF9⟩
      obtain ⟨z1, -, -⟩ := @hearM_0 D [] 0 b 0
      have hsame := hearM_same HCC.out HOO.out 0 [] 0 b 0 0
      rw [z1] at hD9
      rw [hsame] at z1
      have hlq : (hearM D 0 [] 0 b 0 0).l = (hearM E 0 [] 0 b 0 0).l := by rw [hsame]
      rw [hlq] at hD9
      have hE9 := hDb.fr hF9 (fun k hk => by have := hk; omega)
      have hO9 := hO3.fr hF9 (fun g hg e => by have := hN3 g hg; omega)
      have hF09 := hF08.trans' hF9 (fun k hk e => by omega)
      have hs9 := hF9.size
      generalize (hearM D 0 [] 0 b 0 0).bad = bad9 at *
      generalize (hearM D 0 [] 0 b 0 0).err = er9 at *
      have HZ1 := Lib.hid z1
      clear hcall9 hDa hDb hO3 hF9 hF08 hsame hlq z1
      go_wp2_with (at_builtin; refine wpList_app rfl _ _ 34 rfl Try.underlying34 infoU8 rfl (by decide) rfl rfl (Own.made w9 5 1 0 [] rfl (by decide)) (hO9.rd.fr (S := fun _ => False) ((Fr.refl _ _).alloc _) (fun _ _ _ h => h)) (ivals_one .u8 b) (by omega) (by omega) ?_)
      intro a4 c4 w10 ob4 v1 v2 v3
      have hO4 : Own w10.heap 5 1 a4 b.length c4 (ivals .u8 b) ob4 := by simpa using v1
      have hF10 : Fr (fun _ => False) w9 w10 := ((Fr.refl (fun _ => False) w9).alloc _).trans' v2 (fun i hi h => by cases h; omega)
      have hcap4 := hO4.cap
      have hE10 := hE9.fr0 hF10
      have hs10 := hF10.size
      have hcall11 := dhear_any b a4 c4 0 0 w10 hE10 (by omega) (by omega) hO4.rd hbb (by omega) (by omega) rfl
      clear v1 v2 v3 hE9 hE10
      try simp only [Nat.zero_add]
      go_wp2_with (fail)
      refine hcall11.mono ?_
      rintro e11 w11 ⟨rfl, hD11, hF11⟩
      rw [HZ1.out] at hD11
      have hDa := (hD9.fr0 hF10).fr hF11 (fun k hk => by have := hk; omega)
      have hO11 := (hO9.fr hF10 (fun _ _ h => h)).fr hF11 (fun g hg e => by have := hN3 g hg; omega)
      have hF011 := (hF09.trans hF10).trans' hF11 (fun k hk e => by omega)
      generalize (hearM E 0 [] 0 b 0 0).l = l at *
      generalize (hearM E 0 [] 0 b 0 0).bad = bad11 at *
      generalize (hearM E 0 [] 0 b 0 0).err = er11 at *
      obtain ⟨n, hn⟩ : ∃ n, n = b.length := ⟨_, rfl⟩
      rw [← hn] at hb504 hO11 ⊢
      have hs11 := hF11.size
      clear hcall11 hO4 hO9 hF11 hF10 hD9 hF09 hcap3 hcap4 hn hbb
      go_wp2
      go_loopw [19] (fun s19 wr => ∃ (i : Nat) (xs : List Int), i ≤ n ∧ s19 = .int .i64 i ∧ Own wr.heap 5 1 a3 n c3 (ivals .u8 xs) ob3 ∧ Fr (fun k => ob3 = some k) w11 wr) (fun s _ => n - (intOf s).toNat)
      case atStart => exact ⟨0, b, by omega, rfl, hO11, Fr.refl _ _⟩
      case round =>
        obtain ⟨i, xs, hi, rfl, hOr, hFr⟩ := hrel
        by_cases hin : i < n
        · have hxl : xs.length = n := by have := hOr.len; simpa using this
          obtain ⟨g, rfl, rfl, h5, h6, h7⟩ := hOr.pos (by omega)
          have hc := (h6 i (by omega)).trans (ivals_get .u8 xs i (by omega))
          have hf := h7 i
          have hset := hOr.set rfl i (.int .u8 (IntKind.u8.wrap x))
          have e : (ivals .u8 xs).set i (.int .u8 (IntKind.u8.wrap x)) = ivals .u8 (xs.set i (IntKind.u8.wrap x)) := by simp [ivals, List.map_set]
          rw [e] at hset
          clear h6 h7 e
          go_wp2
          go_roundw
          case rel => exact ⟨i + 1, _, by omega, by go_num, hset, hFr.setCell (fun _ => rfl) _⟩
          case measure => simp [intOf]; omega
        · have hDa := hDa.fr hFr (fun k hk => by have := hN3 k hk; have := hl3 k hk; omega)
          have hDb := hD11.fr hFr (fun k hk => by have := hN3 k hk; have := hl3 k hk; omega)
          have hFB := hF011.trans' hFr (fun k hk e => by have := hN3 k e; omega)
          clear hD11 hF011 hOr hFr hO11
          obtain ⟨wB, hwB⟩ : ∃ q, q = wr := ⟨_, rfl⟩
          subst hwB
          have hcallT := dtab_any wB hDa
          go_wp2_with (fail)
          refine hcallT.mono ?_
          rintro eT wT ⟨R, aR, cR, obR, rfl, hA, hR, hFT⟩
          have hRl := hR.len
          have HPW := Lib.hid hA.pw
          have HNW := Lib.hid hA.new
          obtain ⟨nR, hnR⟩ : ∃ n, n = R.length := ⟨_, rfl⟩
          have hrow : Hid (∀ j, 0 ≤ j → j < nR → ∃ o, (R.flatMap BestR.cells)[j * 4 + 2]? = some (.int .i64 (nth R j).m) ∧ (R.flatMap BestR.cells)[j * 4 + 3]? = some (.slice (nth R j).A (nth R j).h.length (nth R j).C) ∧ Own wT.heap 3 1 (nth R j).A (nth R j).h.length (nth R j).C (ivals .i64 (nth R j).h) o ∧ ∀ g, o = some g → wB.heap.size ≤ g ∧ obR ≠ some g) := Lib.hid (fun j _ hj => by
            rw [hnR] at hj
            obtain ⟨o, q1, q2⟩ := hA.row _ (nth_mem R j hj)
            exact ⟨o, flat_get BestR.cells 4 BestR.cells_len R j 2 hj (by omega), flat_get BestR.cells 4 BestR.cells_len R j 3 hj (by omega), q1, q2⟩)
          have hown := hA.own
          rw [← hnR] at hown hRl ⊢
          have HN := Lib.hid hnR
          obtain ⟨xs0, hxs0⟩ : ∃ q, q = R.flatMap BestR.cells := ⟨_, rfl⟩
          rw [← hxs0] at hown hrow
          clear hcallT hA hR hnR hxs0
          go_wp2
          go_loopw [21] (fun s21 wq => ∃ (i : Nat) (xs : List Value), i ≤ nR ∧ s21 = .int .i64 i ∧ Fr (fun _ => False) wB wq ∧ Own wq.heap 50 4 aR nR cR xs obR ∧ Hid (∀ j, i ≤ j → j < nR → ∃ o, xs[j * 4 + 2]? = some (.int .i64 (nth R j).m) ∧ xs[j * 4 + 3]? = some (.slice (nth R j).A (nth R j).h.length (nth R j).C) ∧ Own wq.heap 3 1 (nth R j).A (nth R j).h.length (nth R j).C (ivals .i64 (nth R j).h) o ∧ ∀ g, o = some g → wB.heap.size ≤ g ∧ obR ≠ some g)) (fun s _ => nR - (intOf s).toNat)
          case atStart => exact ⟨0, xs0, by omega, rfl, hFT, hown, hrow⟩
          case round =>
            clear hFT hown hrow
            obtain ⟨i, xs, hi, rfl, hFq, hOq, hRq⟩ := hrel
            by_cases hil : i < nR
            · obtain ⟨g, rfl, rfl, h5, h6, h7⟩ := hOq.pos (by omega)
              obtain ⟨oi, x2, x3, hoi, hni⟩ := hRq.out i (Nat.le_refl _) hil
              have d2 := (h6 (i * 4 + 2) (by omega)).trans x2
              have d3 := (h6 (i * 4 + 3) (by omega)).trans x3
              have f2 := h7 (i * 4 + 2)
              have hset := hOq.set rfl (i * 4 + 2) (.int .i64 x)
              have hgB := HNW.out g rfl
              have hpw : Hid (∀ j, i < j → j < nR → ∀ p, (nth R i).A = some p → (nth R j).A ≠ some p) := Lib.hid (fun j hj hjl => pwAt HPW.out hj (by rw [← HN.out]; exact hjl))
              obtain ⟨y, hy⟩ : ∃ y, y = nth R i := ⟨_, rfl⟩
              rw [← hy] at d2 d3 hoi hpw
              have HNI := Lib.hid hni
              have HRQ := Lib.hid hRq.out
              have hoi' := hoi.fr ((Fr.refl (fun k => k = g) wr).setCell (p := ⟨g, i * 4 + 2, none⟩) (fun _ => rfl) (.int .i64 x)) (fun g' hg' e => (HNI.out g' hg').2 (by rw [e]))
              obtain ⟨ya, yn, ym, yh, yA, yC⟩ := y
              simp only at d2 d3 hoi hoi' hpw
              have hsp := spoil_own yA yC oi yh x _ hoi'
              have HOI := Lib.hid hoi
              clear h6 h7 hni x2 x3 hRq hoi hoi' hy
              go_wp2_with (fail)
              refine hsp.mono ?_
              rintro e6 wS ⟨rfl, hFS⟩
              have hFqs : Fr (fun _ => False) wB (wr.setCell ⟨g, i * 4 + 2, none⟩ (.int .i64 x)) := hFq.trans' ((Fr.refl (fun k => k = g) wr).setCell (p := ⟨g, i * 4 + 2, none⟩) (fun _ => rfl) (.int .i64 x)) (fun k hk e => by omega)
              have hFq6 : Fr (fun _ => False) wB wS := hFqs.trans' hFS (fun k hk e => by have := (HNI.out k e).1; omega)
              have hOq6 := hset.fr hFS (fun g' hg' e => (HNI.out g' e).2 hg')
              have hRq6 := Lib.hid (show ∀ j, i + 1 ≤ j → j < nR → ∃ o, (xs.set (i * 4 + 2) (.int .i64 x))[j * 4 + 2]? = some (.int .i64 (nth R j).m) ∧ (xs.set (i * 4 + 2) (.int .i64 x))[j * 4 + 3]? = some (.slice (nth R j).A (nth R j).h.length (nth R j).C) ∧ Own wS.heap 3 1 (nth R j).A (nth R j).h.length (nth R j).C (ivals .i64 (nth R j).h) o ∧ ∀ g', o = some g' → wB.heap.size ≤ g' ∧ some g ≠ some g' from fun j hj hjl => by
                obtain ⟨o', q2, q3, h1, h2⟩ := HRQ.out j (by omega) hjl
                refine ⟨o', by rw [List.getElem?_set_ne (by omega)]; exact q2, by rw [List.getElem?_set_ne (by omega)]; exact q3, (h1.fr ((Fr.refl (fun k => k = g) wr).setCell (p := ⟨g, i * 4 + 2, none⟩) (fun _ => rfl) (.int .i64 x)) (fun g' hg' e => (h2 g' hg').2 (by rw [e]))).fr hFS (fun g' hg' e => ?_), h2⟩
                subst hg'
                subst e
                exact hpw.out j (by omega) hjl _ (ownAddr HOI.out) (ownAddr h1))
              clear hFS hFqs hFq hOq hset hsp d2 d3 f2
              go_wp2
              go_roundw
              case rel => exact ⟨i + 1, _, by omega, by go_num, hFq6, hOq6, hRq6⟩
              case measure => simp [intOf]; omega
            · have hDa' := hDa.fr0 hFq
              have hDb' := hDb.fr0 hFq
              have hFq' := hFB.trans hFq
              have hcT1 := dtab_any wr hDa'
              clear hOq hRq hDa hDb hFB hFq
              go_wp2_with (fail)
              refine hcT1.mono ?_
              rintro eX wX ⟨R1, aR1, cR1, obR1, rfl, hA1, hR1, hFX⟩
              have hDbX := hDb'.fr0 hFX
              have hcT2 := dtab_any wX hDbX
              have hFX' := hFq'.trans hFX
              have HDa := Lib.hid hDa'
              have HA1 := Lib.hid hA1
              have HR1 := Lib.hid hR1
              have hR1l := hR1.len
              obtain ⟨n1, hn1⟩ : ∃ n, n = R1.length := ⟨_, rfl⟩
              rw [← hn1] at hR1l ⊢
              have HN1 := Lib.hid hn1
              have HDb := Lib.hid hDbX
              clear hcT1 hDa' hDb' hDbX hA1 hR1 hFX hn1 hFq'
              go_wp2_with (fail)
              refine hcT2.mono ?_
              rintro eY wY ⟨R2, aR2, cR2, obR2, rfl, hA2, hR2, hFY⟩
              obtain ⟨q1, q2⟩ := tab_same HCC.out HOO.out HR1.out hR2
              have hb1 := (HA1.out.fr0 hFY).tells (TabR.h4 HDa.out HR1.out)
              have hb2 := hA2.tells (TabR.h4 HDb.out hR2)
              have hFe := hFX'.trans hFY
              have hsb := sbests_true (n := n1) (k := R2.length) R1 R2 aR1 aR2 cR1 cR2 wY hb1 hb2 (Lib.hid q2) q1 (by have := HN1.out; omega) HN1.out q1
              clear hcT2 hA2 hR2 hb1 hb2 q1 q2 hFY
              go_wp2_with (fail)
              refine hsb.mono ?_
              rintro eZ wZ ⟨rfl, hFZ⟩
              have hFz := hFe.trans hFZ
              go_wp2
              go_ret
              exact RetV.mk rfl rfl hFz
end Go.Proofs.Ytfglidaicjjpfaa
end

section
namespace Go.Proofs.Ytfglidaicjjpfaa
open Go.ChangeShapes Go.WideShapes Go.ChangeAt Go.RowKit

theorem own : ownKnob Try.prog.godebug = none := by kernel_rfl
theorem laidOut : laidOutB Try.prog = true := by kernel_rfl
theorem cellsInt : Try.prog.cellsOf 3 = 1 := by kernel_rfl
theorem cellsInts : Try.prog.cellsOf 22 = 1 := by kernel_rfl

theorem bulk_len {H : Type} (l : List (DataW H)) : l.length ≤ Rows.uptoBulkAll l := by
  induction l with
  | nil => simp [Rows.uptoBulkAll]
  | cons d r ih =>
    have : 1 ≤ Rows.uptoBulk d := by
      cases d with
      | lit l => cases l <;> simp [Rows.uptoBulk]
      | _ => simp [Rows.uptoBulk]
    simp only [List.length_cons, Rows.uptoBulkAll]
    omega
/-- A slice's cells are counted. -/
theorem bulk_slice {H : Type} {d : DataW H} {c : Nat} (h : c = 0 ∨ ∃ el sp, d = .slice el sp ∧ el.length + sp.length = c) : c ≤ Rows.uptoBulk d := by
  rcases h with rfl | ⟨el, sp, rfl, rfl⟩
  · omega
  · have h1 := bulk_len el
    have h2 := bulk_len sp
    simp only [Rows.uptoBulk]
    omega
theorem small_all {H : Type} {l : List (DataW H)} (hk : Rows.uptoSmall H l = true) : Rows.uptoBulkAll l ≤ 1048576 := of_decide_eq_true hk
end Go.Proofs.Ytfglidaicjjpfaa
end

section
namespace Go
open Go.ChangeShapes Go.WideShapes Go.ChangeAt Go.RowKit
/-- How many bytes a slice that came in may take. -/
theorem slice_small {H : Type} {P : Program} {ts : List TypeId} {ds : List (DataW H)} {j n c k : Nat} {t e : TypeId} (hsz : (DataW.weightsEach P ts ds).all (· ≤ reachBytes) = true) {d : DataW H} (ht : ts[j]? = some t) (hd : ds[j]? = some d)
    (hu : P.underlying t = some (.slice e)) (hk : P.bytesOf e = k) (hn : n ≤ c) (hs : c = 0 ∨ ∃ el sp, d = .slice el sp ∧ el.length + sp.length = c) : n * k ≤ 140737488351232 := by
  subst hk
  rcases hs with h | ⟨el, sp, rfl, h⟩
  · have : n = 0 := by omega
    subst this; simp
  · have := sized_slice hsz ht hd hu
    have hr : reachBytes = 140737488351232 := rfl
    rw [h, hr] at this
    exact Nat.le_trans (Nat.mul_le_mul_right _ hn) this
/-- How many bytes a slice within a record of a slice that came in may take. -/
theorem field_small {H : Type} {P : Program} {ts : List TypeId} {ds : List (DataW H)} {j k : Nat} {t e q r : TypeId} {fs : Array Field} {el sp e' s' parts : List (DataW H)} (hsz : (DataW.weightsEach P ts ds).all (· ≤ reachBytes) = true) (ht : ts[j]? = some t) (hd : ds[j]? = some (.slice el sp))
    (hu : P.underlying t = some (.slice e)) (he : P.underlying e = some (.struct fs)) (hm : DataW.agg parts ∈ el) (hp : parts[k]? = some (.slice e' s')) (hf : (fs.toList.map (·.type))[k]? = some q) (hq : P.underlying q = some (.slice r)) : (e'.length + s'.length) * P.bytesOf r ≤ reachBytes := by
  refine of_decide_eq_true (List.all_eq_true.1 hsz _ (DataW.weights_mem_each ht hd _ ?_))
  have key : ∀ l : List (DataW H), DataW.agg parts ∈ l → (e'.length + s'.length) * P.bytesOf r ∈ DataW.weightsAll P e l := by
    intro l
    induction l with
    | nil => intro h; cases h
    | cons x l ih =>
      intro h
      simp only [DataW.weightsAll, List.mem_append]
      rcases List.mem_cons.1 h with rfl | h
      · left
        simp only [DataW.weights, he]
        exact DataW.weights_mem_each hf hp _ (by simp [DataW.weights, hq])
      · right; exact ih h
  simp only [DataW.weights, hu, List.mem_cons, List.mem_append]
  exact .inr (.inl (key el hm))
end Go
end

section
namespace Go
open Go.ChangeShapes Go.WideShapes Go.ChangeAt Go.RowKit Go.Deep Go.Proofs.Ytfglidaicjjpfaa
/-- Messages that came in. -/
theorem msgs_of {H : Type} {P : Program} {W : World} {ts : List TypeId} {ds : List (DataW H)} {j : Nat} {t e q r : TypeId} {fs : Array Field} {d : DataW H} {p : List MemPlace} {a : Option Addr} {l : List MsgR} (hsz : (DataW.weightsEach P ts ds).all (· ≤ reachBytes) = true) (ht : ts[j]? = some t) (hd : ds[j]? = some d)
    (hu : P.underlying t = some (.slice e)) (he : P.underlying e = some (.struct fs)) (hf : (fs.toList.map (·.type))[1]? = some q) (hq : P.underlying q = some (.slice r)) (hb : P.bytesOf r = 40)
    (hI : Recs W.heap a 2 MsgR.cells l) (hlt : ∀ y ∈ p, y.block < W.heap.size) (hn : ∀ x ∈ l, ∃ dd pl, msgOpen W x dd pl ∧ (∀ y ∈ pl, y ∈ p) ∧ ∃ el sp, d = .slice el sp ∧ dd ∈ el) : Msgs W.heap a l := by
  refine ⟨hI, fun x hx => ?_⟩
  obtain ⟨dd, pl, ⟨hw, hR, hs⟩, hp, el, sp, rfl, hm⟩ := hn x hx
  refine ⟨hR (fun y hy => hlt y (hp y hy)), fun e' he' => enW_wf (hw.2.2 e' he'), ?_⟩
  have h1 := hw.1
  rcases hs with h | ⟨u0, el', sp', rfl, h⟩
  · omega
  · have h2 := field_small (k := 1) hsz ht hd hu he hm rfl hf hq
    have hr : reachBytes = 140737488351232 := rfl
    rw [hb, hr] at h2
    omega
end Go
end

section
namespace Go.Proofs.Ytfglidaicjjpfaa
open Go.ChangeShapes Go.WideShapes Go.ChangeAt Go.RowKit Go.Deep

set_option maxRecDepth 100000 in
theorem daemonOwn_lifted (os : Os) (started : os.Started) (H : Type) (enc : TypeId × Value → H) :
    ReturnsInHanded {} Try.checked os 4 .any (Rows.daemonOwnSpec.pre6 enc Try.prog Try.f4 Rows.daemonOwnRow.domain false) (Rows.daemonOwnSpec.post enc Try.prog Try.f4 false true false false) := by
  refine law_lift (C := Try.checked) own laidOut (by kernel_rfl) Try.func4 rfl rfl Try.underlying4 (by kernel_rfl) os started H enc
    (ChangeSpec.witness6 (enc := enc) (C := Try.checked) false ⟨#[], #[.slice none 0 0, .slice none 0 0, .agg #[.bool false, .slice none 0 0], .int .i64 0], []⟩ 8 (by kernel_rfl) (by kernel_rfl) (by kernel_rfl) (by kernel_rfl)) ?_
  intro W base args ds p hval hA hlt hsz
  rw [Try.params4] at hA hval hsz
  obtain ⟨v0, vs0, d0, ds0, p0, q0, hargs, rfl, rfl, h0, r0⟩ := trodAll_cons hA
  obtain ⟨v1, vs1, d1, ds1, p1, q1, rfl, rfl, rfl, h1, r1⟩ := trodAll_cons r0
  obtain ⟨v2, vs2, d2, ds2, p2, q2, rfl, rfl, rfl, h2, r2⟩ := trodAll_cons r1
  obtain ⟨v3, vs3, d3, ds3, p3, q3, rfl, rfl, rfl, h3, r3⟩ := trodAll_cons r2
  obtain ⟨rfl, rfl, rfl⟩ := trodAll_nil r3
  obtain rfl : args = #[v0, v1, v2, v3] := by cases args; simp_all
  obtain ⟨a0, x0, c0, rfl, k0, j0, i0, n0, y0, s0⟩ := arg_ints Try.underlying22 Try.underlying3 cellsInt (hval 0 22 v0 rfl rfl) h0 (fun x hx => hlt x (by simp [hx]))
  obtain ⟨a1, x1, c1, rfl, k1, j1, i1, n1, y1, s1⟩ := arg_recs (by decide) Nt.cells_len Try.underlying23 (by kernel_rfl) (open_net Try.underlying43 (by kernel_rfl) rfl rfl Try.underlying41 Try.underlying3 cellsNt1 cellsNt2) (hval 1 23 v1 rfl rfl) h1 (fun x hx => hlt x (by simp [hx]))
  obtain ⟨b2, a2, x2, c2, rfl, k2, j2, i2, n2, s2⟩ := arg_msg Try.underlying39 (by kernel_rfl) rfl rfl Try.underlying4 (by kernel_rfl) Try.underlying37 (by kernel_rfl) (by kernel_rfl) (open_ent Try.underlying45 (by kernel_rfl) rfl rfl rfl rfl Try.underlying43 (by kernel_rfl) rfl rfl Try.underlying41 Try.underlying3 cellsNt1 cellsNt2 Try.underlying3 cellsNt2 Try.underlying41 cellsNt1 Try.underlying3 cellsNt2) (hval 2 39 v2 rfl rfl) h2 (fun x hx => hlt x (by simp [hx]))
  obtain ⟨x3, rfl, rfl, rfl, k3⟩ := open_int Try.underlying3 (hval 3 3 v3 rfl rfl) h3
  refine ⟨?_, rfl, rfl, rfl⟩
  exact daemonOwn_any x0 a0 c0 x1 a1 c1 b2 x2 a2 c2 x3 W k0 (slice_small (k := 8) hsz (j := 0) rfl rfl Try.underlying22 (by kernel_rfl) j0 s0) y0 k1 (fun x hx => ⟨(n1 x hx).1, (n1 x hx).2.1⟩) (slice_small (k := 16) hsz (j := 1) rfl rfl Try.underlying23 (by kernel_rfl) j1 s1) y1 j1 k2 (fun e he => enW_wf (n2 e he)) (by
    have hr : reachBytes = 140737488351232 := rfl
    rcases s2 with h | ⟨u0, el, sp, rfl, h⟩
    · omega
    · have h2 := part_small (k := 1) hsz (j := 2) rfl rfl Try.underlying39 rfl rfl Try.underlying37
      have hbo : Try.checked.prog.bytesOf 45 = 40 := by kernel_rfl
      rw [hbo, hr] at h2
      omega)

theorem daemonOwn_over : Rows.daemonOwnRow.holds Try.pinned (OpenSpec.ofChange Rows.daemonOwnSpec) :=
  OpenClaim.holds_of_wide 4 Try.f4 rfl rfl rfl rfl rfl rfl rfl ⟨rfl, rfl, rfl, rfl, rfl⟩ rfl rfl rfl rfl rfl (by kernel_rfl) Try.func4 (by kernel_rfl)
    (of_decide_eq_true (by kernel_rfl)) (by unfold Func.isWrapper; first | (rw [if_pos (by decide +kernel)]; kernel_rfl) | (rw [if_neg (by decide +kernel)]; exact ⟨rfl, rfl⟩))
    (fun os started H enc _ => daemonOwn_lifted os started H enc)

theorem daemonOwn_holds : Rows.DaemonOwnSaid := daemonOwn_over
end Go.Proofs.Ytfglidaicjjpfaa
end
