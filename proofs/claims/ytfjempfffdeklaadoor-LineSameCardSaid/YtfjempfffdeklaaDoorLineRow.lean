import Derived.Test.YtfjempfffdeklaaDoorLineStep
namespace Go.Proofs.YtfjempfffdeklaaDoor
open Go.RowKit

/-- The line has stepped. -/
def StepPost (w : World) (bs n : Nat) (l : List Lk) (p : Bool) (S : Nat → Nat → Th) (T : Nat → Prop) (e : Ending) (w' : World) : Prop :=
  e = .returned (.tuple #[]) ∧ ∃ T', LineAt w' bs n l p S T' ∧ (∀ k, T' k → T k ∨ w.heap.size ≤ k) ∧ Fr (fun k => k = bs) w w'
set_option maxRecDepth 100000 in
set_option maxHeartbeats 2000000 in
theorem lstep_any {w : World} {bs n : Nat} {l : List Lk} {p : Bool} {R : Nat → Nat → Th} {T : Nat → Prop} (hNb : Nb w) (h : LineAt w bs n l p R T) (hw : ∀ x ∈ l, (Lit.int .i64 x.a).wf = true ∧ (Lit.int .i64 x.b).wf = true ∧ (Lit.int .i64 x.c).wf = true) :
    Calls Tryd.prog 37 #[.pointer (some ⟨bs, 0, none⟩)] w (StepPost w bs n l p (stepTh (costF n l) p n R) T) := by
  have hcall := lstepped_any hNb h hw
  have hrb := h.rb
  obtain ⟨al, cl, ar, cr, ob, G, C, h⟩ := h
  have hct : CTab n (costsM n l) := by
    rcases costsE_cases (n : Int) l with ⟨k, e, -⟩ | ⟨m, hm, -, -, -, -, hct⟩
    · rw [h.ok] at e; cases e
    · obtain rfl : n = m := by omega
      exact hct
  have HRB := Lib.hid (fun i o (hi : i < n) (ho : o < n) => stepTh_bd (C := costF n l) (p := p) (R := R) (fun i k hi hk => hct.bd i k hi hk) hrb hi ho)
  generalize stepTh (costF n l) p n R = S at *
  have H := Lib.hid h
  clear h hct hrb
  go_enter Tryd.func37, Tryd.ntmps37
  go_wp2_with (fail)
  refine hcall.mono ?_
  rintro e1 w1 ⟨a, c, o1, G1, C1, rfl, hT, hF, hN, hGN⟩
  have h1 := H.out.fr0 hF
  obtain ⟨-, -, c2, f2, bl⟩ := h1.bcells
  have hne1 : ∀ q, o1 = some q → q ≠ bs := fun q hq e => by have := hN q hq; have := H.out.blk.lt; omega
  have hne2 : ∀ i, i < n → G1 i ≠ bs := fun i hi e => by have := hGN i hi; have := H.out.blk.lt; omega
  have hS := (Fr.refl (fun k => k = bs) w1).setCell (p := ⟨bs, 2, none⟩) (fun _ => rfl) (.slice a n c)
  have HP : Hid (LineAt (w1.setCell ⟨bs, 2, none⟩ (.slice a n c)) bs n l p S (fun k => (T k ∨ w.heap.size ≤ k) ∧ k < w1.heap.size)) := Lib.hid ⟨al, cl, a, c, o1, G1, C1, by
    refine ⟨h1.blk.set 2 _, ?_, hT.fr hS hne1 hne2, h1.ok, ⟨.inl h1.tb, bl⟩, fun b off e => ⟨.inl (h1.tl b off e), h1.lt _ (h1.tl b off e)⟩, fun g hg => ⟨.inr (hN g hg), hT.top.lt g hg⟩, fun i hi => ⟨.inr (hGN i hi), (hT.row i hi).lt _ rfl⟩, fun k hk => by rw [World.size_setCell]; exact hk.2, HRB.out, h1.nl⟩
    exact h1.lk.fr hS (fun b off e hh => h1.nl b off e hh)⟩
  have HF := Lib.hid ((hF.none (fun k => k = bs)).trans hS)
  clear hcall hT hF hN hGN hS h1
  go_wp2
  go_end0
  exact ⟨rfl, _, HP.out, fun k hk => hk.1, HF.out⟩

/-- What a node thinks, the distances alone. -/
def farL (R : Nat → Nat → Th) (n i : Nat) : List Int := (List.range n).map fun o => (R i o).f
theorem farL_len (R : Nat → Nat → Th) (n i : Nat) : (farL R n i).length = n := by simp [farL]
def RetFar (w : World) (n : Nat) (f : List Int) (e : Ending) (w' : World) : Prop := ∃ a c ob, e = .returned (.tuple #[.slice a n c, .nilIface]) ∧ Ownd w'.heap 3 1 a n c (ivals .i64 f) ob ∧ Fr (fun _ => False) w w' ∧ ∀ g, ob = some g → w.heap.size ≤ g
set_option maxRecDepth 100000 in
theorem rowFn_any (f x : Int) (w : World) : Calls Tryd.prog 93 #[.agg #[.int .i64 f, .int .i64 x]] w (RetV w (.int .i64 f)) := by
  go_enter Tryd.func93, Tryd.ntmps93
  go_wp2
  go_ret
  exact RetV.mk rfl rfl ((Fr.refl _ _).alloc _)
set_option maxRecDepth 100000 in
set_option maxHeartbeats 4000000 in
theorem lrow'_any {w : World} {bs n : Nat} {l : List Lk} {p : Bool} {R : Nat → Nat → Th} {T : Nat → Prop} (i : Nat) (h : LineAt w bs n l p R T) (hi : i < n) :
    Calls Tryd.prog 92 #[.pointer (some ⟨bs, 0, none⟩), .int .i64 i, .func (.func 93) #[] #[]] w (RetFar w n (farL R n i)) := by
  have hn := h.n8
  obtain ⟨al, cl, ar, cr, ob, G, C, h⟩ := h
  obtain ⟨-, -, b2, -, bl⟩ := h.bcells
  have HM := Lib.hid h.mat
  obtain ⟨g, rfl, hg, d1, hG, -, -⟩ := h.mat.cells hi (show 0 < n by omega)
  have e1 : decide ((i : Int) < 0) = false := by simp
  have e2 : decide (n ≤ i) = false := by simp; omega
  clear h
  go_enter Tryd.func92, Tryd.ntmps92
  go_wp2
  go_loopw [31, 8] (fun s31 s8 wr => ∃ (o : Nat) (a : Option Addr) (c : Nat) (ob : Option Nat), o ≤ n ∧ s31 = .int .i64 o ∧ s8 = .slice a o c ∧ Ownd wr.heap 3 1 a o c (ivals .i64 (farL R o i)) ob ∧ (∀ q, ob = some q → w.heap.size ≤ q) ∧ Fr (fun _ => False) w wr) (fun s _ _ => n - (intOf s).toNat)
  case atStart => exact ⟨0, none, 0, none, by omega, rfl, rfl, Ownd.nil _ _ _, (fun _ h => nomatch h), Fr.refl _ _⟩
  case round =>
    obtain ⟨o, ao, co, oo, ho, rfl, rfl, hO, hob, hF⟩ := hrel
    by_cases hlo : o < n
    · obtain ⟨g', e', -, -, -, d2, d3⟩ := (HM.out.fr0 hF).cells hi hlo
      have hfar : ivals .i64 (farL R (o + 1) i) = ivals .i64 (farL R o i) ++ [.int .i64 (R i o).f] := by unfold farL; rw [List.range_succ]; simp [ivals]
      have HFAR := Lib.hid hfar
      generalize hgt : R i o = t at *
      obtain ⟨tf, tx⟩ := t
      simp only at d2 d3 HFAR
      have hcall := rowFn_any tf tx (wr.alloc (.cells #[.int .i64 tf, .int .i64 tx] 154))
      clear e' hfar hgt
      go_wp2_with (fail)
      refine hcall.mono ?_
      rintro e5 w5 ⟨rfl, hF5⟩
      have hFw5 := (hF.alloc (.cells #[.int .i64 tf, .int .i64 tx] 154)).trans hF5
      have hO5 := (hO.alloc (.cells #[.int .i64 tf, .int .i64 tx] 154)).fr hF5 (fun _ _ h => h)
      have htop := hO5.alloc (.cells #[.int .i64 tf] 3)
      have hrd := (Ownd.made w5 3 1 1 [.int .i64 tf] rfl (by decide)).rd
      have hsw := hFw5.size
      clear hcall hF5 hO hO5 hF
      go_wp2_with (at_builtin; refine wpList_app rfl _ _ 38 rfl Tryd.underlying38 infoInt rfl (by decide) rfl rfl htop hrd (by simp [Value.oneCell']) (by omega) (by omega) ?_)
      intro a' c' w6 ob' z1 z2 z3
      have hF6 := Fr.app (hFw5.alloc (.cells #[.int .i64 tf] 3)) z2 hob
      have hob6 : ∀ q, ob' = some q → w.heap.size ≤ q := app_new hob z3 (by omega)
      have hO6 : Ownd w6.heap 3 1 a' (o + 1) c' (ivals .i64 (farL R (o + 1) i)) ob' := by rw [HFAR.out]; exact z1
      clear z1 z2 z3 htop hrd hFw5
      go_wp2
      go_roundw
      case rel => exact ⟨o + 1, a', c', ob', by omega, by go_num, rfl, hO6, hob6, hF6⟩
      case measure => simp [intOf]; omega
    · obtain rfl : o = n := by omega
      go_wp2
      go_ret2
      exact ⟨ao, co, oo, rfl, hO, hF, hob⟩
set_option maxRecDepth 100000 in
theorem lrow_any {w : World} {bs n : Nat} {l : List Lk} {p : Bool} {R : Nat → Nat → Th} {T : Nat → Prop} (i : Nat) (h : LineAt w bs n l p R T) (hi : i < n) :
    Calls Tryd.prog 38 #[.pointer (some ⟨bs, 0, none⟩), .int .i64 i] w (RetFar w n (farL R n i)) := by
  have hcall := lrow'_any i h hi
  clear h
  go_enter Tryd.func38, Tryd.ntmps38
  go_wp2_with (fail)
  refine hcall.mono ?_
  rintro e1 w1 ⟨a, c, ob, rfl, hO, hF, hN⟩
  go_wp2
  go_ret2
  exact ⟨a, c, ob, rfl, hO, hF, hN⟩
end Go.Proofs.YtfjempfffdeklaaDoor
