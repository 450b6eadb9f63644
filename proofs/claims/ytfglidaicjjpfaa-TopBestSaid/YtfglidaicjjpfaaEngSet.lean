import Derived.Test.YtfglidaicjjpfaaEngW
namespace Go
/-- Is there an entry of a net? -/
def hasK (E : List Ent) (q : Nt) : Prop := ∃ x ∈ E, x.key = q
instance (E : List Ent) (q : Nt) : Decidable (hasK E q) := by unfold hasK; infer_instance
def setE (costs : List Int) (E : List Ent) (h : Hea) : Option Int := match heardE costs.length h with
  | some k => some k
  | none => if ¬ hasK E ⟨h.a, h.n⟩ ∧ E.length = 64 then some 4 else none
def keysE (E : List Ent) (q : Nt) : List Nt := if hasK E q then E.map (·.key) else q :: E.map (·.key)
/-- The blocks that are used behind a call. -/
def usesN (U : Nat → Prop) (w w' : World) (k : Nat) : Prop := U k ∨ (w.heap.size ≤ k ∧ k < w'.heap.size)
end Go
namespace Go.Proofs.Ytfglidaicjjpfaa
open Go.RowKit Go.Maps
theorem lenL_run {κ : Type} {w : World} {P : Program} {k e t : TypeId} {kl : κ → Lit} {b : Nat} {L : List (κ × Value)} (h : MapL w P k kl b L) (ht : P.underlying t = some (.map k e)) (ty : TypeId) : (Builtin.len_ #[t] ty #[.map (some b)]).run P w = .ok (.int .i64 (L.length : Nat)) w := by
  obtain ⟨D, h1, h2⟩ := h.size
  rw [h1.len ht ty, h2]
theorem zeroPE {w : World} : (zeroValue 129).run Try.prog w = .ok (.pointer none) w := by kernel_rfl
def RetSet (U : Nat → Prop) (w : World) (be bn : Nat) (costs : List Int) (all : List Hea) (E : List Ent) (ac : Option Addr) (cc : Nat) (h : Hea) (r : Option Int) (e : Ending) (w' : World) : Prop :=
  match r with
  | some k => RetV w (errv k) e w'
  | none => e = .returned .nilIface ∧ Fr U w w' ∧ ∃ E', Eng (usesN U w w') w' be bn costs (all ++ [h]) E' ac cc ∧ E'.map (·.key) = keysE E ⟨h.a, h.n⟩ ∧ ∀ q, shownE E' q = shownE E q
theorem RetSet.err {U : Nat → Prop} {w : World} {be bn : Nat} {costs : List Int} {all : List Hea} {E : List Ent} {ac : Option Addr} {cc : Nat} {h : Hea} {r : Option Int} {e : Ending} {w' : World} {k : Int} (hr : r = some k) (he : e = .returned (errv k)) (hF : Fr (fun _ => False) w w') : RetSet U w be bn costs all E ac cc h r e w' := by
  subst hr; exact ⟨he, hF⟩
theorem RetSet.ok {U : Nat → Prop} {w : World} {be bn : Nat} {costs : List Int} {all : List Hea} {E : List Ent} {ac : Option Addr} {cc : Nat} {h : Hea} {r : Option Int} {e : Ending} {w' : World} (hr : r = none) (he : e = .returned .nilIface) (hF : Fr U w w') {E' : List Ent} (h1 : Eng (usesN U w w') w' be bn costs (all ++ [h]) E' ac cc) (h2 : E'.map (·.key) = keysE E ⟨h.a, h.n⟩) (h3 : ∀ q, shownE E' q = shownE E q) : RetSet U w be bn costs all E ac cc h r e w' := by
  subst hr; exact ⟨he, hF, E', h1, h2, h3⟩
theorem RetSet.errE {U : Nat → Prop} {w : World} {be bn : Nat} {costs : List Int} {all : List Hea} {E : List Ent} {ac : Option Addr} {cc : Nat} {h : Hea} {r : Option Int} {e : Ending} {w' : World} {k : Int} (hh : RetSet U w be bn costs all E ac cc h r e w') (hr : r = some k) : RetV w (errv k) e w' := by subst hr; exact hh
theorem RetSet.okE {U : Nat → Prop} {w : World} {be bn : Nat} {costs : List Int} {all : List Hea} {E : List Ent} {ac : Option Addr} {cc : Nat} {h : Hea} {r : Option Int} {e : Ending} {w' : World} (hh : RetSet U w be bn costs all E ac cc h r e w') (hr : r = none) : e = .returned .nilIface ∧ Fr U w w' ∧ ∃ E', Eng (usesN U w w') w' be bn costs (all ++ [h]) E' ac cc ∧ E'.map (·.key) = keysE E ⟨h.a, h.n⟩ ∧ ∀ q, shownE E' q = shownE E q := by subst hr; exact hh

set_option maxRecDepth 100000 in
set_option maxHeartbeats 8000000 in
theorem set_any {U : Nat → Prop} {be bn : Nat} {costs : List Int} {all : List Hea} {E : List Ent} {ac : Option Addr} {cc : Nat} (h : Hea) (w : World) (hE : Eng U w be bn costs all E ac cc) (hq : Nt.wf ⟨h.a, h.n⟩) (hfw : (Lit.int .i64 h.f).wf = true) (hal : all.length ≤ 9223372036854775000) (h64 : E.length ≤ 64) :
    Calls Try.prog 61 #[.pointer (some ⟨be, 0, none⟩), .agg #[.int .i64 h.f, .int .u32 h.a, .int .i64 h.n, .int .i64 h.m]] w (RetSet U w be bn costs all E ac cc h (setE costs E h)) := by
  obtain ⟨f, a, n, m⟩ := h
  simp only at hq hfw
  obtain ⟨R, hR⟩ : ∃ R, R = setE costs E ⟨f, a, n, m⟩ := ⟨_, rfl⟩
  rw [← hR]
  have HR := Lib.hid hR
  clear hR
  have hF0 := (Fr.refl (fun _ => False) w).alloc (.cells #[.int .i64 f, .int .u32 a, .int .i64 n, .int .i64 m] 47)
  have hE0 := hE.fr0 hF0
  have hB0 := Blk.made w 47 [.int .i64 f, .int .u32 a, .int .i64 n, .int .i64 m]
  obtain ⟨hn8, hcb⟩ := nearE_ok hE.near
  have HCB := Lib.hid hcb
  have HQ := Lib.hid hq
  have HFW := Lib.hid hfw
  have HU : ∀ k, U k → k ≠ w.heap.size := fun k hk e => by have := hE.lt k hk; omega
  have HUU := Lib.hid HU
  have HLT := Lib.hid hE.lt
  clear hE hcb HU hfw
  go_enter Try.func61, Try.ntmps61
  go_wp2
  generalize (w.alloc (.cells #[.int .i64 f, .int .u32 a, .int .i64 n, .int .i64 m] 47)) = W0 at *
  have e0 := hE0.blk.cell 0
  have e1 := hE0.blk.cell 1
  have b0 := hB0.cell 0
  have b1 := hB0.cell 1
  have b2 := hB0.cell 2
  have b3 := hB0.cell 3
  have l0 := hE0.blk.lt
  have l1 := hB0.lt
  simp only [List.getElem?_cons_succ, List.getElem?_cons_zero] at e0 e1 b0 b1 b2 b3
  (refine wp_region_mix (fun _ => True) 5 (by kernel_rfl) (by kernel_rfl) (trivial) ?_; simp only [List.take_succ_cons, List.take_zero, List.drop_succ_cons, List.drop_zero])
  (refine wpMix_earlyN 5 (by kernel_rfl) (by kernel_rfl) ?_; simp only [List.take_succ_cons, List.take_zero, List.drop_succ_cons, List.drop_zero]; (repeat (go_big_quiet_step (fail))); refine wpQuiet_nil ?_)
  refine wpMix_nil ?_
  go_wp2_with (fail)
  refine (heard_any ⟨f, a, n, m⟩ costs.length ac cc _ ⟨hq.1, hq.2.1⟩ (by omega)).mono ?_
  rintro e1' w1 ⟨rfl, hF1⟩
  have hF01 := (Fr.refl (fun _ => False) W0).drew.trans hF1
  have hE1 := hE0.fr0 hF01
  have hB1 := hB0.fr hF01 (fun h => h)
  have hFw1 := hF0.trans hF01
  clear hE0 hB0 hF0 hF1 hF01 e0 e1 b0 b1 b2 b3 l0 l1
  cases hh : heardE costs.length ⟨f, a, n, m⟩ with
  | some k =>
    have hX := Lib.hid (HR.out.trans (show setE costs E ⟨f, a, n, m⟩ = some k by unfold setE; rw [hh]))
    rw [show errO (some k) = errv k from rfl]
    clear hh
    go_wp2
    go_ret
    exact RetSet.err hX.out rfl hFw1
  | none =>
    have HH := Lib.hid hh
    have hX := Lib.hid (HR.out.trans (show setE costs E ⟨f, a, n, m⟩ = if ¬ hasK E ⟨a, n⟩ ∧ E.length = 64 then some 4 else none by unfold setE; rw [hh]))
    rw [show errO none = .nilIface from rfl]
    clear hh
    go_wp2
    have e0 := hE1.blk.cell 0
    have e1 := hE1.blk.cell 1
    have b0 := hB1.cell 0
    have b1 := hB1.cell 1
    have b2 := hB1.cell 2
    have b3 := hB1.cell 3
    have l0 := hE1.blk.lt
    have l1 := hB1.lt
    simp only [List.getElem?_cons_succ, List.getElem?_cons_zero] at e0 e1 b0 b1 b2 b3
    (refine wp_region_mix (fun _ => True) 6 (by kernel_rfl) (by kernel_rfl) (trivial) ?_; simp only [List.take_succ_cons, List.take_zero, List.drop_succ_cons, List.drop_zero])
    (refine wpMix_earlyN 6 (by kernel_rfl) (by kernel_rfl) ?_; simp only [List.take_succ_cons, List.take_zero, List.drop_succ_cons, List.drop_zero]; (repeat (go_big_quiet_step (fail))); refine wpQuiet_nil ?_)
    refine wpMix_nil ?_
    have hFd := (Fr.refl (fun _ => False) w1).drew
    have hE2 := hE1.fr0 hFd
    have hB2 := hB1.fr hFd (fun h => h)
    have hFw2 := hFw1.trans hFd
    have HNT := hE2.nets
    have HIJ := Lib.hid (hE2.inj hq)
    have HNK := Lib.hid (nkey ⟨a, n⟩ hq)
    rcases mget_entL hE2.ap ⟨a, n⟩ with ⟨hg, hno⟩ | ⟨x, hx, hxk, hg⟩
    · have HG := Lib.hid hg
      have HNO := Lib.hid hno
      have hNK : ¬ hasK E ⟨a, n⟩ := fun ⟨x, hx, e⟩ => hno x hx e
      have HNH := Lib.hid hNK
      clear hg hno hNK hFd hE1 hB1 hFw1
      go_wp2_with (at_lookup; refine wpList_lookL rfl _ _ 78 rfl 43 129 keyedN Try.underlying78 zeroPE bn (entL E) kln rfl HNT _ ⟨a, n⟩ rfl HNK.out HIJ.out ?_; rw [HG.out])
      clear e0 e1 b0 b1 b2 b3 l0 l1
      have e0 := hE2.blk.cell 0
      have e1 := hE2.blk.cell 1
      have b0 := hB2.cell 0
      have b1 := hB2.cell 1
      have b2 := hB2.cell 2
      have b3 := hB2.cell 3
      have l0 := hE2.blk.lt
      have l1 := hB2.lt
      simp only [List.getElem?_cons_succ, List.getElem?_cons_zero] at e0 e1 b0 b1 b2 b3
      by_cases hfull : E.length = 64
      · have hY := Lib.hid (hX.out.trans (if_pos ⟨HNH.out, hfull⟩))
        have hll : (entL E).length = 64 := by rw [entL_length]; exact hfull
        have hln := lenL_run HNT Try.underlying78 3
        rw [hll] at hln
        clear hfull hll
        go_wp2_with (fail)
        rw [hln]
        go_wp2
        go_ret
        exact RetSet.err hY.out rfl hFw2
      · have hY := Lib.hid (hX.out.trans (if_neg (fun h => hfull h.2)))
        obtain ⟨L, hL⟩ : ∃ L, L = (entL E).length := ⟨_, rfl⟩
        have hLL : L ≠ 64 := by rw [hL, entL_length]; exact hfull
        have hL6 : L ≤ 64 := by rw [hL, entL_length]; exact h64
        have eL : ((L : Int) == 64) = false := by simp; omega
        have HLL := Lib.hid hL
        have hln := lenL_run HNT Try.underlying78 3
        rw [← hL] at hln
        clear hfull hL hLL
        go_wp2_with (fail)
        rw [hln]
        go_wp2_with (fail)
        have hmm := @run_makeMap Try.prog
        refine (chosen0_any a n _).mono ?_
        rintro e3' w3 ⟨rfl, hF3⟩
        have hE3 := hE2.fr0 hF3
        have hB3 := hB2.fr hF3 (fun h => h)
        have hFw3 := hFw2.trans hF3
        clear hE2 hB2 hF3 hFw2 HNT hln e0 e1 b0 b1 b2 b3 l0 l1
        have hFa := (((Fr.refl (fun _ => False) w3).alloc (.cells #[.int .u32 a, .int .i64 n, .int .i64 16, .slice none 0 0] 50)).alloc (.map #[] 0)).alloc (.cells #[.map (some (w3.heap.size + 1)), .int .u32 a, .int .i64 n, .int .i64 16, .slice none 0 0, .int .u32 a, .int .i64 n, .int .i64 16, .slice none 0 0] 131)
        have k7 := ((Blk.made w3 50 [.int .u32 a, .int .i64 n, .int .i64 16, .slice none 0 0]).alloc (.map #[] 0))
        have kT := (MapL.made (w3.alloc (.cells #[.int .u32 a, .int .i64 n, .int .i64 16, .slice none 0 0] 50)) Try.prog 3 kli)
        rw [show (w3.alloc (.cells #[.int .u32 a, .int .i64 n, .int .i64 16, .slice none 0 0] 50)).heap.size = w3.heap.size + 1 by simp] at kT
        have kT2 := kT.fr (S := fun _ => False) ((Fr.refl _ _).alloc (.cells #[.map (some (w3.heap.size + 1)), .int .u32 a, .int .i64 n, .int .i64 16, .slice none 0 0, .int .u32 a, .int .i64 n, .int .i64 16, .slice none 0 0] 131)) (fun h => h)
        have kX := Blk.made ((w3.alloc (.cells #[.int .u32 a, .int .i64 n, .int .i64 16, .slice none 0 0] 50)).alloc (.map #[] 0)) 131 [.map (some (w3.heap.size + 1)), .int .u32 a, .int .i64 n, .int .i64 16, .slice none 0 0, .int .u32 a, .int .i64 n, .int .i64 16, .slice none 0 0]
        rw [show ((w3.alloc (.cells #[.int .u32 a, .int .i64 n, .int .i64 16, .slice none 0 0] 50)).alloc (.map #[] 0)).heap.size = w3.heap.size + 2 by simp] at kX
        have z0 := k7.cell 0
        have z1 := k7.cell 1
        have z2 := k7.cell 2
        have z3 := k7.cell 3
        have hz := k7.lt
        simp only [List.getElem?_cons_succ, List.getElem?_cons_zero] at z0 z1 z2 z3
        have K7 := Lib.hid k7
        have KT := Lib.hid kT2
        have KX := Lib.hid kX
        have HFA := Lib.hid hFa
        clear k7 kT kT2 kX hFa
        go_wp2
        generalize (((w3.alloc (.cells #[.int .u32 a, .int .i64 n, .int .i64 16, .slice none 0 0] 50)).alloc (.map #[] 0)).alloc (.cells #[.map (some (w3.heap.size + 1)), .int .u32 a, .int .i64 n, .int .i64 16, .slice none 0 0, .int .u32 a, .int .i64 n, .int .i64 16, .slice none 0 0] 131)) = W4 at *
        clear z0 z1 z2 z3 hz K7
        have hE4 := hE3.fr0 HFA.out
        have hB4 := hB3.fr HFA.out (fun h => h)
        have e0 := hE4.blk.cell 0
        have e1 := hE4.blk.cell 1
        have b0 := hB4.cell 0
        have b1 := hB4.cell 1
        have b2 := hB4.cell 2
        have b3 := hB4.cell 3
        have l0 := hE4.blk.lt
        have l1 := hB4.lt
        simp only [List.getElem?_cons_succ, List.getElem?_cons_zero] at e0 e1 b0 b1 b2 b3
        have HNT := hE4.nets.fr (S := fun _ => False) ((Fr.refl _ _).drew) (fun h => h)
        have HLM := Lib.hid (show (entL E).length < maxLen by rw [entL_length]; unfold maxLen; omega)
        (refine wp_region_mix (fun _ => True) 7 (by kernel_rfl) (by kernel_rfl) (trivial) ?_; simp only [List.take_succ_cons, List.take_zero, List.drop_succ_cons, List.drop_zero])
        (refine wpMix_earlyN 7 (by kernel_rfl) (by kernel_rfl) ?_; simp only [List.take_succ_cons, List.take_zero, List.drop_succ_cons, List.drop_zero]; (repeat (go_big_quiet_step (fail))); refine wpQuiet_nil ?_)
        refine wpMix_nil ?_
        go_wp2_with (at_mapUpdate; refine wpList_mput rfl _ _ _ 78 rfl 43 129 keyedN Try.underlying78 bn (entL E) kln rfl HNT HLM.out _ _ ⟨a, n⟩ rfl rfl HNK.out HIJ.out ?_)
        intro w5 hM5 hF5 hS5
        have hFm := (Fr.refl (fun k => k = bn) W4).drew.trans hF5
        have hF35 : Fr (fun k => k = bn) w3 w5 := (HFA.out.mono (fun _ _ h => h.elim)).trans hFm
        have hbn := hE4.lt _ hE4.uN
        have hbn3 := hE3.lt _ hE3.uN
        have hsz5 := hF35.size
        have hA := hE3.add HQ.out HNO.out (b := w3.heap.size + 2) (t := w3.heap.size + 1) (by omega) (by omega) (by omega) hF35 (KX.out.fr hFm (by omega)) (KT.out.fr hFm (by omega)) hM5
        have hB5 := hB4.fr hFm (fun e => HUU.out _ hE3.uN e.symm)
        have hx : (⟨⟨a, n⟩, w3.heap.size + 2, w3.heap.size + 1, none, 0, 16, [], none, 0⟩ : Ent) ∈ (⟨⟨a, n⟩, w3.heap.size + 2, w3.heap.size + 1, none, 0, 16, [], none, 0⟩ : Ent) :: E := List.mem_cons_self ..
        have hFw5 : Fr U w w5 := (hFw3.mono (fun _ _ h => h.elim)).trans (hF35.mono (fun k _ e => by rw [e]; exact hE3.uN))
        have hUw : ∀ k, (U k ∨ (w3.heap.size ≤ k ∧ k < w5.heap.size)) → U k ∨ (w.heap.size ≤ k ∧ k < w5.heap.size) := fun k hk => by have := hFw3.size; rcases hk with h | h; exact .inl h; exact .inr (by omega)
        have hFUU : ∀ k, (U k ∨ (w3.heap.size ≤ k ∧ k < w5.heap.size)) → k < w.heap.size → U k := fun k hk hl => by have := hFw3.size; rcases hk with h | h; exact h; omega
        have HKEY := Lib.hid (show keysE E ⟨a, n⟩ = (⟨a, n⟩ : Nt) :: E.map (·.key) from if_neg HNH.out)
        have HSH := Lib.hid (show ∀ q, shownE ((⟨⟨a, n⟩, w3.heap.size + 2, w3.heap.size + 1, none, 0, 16, [], none, 0⟩ : Ent) :: E) q = shownE E q from fun q => by
          rw [shownE_cons]
          split
          · rename_i e
            have e2 : (⟨a, n⟩ : Nt) = q := e
            rw [← e2, shownE_none HNO.out]
          · rfl)
        have hnbox : w3.heap.size + 2 ≠ w.heap.size ∧ w3.heap.size + 1 ≠ w.heap.size := by have := hFw3.size; omega
        clear e0 e1 b0 b1 b2 b3 l0 l1 hM5 hF5 hS5 hFm hF35 hbn hbn3 hsz5 HNT HLM hE4 hB4 hE3 hB3 hFw3 HFA KX KT eL hL6 HLL
        obtain ⟨x, hxe⟩ : ∃ x : Ent, x = ⟨⟨a, n⟩, w3.heap.size + 2, w3.heap.size + 1, none, 0, 16, [], none, 0⟩ := ⟨_, rfl⟩
        have hxb : w3.heap.size + 2 = x.b := by rw [hxe]
        rw [hxb]
        rw [← hxe] at hA hx
        have HXK : Hid (x.key = ⟨a, n⟩) := Lib.hid (by rw [hxe])
        have HSH2 : Hid (∀ q, shownE (x :: E) q = shownE E q) := Lib.hid (by rw [hxe]; exact HSH.out)
        have hnb : x.b ≠ w.heap.size ∧ x.t ≠ w.heap.size := by rw [hxe]; exact hnbox
        have HNB := Lib.hid (show w.heap.size ≠ x.b ∧ w.heap.size ≠ x.t from ⟨fun e => hnb.1 e.symm, fun e => hnb.2 e.symm⟩)
        have HTX := Lib.hid (show toldL all x.key.a x.key.n = toldL all a n by rw [HXK.out])
        clear hxe hxb hnbox hnb HSH
        go_wp2

        have hx0 := hA.ents _ hx
        have e0 := hA.blk.cell 0
        have e1 := hA.blk.cell 1
        have b0 := hB5.cell 0
        have b1 := hB5.cell 1
        have b2 := hB5.cell 2
        have b3 := hB5.cell 3
        have x0 := hx0.blk.cell 0
        have l0 := hA.blk.lt
        have l1 := hB5.lt
        have l2 := hx0.blk.lt
        simp only [entC, List.getElem?_cons_succ, List.getElem?_cons_zero] at e0 e1 b0 b1 b2 b3 x0
        have HM := hx0.told.fr (S := fun _ => False) ((Fr.refl _ _).drew) (fun h => h)
        rw [HTX.out] at HM
        have HLM := Lib.hid (show (toldL all a n).length < maxLen by have := toldL_len all a n; unfold maxLen; omega)
        have HTK := Lib.hid (ikey HFW.out)
        have HTI := Lib.hid (show ∀ p ∈ toldL all a n, kli p.1 = kli f → p.1 = f from fun _ _ e => kli_inj e)
        (refine wp_region_mix (fun _ => True) 8 (by kernel_rfl) (by kernel_rfl) (trivial) ?_; simp only [List.take_succ_cons, List.take_zero, List.drop_succ_cons, List.drop_zero])
        (refine wpMix_earlyN 8 (by kernel_rfl) (by kernel_rfl) ?_; simp only [List.take_succ_cons, List.take_zero, List.drop_succ_cons, List.drop_zero]; (repeat (go_big_quiet_step (fail))); refine wpQuiet_nil ?_)
        refine wpMix_nil ?_
        go_wp2_with (at_mapUpdate; refine wpList_mput rfl _ _ _ 89 rfl 3 3 keyedI Try.underlying89 _ (toldL all a n) kli rfl HM HLM.out _ _ f rfl rfl HTK.out HTI.out ?_)
        intro w6 hM6 hF6 hS6
        have hFt := (Fr.refl (fun k => k = x.t) w5).drew.trans hF6
        have hxt := hA.apE _ hx
        have hown := hx0.own
        have hux := hx0.uB
        have hut := hx0.uT
        have hbx6 := hx0.blk.fr hFt hown
        have heb6 := hA.blk.fr hFt (fun e => hxt.2.2.1 e.symm)
        have hct6 := hA.cost.fr hFt (fun b off e s => (hA.apC b off e).2 (.inr (.inr ⟨_, hx, .inr s⟩)))
        have hB6 := hB5.fr hFt (HNB.out.2)
        have hM6' : MapL w6 Try.prog 3 kli x.t (toldL (all ++ [⟨f, a, n, m⟩]) a n) := by rw [toldL_snoc, if_pos ⟨rfl, rfl⟩]; exact hM6
        have hob : ∀ hh ∈ all ++ [⟨f, a, n, m⟩], 1 ≤ hh.m ∧ hh.m ≤ 16 := fun hh hm => by
          rcases List.mem_append.1 hm with hm | hm
          · exact (heardE_ok (hA.ok hh hm)).2.2.2
          · rw [List.mem_singleton.1 hm]; exact (heardE_ok HH.out).2.2.2
        have HOB := Lib.hid hob
        have HXE := Lib.hid hx0
        clear e0 e1 b0 b1 b2 b3 l0 l1 l2 x0 HM HLM hF6 hS6 hx0 hob
        have e0 := heb6.cell 0
        have e1 := heb6.cell 1
        have b0 := hB6.cell 0
        have b1 := hB6.cell 1
        have b2 := hB6.cell 2
        have b3 := hB6.cell 3
        have x0 := hbx6.cell 0
        have l0 := heb6.lt
        have l1 := hB6.lt
        have l2 := hbx6.lt
        simp only [entC, List.getElem?_cons_succ, List.getElem?_cons_zero] at e0 e1 b0 b1 b2 b3 x0
        have hcall := chosen_any a n costs ac cc x.t _ (fun i => lastO (all ++ [⟨f, a, n, m⟩]) i a n) w6.drew (hct6.fr0 (Fr.refl (fun _ => False) w6).drew (fun _ _ h => h)) rfl hn8 HCB.out (hM6'.fr (Fr.refl (fun _ => False) w6).drew (fun h => h)) (fun i => toldL_get _ a n i) (fun i m h => lastO_bd HOB.out h)
        obtain ⟨M, hM⟩ : ∃ M, M = bestM (all ++ [⟨f, a, n, m⟩]) costs a n := ⟨_, rfl⟩
        rw [show chK (fun i => lastO (all ++ [⟨f, a, n, m⟩]) i a n) costs costs.length = M from hM.symm] at hcall
        have HMM := Lib.hid hM
        obtain ⟨sm, sh⟩ := M
        clear hM
        go_wp2
        (refine wp_region_mix (AnyW) 12 (by kernel_rfl) (by kernel_rfl) (AnyW.mk _) ?_; simp only [List.take_succ_cons, List.take_zero, List.drop_succ_cons, List.drop_zero])
        (refine wpMix_lateN 1 (AnyW.mk _) (by kernel_rfl) ?_; simp only [List.take_succ_cons, List.take_zero, List.drop_succ_cons, List.drop_zero]; (repeat (go_big_quiet_step (fail))); refine wpQuiet_nil ?_)
        (refine wpMix_earlyN 10 (by kernel_rfl) (by kernel_rfl) ?_; simp only [List.take_succ_cons, List.take_zero, List.drop_succ_cons, List.drop_zero]; (repeat (go_big_quiet_step (fail))); refine wpQuiet_nil ?_)
        refine wpMix_eff (by kernel_rfl) ?_
        go_wp2_with (fail)
        refine hcall.mono ?_
        rintro e7 w7 ⟨a7, c7, ob7, rfl, hO7, hF7, hN7⟩
        simp only at hO7
        have hF67 : Fr (fun _ => False) w6 w7 := (Fr.refl _ w6).drew.trans hF7
        have hb7 := hbx6.fr hF67 (fun h => h)
        have hBs := (((hb7.set 1 (.int .u32 a)).set 2 (.int .i64 n)).set 3 (.int .i64 sm)).set 4 (.slice a7 sh.length c7)
        have hFs : Fr (fun k => k = x.b) w7 ((((w7.setCell ⟨x.b, 1, none⟩ (.int .u32 a)).setCell ⟨x.b, 2, none⟩ (.int .i64 n)).setCell ⟨x.b, 3, none⟩ (.int .i64 sm)).setCell ⟨x.b, 4, none⟩ (.slice a7 sh.length c7)) :=
          ((((Fr.refl (fun k => k = x.b) w7).setCell (p := ⟨x.b, 1, none⟩) (fun _ => rfl) _).setCell (p := ⟨x.b, 2, none⟩) (fun _ => rfl) _).setCell (p := ⟨x.b, 3, none⟩) (fun _ => rfl) _).setCell (p := ⟨x.b, 4, none⟩) (fun _ => rfl) _
        have y1 := hb7.cell 1
        have y2 := hb7.cell 2
        have y3 := hb7.cell 3
        have y4 := hb7.cell 4
        have v1 := hb7.frozen 1
        have v2 := hb7.frozen 2
        have v3 := hb7.frozen 3
        have v4 := hb7.frozen 4
        have l7 := hb7.lt
        simp only [entC, List.getElem?_cons_succ, List.getElem?_cons_zero] at y1 y2 y3 y4
        have hxb7 : x.b < w.heap.size → U x.b := fun hl => hFUU _ hux hl
        have hfin : ∃ E', Eng (usesN U w ((((w7.setCell ⟨x.b, 1, none⟩ (.int .u32 a)).setCell ⟨x.b, 2, none⟩ (.int .i64 n)).setCell ⟨x.b, 3, none⟩ (.int .i64 sm)).setCell ⟨x.b, 4, none⟩ (.slice a7 sh.length c7))) ((((w7.setCell ⟨x.b, 1, none⟩ (.int .u32 a)).setCell ⟨x.b, 2, none⟩ (.int .i64 n)).setCell ⟨x.b, 3, none⟩ (.int .i64 sm)).setCell ⟨x.b, 4, none⟩ (.slice a7 sh.length c7)) be bn costs (all ++ [⟨f, a, n, m⟩]) E' ac cc ∧ E'.map (·.key) = keysE E ⟨a, n⟩ ∧ ∀ q, shownE E' q = shownE E q := by
          have hFt7 := (hFt.mono (T := fun k => k = x.b ∨ k = x.t) (fun _ _ e => .inr e)).trans ((hF67.mono (T := fun k => k = x.b ∨ k = x.t) (fun _ _ h => h.elim)).trans (hFs.mono (fun _ _ e => .inl e)))
          have hs7 := hF67.size
          have hst := hFt.size
          have hsd : ((((w7.setCell ⟨x.b, 1, none⟩ (.int .u32 a)).setCell ⟨x.b, 2, none⟩ (.int .i64 n)).setCell ⟨x.b, 3, none⟩ (.int .i64 sm)).setCell ⟨x.b, 4, none⟩ (.slice a7 sh.length c7)).heap.size = w7.heap.size := by simp
          have hkk : x.key = ⟨a, n⟩ := HXK.out
          have hp := hA.put hx (hh := ⟨f, a, n, m⟩) hkk HH.out (a' := a7) (c' := c7) hFt7 ?_ (((hM6.fr hF67 (fun h => h)).fr hFs (fun e => hown e.symm))) ?_ ?_
          · refine ⟨_, hp.wide (fun k hk => ?_) (fun k hk => ?_), ?_, ?_⟩
            · rw [hsd] at hk
              show U k ∨ _
              rw [hsd]
              rcases hk with hk | hk
              · rcases hUw k hk with h | h
                · exact .inl h
                · exact .inr (by omega)
              · have hw5 := hFw5.size
                exact .inr (by omega)
            · rcases hk with hk | hk
              · have := hFw5.size
                have hl : k < w.heap.size := HLT.out k hk
                rw [hsd]; omega
              · exact hk.2
            · rw [upd_keys (x := x) (by rfl), HKEY.out]
              exact congrArg (· :: E.map (·.key)) HXK.out
            · intro q
              rw [shownE_upd (x := x) (by rfl) (by rfl) (hA.key_one hx)]
              exact HSH2.out q
          · refine hBs.eq ?_
            simp only [entC, hkk, ← HMM.out, List.set_cons_succ, List.set_cons_zero]
          · rw [← HMM.out]
            exact (hO7.rd.fr hFs (fun b off e s => by
              rcases hO7.is with ⟨q, _⟩ | ⟨g, _, q, q2, _⟩
              · rw [q] at e; cases e
              · rw [q] at e; cases e
                have h1 := hN7 _ q2
                have h2 : b = x.b := s
                have h3 : x.b < w6.heap.size := l2
                have h4 : w6.drew.heap.size = w6.heap.size := rfl
                omega))
          · intro b off e
            rcases hO7.is with ⟨q, _⟩ | ⟨g, _, q, q2, _⟩
            · rw [q] at e; cases e
            · rw [q] at e; cases e
              have h1 := hN7 _ q2
              have h2 := hO7.lt _ q2
              have h4 : w6.drew.heap.size = w6.heap.size := rfl
              rw [hsd]; omega
        have HFIN := Lib.hid hfin
        have hFfin : Fr U w ((((w7.setCell ⟨x.b, 1, none⟩ (.int .u32 a)).setCell ⟨x.b, 2, none⟩ (.int .i64 n)).setCell ⟨x.b, 3, none⟩ (.int .i64 sm)).setCell ⟨x.b, 4, none⟩ (.slice a7 sh.length c7)) :=
          ((hFw5.trans' hFt (fun k hk e => hFUU _ (by rw [show k = x.t from e]; exact hut) hk)).trans (hF67.mono (fun _ _ h => h.elim))).trans' hFs (fun k hk e => hFUU _ (by rw [show k = x.b from e]; exact hux) hk)
        have HFF := Lib.hid hFfin
        clear hfin hFfin hBs hFs hb7 hF67 hO7 hN7 hF7 hcall hbx6 heb6 hct6 hB6 hM6 hM6' e0 e1 b0 b1 b2 b3 l0 l1 l2 x0 hFt
        go_wp2
        first | refine ⟨AnyW.mk _, ?_⟩ | refine ⟨rfl, rfl, AnyW.mk _, ?_⟩
        refine wpMix_nil ?_
        go_wp2
        go_ret
        obtain ⟨E', h1, h2, h3⟩ := HFIN.out
        exact RetSet.ok hY.out rfl HFF.out h1 h2 h3
    · have hHK : hasK E ⟨a, n⟩ := ⟨x, hx, hxk⟩
      have HHK := Lib.hid hHK
      have HG := Lib.hid hg
      have hY := Lib.hid (hX.out.trans (if_neg (fun h => h.1 hHK)))
      have HXK := Lib.hid hxk
      clear hg hxk hHK hFd hE1 hB1 hFw1
      go_wp2_with (at_lookup; refine wpList_lookL rfl _ _ 78 rfl 43 129 keyedN Try.underlying78 zeroPE bn (entL E) kln rfl HNT _ ⟨a, n⟩ rfl HNK.out HIJ.out ?_; rw [HG.out])
      have hFw5 : Fr U w w1.drew := hFw2.mono (fun _ _ h => h.elim)
      have HKEY := Lib.hid (show keysE E ⟨a, n⟩ = E.map (·.key) from if_pos HHK.out)
      clear e0 e1 b0 b1 b2 b3 l0 l1 hFw2 HNT
      have HNB := Lib.hid (show w.heap.size ≠ x.b ∧ w.heap.size ≠ x.t from ⟨fun e => HUU.out _ (hE2.ents x hx).uB e.symm, fun e => HUU.out _ (hE2.ents x hx).uT e.symm⟩)
      have HTX := Lib.hid (show toldL all x.key.a x.key.n = toldL all a n by rw [HXK.out])
      have hUw : ∀ k, U k → U k ∨ (w.heap.size ≤ k ∧ k < w1.drew.heap.size) := fun k hk => .inl hk
      have hFUU : ∀ k, U k → k < w.heap.size → U k := fun k hk _ => hk

      have hx0 := hE2.ents _ hx
      have e0 := hE2.blk.cell 0
      have e1 := hE2.blk.cell 1
      have b0 := hB2.cell 0
      have b1 := hB2.cell 1
      have b2 := hB2.cell 2
      have b3 := hB2.cell 3
      have x0 := hx0.blk.cell 0
      have l0 := hE2.blk.lt
      have l1 := hB2.lt
      have l2 := hx0.blk.lt
      simp only [entC, List.getElem?_cons_succ, List.getElem?_cons_zero] at e0 e1 b0 b1 b2 b3 x0
      have HM := hx0.told.fr (S := fun _ => False) ((Fr.refl _ _).drew) (fun h => h)
      rw [HTX.out] at HM
      have HLM := Lib.hid (show (toldL all a n).length < maxLen by have := toldL_len all a n; unfold maxLen; omega)
      have HTK := Lib.hid (ikey HFW.out)
      have HTI := Lib.hid (show ∀ p ∈ toldL all a n, kli p.1 = kli f → p.1 = f from fun _ _ e => kli_inj e)
      (refine wp_region_mix (fun _ => True) 8 (by kernel_rfl) (by kernel_rfl) (trivial) ?_; simp only [List.take_succ_cons, List.take_zero, List.drop_succ_cons, List.drop_zero])
      (refine wpMix_earlyN 8 (by kernel_rfl) (by kernel_rfl) ?_; simp only [List.take_succ_cons, List.take_zero, List.drop_succ_cons, List.drop_zero]; (repeat (go_big_quiet_step (fail))); refine wpQuiet_nil ?_)
      refine wpMix_nil ?_
      go_wp2_with (at_mapUpdate; refine wpList_mput rfl _ _ _ 89 rfl 3 3 keyedI Try.underlying89 _ (toldL all a n) kli rfl HM HLM.out _ _ f rfl rfl HTK.out HTI.out ?_)
      intro w6 hM6 hF6 hS6
      have hFt := (Fr.refl (fun k => k = x.t) w1.drew).drew.trans hF6
      have hxt := hE2.apE _ hx
      have hown := hx0.own
      have hux := hx0.uB
      have hut := hx0.uT
      have hbx6 := hx0.blk.fr hFt hown
      have heb6 := hE2.blk.fr hFt (fun e => hxt.2.2.1 e.symm)
      have hct6 := hE2.cost.fr hFt (fun b off e s => (hE2.apC b off e).2 (.inr (.inr ⟨_, hx, .inr s⟩)))
      have hB6 := hB2.fr hFt (HNB.out.2)
      have hM6' : MapL w6 Try.prog 3 kli x.t (toldL (all ++ [⟨f, a, n, m⟩]) a n) := by rw [toldL_snoc, if_pos ⟨rfl, rfl⟩]; exact hM6
      have hob : ∀ hh ∈ all ++ [⟨f, a, n, m⟩], 1 ≤ hh.m ∧ hh.m ≤ 16 := fun hh hm => by
        rcases List.mem_append.1 hm with hm | hm
        · exact (heardE_ok (hE2.ok hh hm)).2.2.2
        · rw [List.mem_singleton.1 hm]; exact (heardE_ok HH.out).2.2.2
      have HOB := Lib.hid hob
      have HXE := Lib.hid hx0
      clear e0 e1 b0 b1 b2 b3 l0 l1 l2 x0 HM HLM hF6 hS6 hx0 hob
      have e0 := heb6.cell 0
      have e1 := heb6.cell 1
      have b0 := hB6.cell 0
      have b1 := hB6.cell 1
      have b2 := hB6.cell 2
      have b3 := hB6.cell 3
      have x0 := hbx6.cell 0
      have l0 := heb6.lt
      have l1 := hB6.lt
      have l2 := hbx6.lt
      simp only [entC, List.getElem?_cons_succ, List.getElem?_cons_zero] at e0 e1 b0 b1 b2 b3 x0
      have hcall := chosen_any a n costs ac cc x.t _ (fun i => lastO (all ++ [⟨f, a, n, m⟩]) i a n) w6.drew (hct6.fr0 (Fr.refl (fun _ => False) w6).drew (fun _ _ h => h)) rfl hn8 HCB.out (hM6'.fr (Fr.refl (fun _ => False) w6).drew (fun h => h)) (fun i => toldL_get _ a n i) (fun i m h => lastO_bd HOB.out h)
      obtain ⟨M, hM⟩ : ∃ M, M = bestM (all ++ [⟨f, a, n, m⟩]) costs a n := ⟨_, rfl⟩
      rw [show chK (fun i => lastO (all ++ [⟨f, a, n, m⟩]) i a n) costs costs.length = M from hM.symm] at hcall
      have HMM := Lib.hid hM
      obtain ⟨sm, sh⟩ := M
      clear hM
      go_wp2
      (refine wp_region_mix (AnyW) 12 (by kernel_rfl) (by kernel_rfl) (AnyW.mk _) ?_; simp only [List.take_succ_cons, List.take_zero, List.drop_succ_cons, List.drop_zero])
      (refine wpMix_lateN 1 (AnyW.mk _) (by kernel_rfl) ?_; simp only [List.take_succ_cons, List.take_zero, List.drop_succ_cons, List.drop_zero]; (repeat (go_big_quiet_step (fail))); refine wpQuiet_nil ?_)
      (refine wpMix_earlyN 10 (by kernel_rfl) (by kernel_rfl) ?_; simp only [List.take_succ_cons, List.take_zero, List.drop_succ_cons, List.drop_zero]; (repeat (go_big_quiet_step (fail))); refine wpQuiet_nil ?_)
      refine wpMix_eff (by kernel_rfl) ?_
      go_wp2_with (fail)
      refine hcall.mono ?_
      rintro e7 w7 ⟨a7, c7, ob7, rfl, hO7, hF7, hN7⟩
      simp only at hO7
      have hF67 : Fr (fun _ => False) w6 w7 := (Fr.refl _ w6).drew.trans hF7
      have hb7 := hbx6.fr hF67 (fun h => h)
      have hBs := (((hb7.set 1 (.int .u32 a)).set 2 (.int .i64 n)).set 3 (.int .i64 sm)).set 4 (.slice a7 sh.length c7)
      have hFs : Fr (fun k => k = x.b) w7 ((((w7.setCell ⟨x.b, 1, none⟩ (.int .u32 a)).setCell ⟨x.b, 2, none⟩ (.int .i64 n)).setCell ⟨x.b, 3, none⟩ (.int .i64 sm)).setCell ⟨x.b, 4, none⟩ (.slice a7 sh.length c7)) :=
        ((((Fr.refl (fun k => k = x.b) w7).setCell (p := ⟨x.b, 1, none⟩) (fun _ => rfl) _).setCell (p := ⟨x.b, 2, none⟩) (fun _ => rfl) _).setCell (p := ⟨x.b, 3, none⟩) (fun _ => rfl) _).setCell (p := ⟨x.b, 4, none⟩) (fun _ => rfl) _
      have y1 := hb7.cell 1
      have y2 := hb7.cell 2
      have y3 := hb7.cell 3
      have y4 := hb7.cell 4
      have v1 := hb7.frozen 1
      have v2 := hb7.frozen 2
      have v3 := hb7.frozen 3
      have v4 := hb7.frozen 4
      have l7 := hb7.lt
      simp only [entC, List.getElem?_cons_succ, List.getElem?_cons_zero] at y1 y2 y3 y4
      have hxb7 : x.b < w.heap.size → U x.b := fun hl => hFUU _ hux hl
      have hfin : ∃ E', Eng (usesN U w ((((w7.setCell ⟨x.b, 1, none⟩ (.int .u32 a)).setCell ⟨x.b, 2, none⟩ (.int .i64 n)).setCell ⟨x.b, 3, none⟩ (.int .i64 sm)).setCell ⟨x.b, 4, none⟩ (.slice a7 sh.length c7))) ((((w7.setCell ⟨x.b, 1, none⟩ (.int .u32 a)).setCell ⟨x.b, 2, none⟩ (.int .i64 n)).setCell ⟨x.b, 3, none⟩ (.int .i64 sm)).setCell ⟨x.b, 4, none⟩ (.slice a7 sh.length c7)) be bn costs (all ++ [⟨f, a, n, m⟩]) E' ac cc ∧ E'.map (·.key) = keysE E ⟨a, n⟩ ∧ ∀ q, shownE E' q = shownE E q := by
        have hFt7 := (hFt.mono (T := fun k => k = x.b ∨ k = x.t) (fun _ _ e => .inr e)).trans ((hF67.mono (T := fun k => k = x.b ∨ k = x.t) (fun _ _ h => h.elim)).trans (hFs.mono (fun _ _ e => .inl e)))
        have hs7 := hF67.size
        have hst := hFt.size
        have hsd : ((((w7.setCell ⟨x.b, 1, none⟩ (.int .u32 a)).setCell ⟨x.b, 2, none⟩ (.int .i64 n)).setCell ⟨x.b, 3, none⟩ (.int .i64 sm)).setCell ⟨x.b, 4, none⟩ (.slice a7 sh.length c7)).heap.size = w7.heap.size := by simp
        have hkk : x.key = ⟨a, n⟩ := HXK.out
        have hp := hE2.put hx (hh := ⟨f, a, n, m⟩) hkk HH.out (a' := a7) (c' := c7) hFt7 ?_ (((hM6.fr hF67 (fun h => h)).fr hFs (fun e => hown e.symm))) ?_ ?_
        · refine ⟨_, hp.wide (fun k hk => ?_) (fun k hk => ?_), ?_, ?_⟩
          · rw [hsd] at hk
            show U k ∨ _
            rw [hsd]
            rcases hk with hk | hk
            · rcases hUw k hk with h | h
              · exact .inl h
              · exact .inr (by omega)
            · have hw5 := hFw5.size
              exact .inr (by omega)
          · rcases hk with hk | hk
            · have := hFw5.size
              have hl : k < w.heap.size := HLT.out k hk
              rw [hsd]; omega
            · exact hk.2
          · rw [upd_keys (x := x) (by rfl), HKEY.out]
          · intro q
            rw [shownE_upd (x := x) (by rfl) (by rfl) (hE2.key_one hx)]
        · refine hBs.eq ?_
          simp only [entC, hkk, ← HMM.out, List.set_cons_succ, List.set_cons_zero]
        · rw [← HMM.out]
          exact (hO7.rd.fr hFs (fun b off e s => by
            rcases hO7.is with ⟨q, _⟩ | ⟨g, _, q, q2, _⟩
            · rw [q] at e; cases e
            · rw [q] at e; cases e
              have h1 := hN7 _ q2
              have h2 : b = x.b := s
              have h3 : x.b < w6.heap.size := l2
              have h4 : w6.drew.heap.size = w6.heap.size := rfl
              omega))
        · intro b off e
          rcases hO7.is with ⟨q, _⟩ | ⟨g, _, q, q2, _⟩
          · rw [q] at e; cases e
          · rw [q] at e; cases e
            have h1 := hN7 _ q2
            have h2 := hO7.lt _ q2
            have h4 : w6.drew.heap.size = w6.heap.size := rfl
            rw [hsd]; omega
      have HFIN := Lib.hid hfin
      have hFfin : Fr U w ((((w7.setCell ⟨x.b, 1, none⟩ (.int .u32 a)).setCell ⟨x.b, 2, none⟩ (.int .i64 n)).setCell ⟨x.b, 3, none⟩ (.int .i64 sm)).setCell ⟨x.b, 4, none⟩ (.slice a7 sh.length c7)) :=
        ((hFw5.trans' hFt (fun k hk e => hFUU _ (by rw [show k = x.t from e]; exact hut) hk)).trans (hF67.mono (fun _ _ h => h.elim))).trans' hFs (fun k hk e => hFUU _ (by rw [show k = x.b from e]; exact hux) hk)
      have HFF := Lib.hid hFfin
      clear hfin hFfin hBs hFs hb7 hF67 hO7 hN7 hF7 hcall hbx6 heb6 hct6 hB6 hM6 hM6' e0 e1 b0 b1 b2 b3 l0 l1 l2 x0 hFt
      go_wp2
      first | refine ⟨AnyW.mk _, ?_⟩ | refine ⟨rfl, rfl, AnyW.mk _, ?_⟩
      refine wpMix_nil ?_
      go_wp2
      go_ret
      obtain ⟨E', h1, h2, h3⟩ := HFIN.out
      exact RetSet.ok hY.out rfl HFF.out h1 h2 h3
end Go.Proofs.Ytfglidaicjjpfaa
