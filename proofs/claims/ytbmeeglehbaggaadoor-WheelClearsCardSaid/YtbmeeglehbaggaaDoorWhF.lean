import Derived.Test.YtbmeeglehbaggaaDoorWhW
import Derived.Deep.CutBlock
import Derived.Deep.CutRange
import Derived.Deep.DeepCutAuto
namespace Go.Proofs.YtbmeeglehbaggaaDoor
open Go.RowKit Go.Maps

set_option maxRecDepth 100000 in
set_option maxHeartbeats 1000000 in
theorem wcheck_any (i : Int) (w : World) : Calls Tryd.prog 47 #[.int .i64 i] w (RetS w (errO (if i < 0 ∨ 64 ≤ i then some 1 else none))) := by
  by_cases h : i < 0 ∨ 64 ≤ i
  · rw [if_pos h]
    have q : i < 0 ∨ (0 ≤ i ∧ 64 ≤ i) := by omega
    clear h
    rcases q with q | ⟨q1, q2⟩
    all_goals
      go_enter Tryd.func47, Tryd.ntmps47
      go_wp2
      go_ret
      exact RetS.mk rfl rfl rfl
  · rw [if_neg h]
    have q1 : 0 ≤ i := by omega
    have q2 : i < 64 := by omega
    clear h
    go_enter Tryd.func47, Tryd.ntmps47
    go_wp2
    go_ret
    exact RetS.mk rfl rfl rfl
set_option maxRecDepth 100000 in
set_option maxHeartbeats 1000000 in
theorem wslot_any (bw a : Nat) (w : World) : Calls Tryd.prog 48 #[.pointer (some ⟨bw, 0, none⟩), .int .i64 a] w (RetS w (.pointer (some ⟨bw, a % 64 + 1, none⟩))) := by
  go_enter Tryd.func48, Tryd.ntmps48
  go_wp2
  go_ret
  exact RetS.mk (x := .pointer (some ⟨bw, 1 + a % 64, none⟩)) (by rw [Nat.add_comm]) rfl rfl
theorem whNewC (ab : Nat) : Tryd.zeroCells96.setIfInBounds 65 (.map (some ab)) = (whC 0 (fun _ => none) ab).toArray := by kernel_rfl
set_option maxRecDepth 100000 in
set_option maxHeartbeats 1000000 in
theorem wnew_any (w : World) : Calls Tryd.prog 20 #[] w (fun e w' => ∃ bw T, e = .returned (.pointer (some ⟨bw, 0, none⟩)) ∧ WhAt w' w.heap.size bw 0 (fun _ => none) T ∧ Fr (fun _ => False) w w' ∧ ∀ k, T k → w.heap.size ≤ k) := by
  have hmm := @run_makeMap Tryd.prog
  have hz := whNewC w.heap.size
  go_enter Tryd.func20, Tryd.ntmps20
  go_wp2
  go_ret
  have hF0 := ((Fr.refl (fun _ => False) w).alloc (.map #[] 0))
  have hM := MapL.made w Tryd.prog 3 wli
  have hB := Blk.made (w.alloc (.map #[] 0)) 96 (whC 0 (fun _ => none) w.heap.size)
  rw [show (w.alloc (.map #[] 0)).heap.size = w.heap.size + 1 by simp] at hB
  refine ⟨w.heap.size + 1, _, rfl, ⟨w.heap.size, [], fun _ => none, fun _ => [], ⟨hB, hM.fr (S := fun _ => False) ((Fr.refl _ _).alloc _) (fun h => h), (fun _ => rfl), (fun _ _ _ h => nomatch h), (fun _ _ _ => rfl), (fun _ _ _ => rfl), (fun _ _ _ _ _ h => nomatch h), (fun _ _ h => nomatch h), (fun _ _ _ h => nomatch h), by omega, ⟨by omega, Nat.le_refl _, (fun _ _ _ h => nomatch h)⟩, (fun _ _ h => nomatch h)⟩, fun _ => Iff.rfl⟩, hF0.alloc _, ?_⟩
  rintro k (rfl | rfl | ⟨j, -, h⟩)
  · omega
  · exact Nat.le_refl _
  · cases h

theorem IsWh.clear {w w1 w2 : World} {base bw : Nat} {now : Int} {E : Tms} {ab : Nat} {A : List (Int × Value)} {sb : Nat → Option Nat} {S : Nat → List (Int × Value)} (h : IsWh w base bw now E ab A sb S) {i a : Int} {b : Nat} (hE : E i = some a) (hb : sb (a.toNat % 64) = some b)
    (h1 : MapL w1 Tryd.prog 3 wli b (mdel (S (a.toNat % 64)) i)) (f1 : Fr (fun k => k = b) w w1) (h2 : MapL w2 Tryd.prog 3 wli ab (mdel A i)) (f2 : Fr (fun k => k = ab) w1 w2) :
    IsWh w2 base bw now (clrF E i) ab (mdel A i) sb (fun k => if k = a.toNat % 64 then mdel (S (a.toNat % 64)) i else S k) := by
  have hj : a.toNat % 64 < 64 := Nat.mod_lt _ (by decide)
  have hba : b ≠ ab := fun e => h.na _ hj (by rw [hb, e])
  have hbb := h.nb _ b hj hb
  have hab := h.nab
  refine ⟨(h.blk.fr f1 (fun e => hbb e.symm)).fr f2 (fun e => hab e.symm), h2, fun k => ?_, fun k hk c hc => ?_, fun k hk hn => ?_, fun k hk q => ?_, h.inj, h.na, h.nb, h.nab, h.lo, fun k x hx => ?_⟩
  · rw [mget_del, h.ag]
    unfold clrF
    split <;> rfl
  · by_cases e : k = a.toNat % 64
    · subst e
      rw [if_pos rfl]
      obtain rfl : b = c := Option.some.inj (hb.symm.trans hc)
      exact h1.fr f2 hba
    · rw [if_neg e]
      have hcb : c ≠ b := fun e' => e (h.inj k _ c hk hj hc (by rw [hb, e']))
      have hca : c ≠ ab := fun e' => h.na k hk (by rw [hc, e'])
      exact ((h.sm k hk c hc).fr f1 hcb).fr f2 hca
  · by_cases e : k = a.toNat % 64
    · subst e; rw [hb] at hn; cases hn
    · rw [if_neg e]; exact h.sn k hk hn
  · unfold clrF
    by_cases e : k = a.toNat % 64
    · subst e
      rw [if_pos rfl, mget_del, h.sg _ hj]
      split <;> rfl
    · rw [if_neg e, h.sg k hk]
      by_cases eq : q = i
      · subst eq
        rw [if_pos rfl, hE]
        simp only [Option.bind_some, Option.bind_none]
        rw [if_neg (fun e' => e e'.symm)]
      · rw [if_neg eq]
  · unfold clrF at hx
    split at hx
    · cases hx
    · exact h.ids k x hx
theorem IsWh.has {w : World} {base bw : Nat} {now : Int} {E : Tms} {ab : Nat} {A : List (Int × Value)} {sb : Nat → Option Nat} {S : Nat → List (Int × Value)} (h : IsWh w base bw now E ab A sb S) {i a : Int} (hE : E i = some a) : ∃ b, sb (a.toNat % 64) = some b := by
  have hj : a.toNat % 64 < 64 := Nat.mod_lt _ (by decide)
  cases hb : sb (a.toNat % 64) with
  | some b => exact ⟨b, rfl⟩
  | none =>
    have := (h.ents hj).2.1 i a hE rfl
    rw [h.sn _ hj hb] at this
    cases this
def RetClr (w : World) (base bw : Nat) (now : Int) (E : Tms) (T : Nat → Prop) (i : Int) (r : Option Int) (e : Ending) (w' : World) : Prop := match r with
  | some k => RetV w (errv k) e w'
  | none => e = .returned .nilIface ∧ WhAt w' base bw now (clrF E i) T ∧ Fr T w w'
theorem RetClr.errE {w w' : World} {base bw : Nat} {now : Int} {E : Tms} {T : Nat → Prop} {i : Int} {r : Option Int} {e : Ending} {k : Int} (h : RetClr w base bw now E T i r e w') (hr : r = some k) : RetV w (errv k) e w' := by subst hr; exact h
theorem RetClr.okE {w w' : World} {base bw : Nat} {now : Int} {E : Tms} {T : Nat → Prop} {i : Int} {r : Option Int} {e : Ending} (h : RetClr w base bw now E T i r e w') (hr : r = none) : e = .returned .nilIface ∧ WhAt w' base bw now (clrF E i) T ∧ Fr T w w' := by subst hr; exact h
theorem RetClr.err {w w' : World} {base bw : Nat} {now : Int} {E : Tms} {T : Nat → Prop} {i : Int} {r : Option Int} {e : Ending} {k : Int} (hr : r = some k) (he : e = .returned (errv k)) (hw : w = w') : RetClr w base bw now E T i r e w' := by subst hr; subst hw; exact ⟨he, Fr.refl _ _⟩
theorem RetClr.ok {w w' : World} {base bw : Nat} {now : Int} {E : Tms} {T : Nat → Prop} {i : Int} {r : Option Int} {e : Ending} (hr : r = none) (he : e = .returned .nilIface) (h : WhAt w' base bw now (clrF E i) T) (hF : Fr T w w') : RetClr w base bw now E T i r e w' := by subst hr; exact ⟨he, h, hF⟩
set_option maxRecDepth 100000 in
set_option maxHeartbeats 2000000 in
theorem wclear_any {base bw : Nat} {now : Int} {E : Tms} {T : Nat → Prop} (i : Int) (w : World) (h : WhAt w base bw now E T) (hi : (Lit.int .i64 i).wf = true) :
    Calls Tryd.prog 22 #[.pointer (some ⟨bw, 0, none⟩), .int .i64 i] w (RetClr w base bw now E T i (clrE E i)) := by
  obtain ⟨r, hr⟩ : ∃ r, r = clrE E i := ⟨_, rfl⟩
  rw [← hr]
  have HR := Lib.hid hr
  clear hr
  obtain ⟨ab, A, sb, S, h, hT⟩ := h
  have HT := Lib.hid hT
  have hck := wcheck_any i w
  have HK := Lib.hid (wkey hi)
  have HI := Lib.hid (show ∀ L : List (Int × Value), ∀ p ∈ L, wli p.1 = wli i → p.1 = i from fun _ _ _ e => wli_inj e)
  clear hT hi
  by_cases hbad : i < 0 ∨ 64 ≤ i
  · rw [if_pos hbad] at hck
    have HX := Lib.hid (HR.out.trans (show clrE E i = some 1 from if_pos hbad))
    rw [show errO (some 1) = errv 1 from rfl] at hck
    clear hbad HR
    go_enter Tryd.func22, Tryd.ntmps22
    go_wp2_with (fail)
    refine hck.mono ?_
    rintro e1 w1 ⟨rfl, rfl⟩
    go_wp2
    go_ret
    exact RetClr.err HX.out rfl rfl
  · rw [if_neg hbad] at hck
    rw [show errO none = .nilIface from rfl] at hck
    obtain ⟨-, c65, cf, bl⟩ := h.cells
    have hag := h.ag i
    cases hE : E i with
    | none =>
      have HX := Lib.hid (HR.out.trans (show clrE E i = some 2 by unfold clrE; rw [if_neg hbad, if_pos hE]))
      rw [hE] at hag
      have HAG := Lib.hid hag
      have hM := h.am
      clear hbad HR hag cf hE h
      go_enter Tryd.func22, Tryd.ntmps22
      go_wp2_with (fail)
      refine hck.mono ?_
      rintro e1 w1 ⟨rfl, rfl⟩
      clear hck
      go_wp2_with (at_lookup; refine wpList_lookL_ok rfl _ _ 93 rfl 3 3 wkeyed Tryd.underlying93 wzero ab A wli rfl hM _ i rfl HK.out (HI.out _) ?_; rw [HAG.out])
      go_ret
      exact RetClr.err HX.out rfl rfl
    | some a =>
      have HX := Lib.hid (HR.out.trans (show clrE E i = none by unfold clrE; rw [if_neg hbad, if_neg (by rw [hE]; simp)]))
      rw [hE] at hag
      obtain ⟨b, hb⟩ := h.has hE
      obtain ⟨-, ha1, ha2⟩ := h.ids i a hE
      obtain ⟨m, rfl⟩ := Int.eq_ofNat_of_zero_le (show 0 ≤ a by omega)
      have hj : m % 64 < 64 := Nat.mod_lt _ (by decide)
      have hsl := h.slot hj
      rw [Int.toNat_natCast] at hb
      rw [hb] at hsl
      have HAG := Lib.hid hag
      have hM := h.am
      have H := Lib.hid h
      have hM2 := h.sm _ hj b hb
      have HE := Lib.hid hE
      have hba : b ≠ ab := fun e => h.na _ hj (by rw [hb, e])
      have hbb := h.nb _ b hj hb
      have hab := h.nab
      clear hbad HR hag hE h
      go_enter Tryd.func22, Tryd.ntmps22
      go_wp2_with (fail)
      refine hck.mono ?_
      rintro e1 w1 ⟨rfl, rfl⟩
      clear hck
      go_wp2_with (at_lookup; refine wpList_lookL_ok rfl _ _ 93 rfl 3 3 wkeyed Tryd.underlying93 wzero ab A wli rfl hM _ i rfl HK.out (HI.out _) ?_; rw [HAG.out])
      refine (wslot_any bw m w).mono ?_
      rintro e2 w2 ⟨rfl, rfl⟩
      go_wp2_with (at_delete; refine wpList_mdel rfl _ _ 93 3 rfl 3 wkeyed Tryd.underlying93 b (S (m % 64)) wli rfl hM2 _ i rfl HK.out (HI.out _) ?_)
      intro w3 hM3 hF3 hs3
      have hA3 := hM.fr hF3 (fun e => hba e.symm)
      have c3 := (hF3.cell (p := ⟨bw, 65, none⟩) bl (fun e => hbb e.symm)).trans c65
      have bl3 : bw < w3.heap.size := Nat.lt_of_lt_of_le bl hF3.size
      clear hM hM2 c65 hsl hs3
      go_wp2_with (at_delete; refine wpList_mdel rfl _ _ 93 3 rfl 3 wkeyed Tryd.underlying93 ab A wli rfl hA3 _ i rfl HK.out (HI.out _) ?_)
      intro w4 hM4 hF4 hs4
      have hnew := H.out.clear HE.out hb hM3 hF3 hM4 hF4
      have hFT : Fr T w w4 := (hF3.mono (fun k _ e => (HT.out k).2 (.inr (.inr ⟨_, hj, by rw [hb, e]⟩)))).trans (hF4.mono (fun k _ e => (HT.out k).2 (.inr (.inl e))))
      clear hA3 c3 bl3 hM3 hM4 hF3 hF4 hs4
      go_wp2
      go_ret
      exact RetClr.ok HX.out rfl ⟨ab, _, sb, _, hnew, HT.out⟩ hFT
/-! ### Set -/
theorem IsWh.put {w w1 w2 : World} {base bw : Nat} {now : Int} {E : Tms} {ab : Nat} {A : List (Int × Value)} {sb : Nat → Option Nat} {S : Nat → List (Int × Value)} (h : IsWh w base bw now E ab A sb S) {i a : Int} {b : Nat} (hE : E i = none) (hb : sb (a.toNat % 64) = some b) (hi : 0 ≤ i ∧ i < 64) (ha : 1 ≤ a ∧ a ≤ 1099511627776)
    (h1 : MapL w1 Tryd.prog 3 wli b (mput (S (a.toNat % 64)) i (.int .i64 a))) (f1 : Fr (fun k => k = b) w w1) (h2 : MapL w2 Tryd.prog 3 wli ab (mput A i (.int .i64 a))) (f2 : Fr (fun k => k = ab) w1 w2) :
    IsWh w2 base bw now (setF E i a) ab (mput A i (.int .i64 a)) sb (fun k => if k = a.toNat % 64 then mput (S (a.toNat % 64)) i (.int .i64 a) else S k) := by
  have hj : a.toNat % 64 < 64 := Nat.mod_lt _ (by decide)
  have hba : b ≠ ab := fun e => h.na _ hj (by rw [hb, e])
  have hbb := h.nb _ b hj hb
  have hab := h.nab
  refine ⟨(h.blk.fr f1 (fun e => hbb e.symm)).fr f2 (fun e => hab e.symm), h2, fun k => ?_, fun k hk c hc => ?_, fun k hk hn => ?_, fun k hk q => ?_, h.inj, h.na, h.nb, h.nab, h.lo, fun k x hx => ?_⟩
  · rw [mget_put, h.ag]
    unfold setF
    split <;> rfl
  · by_cases e : k = a.toNat % 64
    · subst e
      rw [if_pos rfl]
      obtain rfl : b = c := Option.some.inj (hb.symm.trans hc)
      exact h1.fr f2 hba
    · rw [if_neg e]
      have hcb : c ≠ b := fun e' => e (h.inj k _ c hk hj hc (by rw [hb, e']))
      have hca : c ≠ ab := fun e' => h.na k hk (by rw [hc, e'])
      exact ((h.sm k hk c hc).fr f1 hcb).fr f2 hca
  · by_cases e : k = a.toNat % 64
    · subst e; rw [hb] at hn; cases hn
    · rw [if_neg e]; exact h.sn k hk hn
  · unfold setF
    by_cases e : k = a.toNat % 64
    · subst e
      rw [if_pos rfl, mget_put, h.sg _ hj]
      split
      · simp
      · rfl
    · rw [if_neg e, h.sg k hk]
      by_cases eq : q = i
      · subst eq
        rw [if_pos rfl, hE]
        simp only [Option.bind_some, Option.bind_none]
        rw [if_neg (fun e' => e e'.symm)]
      · rw [if_neg eq]
  · unfold setF at hx
    split at hx
    · rename_i e
      cases hx
      exact ⟨by rw [e]; exact hi, ha⟩
    · exact h.ids k x hx
/-- A slot that had no map gets one. -/
theorem IsWh.grow {w w1 : World} {base bw : Nat} {now : Int} {E : Tms} {ab : Nat} {A : List (Int × Value)} {sb : Nat → Option Nat} {S : Nat → List (Int × Value)} (h : IsWh w base bw now E ab A sb S) {j : Nat} (hj : j < 64) (hn : sb j = none) (hbase : base ≤ w.heap.size)
    (hw : w1 = (w.alloc (.map #[] 0)).setCell ⟨bw, j + 1, none⟩ (.map (some w.heap.size))) : IsWh w1 base bw now E ab A (updB sb j w.heap.size) S := by
  subst hw
  have hlt := h.lt
  have hB := ((h.blk.alloc (.map #[] 0)).set (j + 1) (.map (some w.heap.size)))
  rw [whC_set _ _ _ hj] at hB
  have hFs : Fr (fun k => k = bw) (w.alloc (.map #[] 0)) ((w.alloc (.map #[] 0)).setCell ⟨bw, j + 1, none⟩ (.map (some w.heap.size))) := (Fr.refl (fun k => k = bw) _).setCell (p := ⟨bw, j + 1, none⟩) (fun _ => rfl) _
  have hF : Fr (fun k => k = bw) w ((w.alloc (.map #[] 0)).setCell ⟨bw, j + 1, none⟩ (.map (some w.heap.size))) := (((Fr.refl (fun k => k = bw) w).alloc _)).trans hFs
  have hSj : S j = [] := h.sn j hj hn
  have hbl := hlt bw (.inl rfl)
  have hal := hlt ab (.inr (.inl rfl))
  refine ⟨hB, h.am.fr hF (fun e => h.nab e), h.ag, fun k hk c hc => ?_, fun k hk hn' => ?_, h.sg, fun p q c hp hq h1 h2 => ?_, fun k hk e => ?_, fun k c hk hc => ?_, h.nab, ⟨h.lo.1, h.lo.2.1, fun k c hk hc => ?_⟩, h.ids⟩
  · unfold updB at hc
    split at hc
    · rename_i e
      cases hc
      subst e
      rw [hSj]
      exact (MapL.made w Tryd.prog 3 wli).fr hFs (fun e => by omega)
    · exact (h.sm k hk c hc).fr hF (h.nb k c hk hc)
  · unfold updB at hn'
    split at hn'
    · cases hn'
    · exact h.sn k hk hn'
  · unfold updB at h1 h2
    split at h1
    · rename_i e1
      split at h2
      · rename_i e2; rw [e1, e2]
      · cases h1
        have := hlt _ (.inr (.inr ⟨q, hq, h2⟩))
        omega
    · split at h2
      · cases h2
        have := hlt _ (.inr (.inr ⟨p, hp, h1⟩))
        omega
      · exact h.inj p q c hp hq h1 h2
  · unfold updB at e
    split at e
    · cases e; omega
    · exact h.na k hk e
  · unfold updB at hc
    split at hc
    · cases hc; omega
    · exact h.nb k c hk hc
  · unfold updB at hc
    split at hc
    · cases hc; exact hbase
    · exact h.lo.2.2 k c hk hc
def RetSet (w : World) (base bw : Nat) (now : Int) (E : Tms) (T : Nat → Prop) (i a : Int) (r : Option Int) (e : Ending) (w' : World) : Prop := match r with
  | some k => RetV w (errv k) e w'
  | none => e = .returned .nilIface ∧ ∃ T', WhAt w' base bw now (setF E i a) T' ∧ Fr T w w' ∧ ∀ k, T' k → T k ∨ w.heap.size ≤ k
theorem RetSet.errE {w w' : World} {base bw : Nat} {now : Int} {E : Tms} {T : Nat → Prop} {i a : Int} {r : Option Int} {e : Ending} {k : Int} (h : RetSet w base bw now E T i a r e w') (hr : r = some k) : RetV w (errv k) e w' := by subst hr; exact h
theorem RetSet.okE {w w' : World} {base bw : Nat} {now : Int} {E : Tms} {T : Nat → Prop} {i a : Int} {r : Option Int} {e : Ending} (h : RetSet w base bw now E T i a r e w') (hr : r = none) : e = .returned .nilIface ∧ ∃ T', WhAt w' base bw now (setF E i a) T' ∧ Fr T w w' ∧ ∀ k, T' k → T k ∨ w.heap.size ≤ k := by subst hr; exact h
theorem RetSet.err {w w' : World} {base bw : Nat} {now : Int} {E : Tms} {T : Nat → Prop} {i a : Int} {r : Option Int} {e : Ending} {k : Int} (hr : r = some k) (he : e = .returned (errv k)) (hw : w = w') : RetSet w base bw now E T i a r e w' := by subst hr; subst hw; exact ⟨he, Fr.refl _ _⟩
theorem RetSet.ok {w w' : World} {base bw : Nat} {now : Int} {E : Tms} {T T' : Nat → Prop} {i a : Int} {r : Option Int} {e : Ending} (hr : r = none) (he : e = .returned .nilIface) (h : WhAt w' base bw now (setF E i a) T') (hF : Fr T w w') (hT : ∀ k, T' k → T k ∨ w.heap.size ≤ k) : RetSet w base bw now E T i a r e w' := by subst hr; exact ⟨he, T', h, hF, hT⟩
theorem clr_any {base bw : Nat} {now : Int} {E : Tms} {T : Nat → Prop} {i : Int} {w w' : World} {e : Ending} (h : WhAt w base bw now E T) (hi : 0 ≤ i ∧ i < 64) (hR : RetClr w base bw now E T i (clrE E i) e w') : (∃ v, e = .returned v) ∧ WhAt w' base bw now (clrF E i) T ∧ Fr T w w' := by
  cases hr : clrE E i with
  | none => obtain ⟨rfl, h1, h2⟩ := hR.okE hr; exact ⟨⟨_, rfl⟩, h1, h2⟩
  | some k =>
    obtain ⟨rfl, hF⟩ := hR.errE hr
    have hE : E i = none := by
      unfold clrE at hr
      rw [if_neg (by omega)] at hr
      split at hr
      · assumption
      · cases hr
    exact ⟨⟨_, rfl⟩, (h.fr0 hF).congr (fun k => by unfold clrF; split <;> simp_all), hF.none _⟩
set_option maxRecDepth 100000 in
set_option maxHeartbeats 4000000 in
theorem wset_any {base bw : Nat} {E : Tms} {T : Nat → Prop} (i a : Int) (w : World) (h : WhAt w base bw 0 E T) (hi : (Lit.int .i64 i).wf = true) (hbase : base ≤ w.heap.size) :
    Calls Tryd.prog 21 #[.pointer (some ⟨bw, 0, none⟩), .int .i64 i, .int .i64 a] w (RetSet w base bw 0 E T i a (setE 0 i a)) := by
  obtain ⟨r, hr⟩ : ∃ r, r = setE 0 i a := ⟨_, rfl⟩
  rw [← hr]
  have HR := Lib.hid hr
  clear hr
  have hck := wcheck_any i w
  have HAT := Lib.hid h
  have hcl := wclear_any i w h hi
  have HK := Lib.hid (wkey hi)
  have HI := Lib.hid (show ∀ L : List (Int × Value), ∀ p ∈ L, wli p.1 = wli i → p.1 = i from fun _ _ _ e => wli_inj e)
  obtain ⟨ab, A, sb, S, h, hT⟩ := h
  obtain ⟨c0, -, -, bl⟩ := h.cells
  clear hT hi
  by_cases hbad : i < 0 ∨ 64 ≤ i ∨ a ≤ 0 ∨ 1099511627776 < a
  · have HX := Lib.hid (HR.out.trans (show setE 0 i a = some 1 from if_pos hbad))
    have q : (i < 0 ∨ 64 ≤ i) ∨ (¬ (i < 0 ∨ 64 ≤ i) ∧ a ≤ 0) ∨ (¬ (i < 0 ∨ 64 ≤ i) ∧ ¬ a ≤ 0 ∧ 1099511627776 < a) := by omega
    clear hbad HR hcl h
    rcases q with q | ⟨q, q2⟩ | ⟨q, q2, q3⟩
    · rw [if_pos q, show errO (some 1) = errv 1 from rfl] at hck
      clear q
      go_enter Tryd.func21, Tryd.ntmps21
      go_wp2_with (fail)
      refine hck.mono ?_
      rintro e1 w1 ⟨rfl, rfl⟩
      clear hck
      go_wp2
      go_ret
      exact RetSet.err HX.out rfl rfl
    · rw [if_neg q, show errO none = .nilIface from rfl] at hck
      clear q
      go_enter Tryd.func21, Tryd.ntmps21
      go_wp2_with (fail)
      refine hck.mono ?_
      rintro e1 w1 ⟨rfl, rfl⟩
      clear hck
      go_wp2
      go_ret
      exact RetSet.err HX.out rfl rfl
    · rw [if_neg q, show errO none = .nilIface from rfl] at hck
      clear q
      go_enter Tryd.func21, Tryd.ntmps21
      go_wp2_with (fail)
      refine hck.mono ?_
      rintro e1 w1 ⟨rfl, rfl⟩
      clear hck
      go_wp2
      go_ret
      exact RetSet.err HX.out rfl rfl
  · have HX := Lib.hid (HR.out.trans (show setE 0 i a = none from if_neg hbad))
    have hi1 : 0 ≤ i ∧ i < 64 := by omega
    have ha1 : 1 ≤ a ∧ a ≤ 1099511627776 := by omega
    have hq1 : ¬ a ≤ 0 := by omega
    have hq2 : ¬ 1099511627776 < a := by omega
    rw [if_neg (by omega), show errO none = .nilIface from rfl] at hck
    clear hbad HR h
    obtain ⟨m, rfl⟩ := Int.eq_ofNat_of_zero_le (show 0 ≤ a by omega)
    go_enter Tryd.func21, Tryd.ntmps21
    go_wp2_with (fail)
    refine hck.mono ?_
    rintro e1 w1 ⟨rfl, rfl⟩
    clear hck
    go_wp2_with (fail)
    refine hcl.mono ?_
    intro e2 w2 R2
    obtain ⟨⟨v2, rfl⟩, hA2, hF2⟩ := clr_any HAT.out hi1 R2
    clear hcl R2 c0 bl
    obtain ⟨ab2, A2, sb2, S2, h2, hT2⟩ := hA2
    have hj : m % 64 < 64 := Nat.mod_lt _ (by decide)
    have hsl := h2.slot hj
    have bl := h2.blk.lt
    have cf := h2.blk.frozen (m % 64 + 1)
    have hb2 : base ≤ w2.heap.size := Nat.le_trans hbase hF2.size
    obtain ⟨ob, hob⟩ : ∃ ob, ob = sb2 (m % 64) := ⟨_, rfl⟩
    rw [← hob] at hsl
    have HOB := Lib.hid hob
    have H2 := Lib.hid h2
    have HT2 := Lib.hid hT2
    have hmm := @run_makeMap Tryd.prog
    have hws := wslot_any bw m w2
    have heq : ∀ W : World, (binOp .eql 93 (.map ob) (.map none)).run Tryd.prog W = .ok (.bool (decide (ob = none))) W := fun W => by cases ob <;> kernel_rfl
    clear hob h2 hT2
    go_wp2_with (fail)
    refine hws.mono ?_
    rintro e3 w3 ⟨rfl, rfl⟩
    go_upto_if 31 with (fail)
    go_cut [30, 31] (fun s30 s31 wx => ∃ (sb3 : Nat → Option Nat) (b : Nat), IsWh wx base bw 0 (clrF E i) ab2 A2 sb3 S2 ∧ sb3 (m % 64) = some b ∧ Fr T w wx ∧ ∀ k, Whof bw ab2 sb3 k → T k ∨ w.heap.size ≤ k)
    case first =>
      cases ob with
      | none =>
        have hgrow := H2.out.grow hj HOB.out.symm hb2 rfl
        have hnew : ∀ k, Whof bw ab2 (updB sb2 (m % 64) w2.heap.size) k → T k ∨ w.heap.size ≤ k := by
          rintro k (e | e | ⟨j, hj2, e⟩)
          · exact .inl ((HT2.out k).2 (.inl e))
          · exact .inl ((HT2.out k).2 (.inr (.inl e)))
          · unfold updB at e
            split at e
            · cases e; exact .inr hF2.size
            · exact .inl ((HT2.out k).2 (.inr (.inr ⟨j, hj2, e⟩)))
        have hFg : Fr T w ((w2.alloc (.map #[] 0)).setCell ⟨bw, m % 64 + 1, none⟩ (.map (some w2.heap.size))) := (hF2.alloc _).setCell (p := ⟨bw, m % 64 + 1, none⟩) (fun _ => (HT2.out bw).2 (.inl rfl)) _
        rw [World.setCell_alloc_past _ _ _ _ (show (⟨bw, m % 64 + 1, none⟩ : Addr).block < w2.heap.size from bl)] at hgrow hFg
        have HG := Lib.hid hgrow
        have HFG := Lib.hid hFg
        clear hgrow hFg
        go_wp2_with (fail)
        refine hws.mono ?_
        rintro e3 w3 ⟨rfl, rfl⟩
        go_wp2
        go_meet
        exact ⟨_, _, HG.out, if_pos rfl, HFG.out, hnew⟩
      | some b =>
        have HB := Lib.hid HOB.out.symm
        go_wp2
        go_meet
        exact ⟨sb2, b, H2.out, HB.out, hF2, fun k hk => .inl ((HT2.out k).2 hk)⟩
    case rest =>
      obtain ⟨sb3, b, h3, hb, hF3, hN3⟩ := hcut
      have hsl := h3.slot hj
      rw [hb] at hsl
      obtain ⟨-, c65, -, bl3⟩ := h3.cells
      have hM := h3.am
      have hM2 := h3.sm _ hj b hb
      have hba : b ≠ ab2 := fun e => h3.na _ hj (by rw [hb, e])
      have hbb := h3.nb _ b hj hb
      have hl1 := h3.keys.2.2
      have hl2 := (h3.ents hj).2.2.2
      have hmx : maxLen = 9223372036854775807 := rfl
      have H3 := Lib.hid h3
      have hE3 := Lib.hid (show clrF E i i = none from if_pos rfl)
      clear hws heq hmm HOB H2 HT2 cf bl hb2 h3
      go_wp2_with (fail)
      refine (wslot_any bw m wc).mono ?_
      rintro e5 w5 ⟨rfl, rfl⟩
      go_wp2_with (at_mapUpdate; refine wpList_mput rfl _ _ _ 93 rfl 3 3 wkeyed Tryd.underlying93 b (S2 (m % 64)) wli rfl hM2 (by omega) _ _ i rfl rfl HK.out (HI.out _) ?_)
      intro w6 hM6 hF6 hs6
      have hA6 := hM.fr hF6 (fun e => hba e.symm)
      have c6 := (hF6.cell (p := ⟨bw, 65, none⟩) bl3 (fun e => hbb e.symm)).trans c65
      have bl6 : bw < w6.heap.size := Nat.lt_of_lt_of_le bl3 hF6.size
      clear hM hM2 c65 hsl hs6
      go_wp2_with (at_mapUpdate; refine wpList_mput rfl _ _ _ 93 rfl 3 3 wkeyed Tryd.underlying93 ab2 A2 wli rfl hA6 (by omega) _ _ i rfl rfl HK.out (HI.out _) ?_)
      intro w7 hM7 hF7 hs7
      have hnew := H3.out.put (a := (m : Int)) hE3.out hb hi1 ha1 hM6 hF6 hM7 hF7
      have hFT : Fr T w w7 := (hF3.trans' hF6 (fun k hk e => (hN3 k (.inr (.inr ⟨_, hj, by rw [hb, e]⟩))).resolve_right (by omega))).trans' hF7 (fun k hk e => (hN3 k (.inr (.inl e))).resolve_right (by omega))
      clear hA6 c6 bl6 hM6 hM7 hF6 hF7 hs7
      go_wp2
      go_ret
      refine RetSet.ok HX.out rfl (T' := Whof bw ab2 sb3) (WhAt.congr ⟨ab2, _, sb3, _, hnew, fun _ => Iff.rfl⟩ (fun k => ?_)) hFT hN3
      unfold setF clrF
      split <;> rfl
end Go.Proofs.YtbmeeglehbaggaaDoor
