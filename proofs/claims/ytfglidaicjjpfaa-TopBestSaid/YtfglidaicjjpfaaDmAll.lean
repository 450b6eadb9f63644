import Derived.Test.YtfglidaicjjpfaaDmNew
import Derived.Test.YtfglidaicjjpfaaSortBest
import Derived.Test.YtfglidaicjjpfaaEngSet
import Derived.Test.YtfglidaicjjpfaaNetsOf
namespace Go.Proofs.Ytfglidaicjjpfaa
open Go.RowKit Go.Maps

/-- What a rib's list says, as it was heard. -/
abbrev hdL (l : List Td) : List Hea := l.map Td.hd
theorem td_heard {N : Nat} {now : Int} {x : Td} (h : TdOk now x) (hb : x.f < N ∧ netErr x.a x.n = none) : heardE N (Td.hd x) = none := by
  unfold heardE Td.hd
  simp only
  rw [if_neg (by have := h.f0; omega), hb.2]
  simp only
  rw [if_neg (by have := h.m0; have := h.m1; omega)]
/-- The best way to a net. -/
def bestD (D : DC) (l : List Td) (q : Nt) : Int × List Int := if q ∈ D.own then (1, []) else bestM (hdL l) D.costs q.a q.n
/-- All ways, in order. -/
structure AllR (D : DC) (l : List Td) (R : List BestR) : Prop where
  srt : NSorted (R.map bnet)
  mem : ∀ q : Nt, q ∈ R.map bnet ↔ q ∈ D.own ∨ ∃ x ∈ l, (⟨x.a, x.n⟩ : Nt) = q
  val : ∀ r ∈ R, (r.m, r.h) = bestD D l (bnet r)
  len : R.length ≤ 89
def RetDAll (w : World) (D : DC) (l : List Td) (e : Ending) (w' : World) : Prop :=
  ∃ (R : List BestR) (aR : Option Addr) (cR : Nat) (ob : Option Nat), e = .returned (.slice aR R.length cR) ∧ Alls w.heap.size w'.heap R aR cR ob ∧ AllR D l R ∧ Fr (fun _ => False) w w'
/-- The first ways: those to own nets. -/
def ownR (own : List Nt) : List BestR := own.map fun x => ⟨x.a, x.n, 1, [], none, 0⟩
theorem ownR_len (own : List Nt) : (ownR own).length = own.length := by simp [ownR]
theorem ownR_net (own : List Nt) : (ownR own).map bnet = own := by unfold ownR; rw [List.map_map]; exact List.map_id' own
theorem ownR_none {own : List Nt} {r : BestR} (h : r ∈ ownR own) : r.A = none ∧ r.m = 1 ∧ r.h = [] := by
  obtain ⟨x, _, rfl⟩ := List.mem_map.1 h; exact ⟨rfl, rfl, rfl⟩
theorem Alls.frN {base : Nat} {w w' : World} {R : List BestR} {aR : Option Addr} {cR : Nat} {ob : Option Nat} {S : Nat → Prop} (h : Alls base w.heap R aR cR ob) (f : Fr S w w') (h1 : ∀ g, ob = some g → ¬ S g) (h2 : ∀ x ∈ R, ∀ b off, x.A = some ⟨b, off, none⟩ → ¬ S b) : Alls base w'.heap R aR cR ob :=
  ⟨h.own.fr f h1, h.new, fun x hx => by
    obtain ⟨o, q1, q2⟩ := h.row x hx
    refine ⟨o, q1.fr f (fun g hg hs => ?_), q2⟩
    rcases q1.is with ⟨_, _, _, e⟩ | ⟨g', _, e, e2, _⟩
    · rw [e] at hg; cases hg
    · rw [e2] at hg; cases hg; exact h2 x hx _ _ e hs, h.pw⟩
theorem hdL_snoc (l : List Td) {k : Nat} (h : k < l.length) : hdL (l.take (k + 1)) = hdL (l.take k) ++ [Td.hd (nth l k)] := by unfold hdL; rw [take_succ_nth l k h, List.map_append]; rfl
theorem fst_hd (l : List Td) (q : Nt) : q ∈ fstN (hdL l) ↔ ∃ x ∈ l, (⟨x.a, x.n⟩ : Nt) = q := by
  rw [fstN_mem]
  constructor
  · rintro ⟨y, hy, rfl⟩
    obtain ⟨x, hx, rfl⟩ := List.mem_map.1 hy
    exact ⟨x, hx, rfl⟩
  · rintro ⟨x, hx, rfl⟩
    exact ⟨Td.hd x, List.mem_map.2 ⟨x, hx, rfl⟩, rfl⟩
theorem fstN_le (l : List Hea) : (fstN l).length ≤ l.length := by
  refine snocI (P := fun l => (fstN l).length ≤ l.length) (by simp [fstN]) (fun l x ih => ?_) l
  rw [fstN_snoc]
  split <;> simp <;> omega
theorem setE_none {costs : List Int} {E : List Ent} {h : Hea} (hh : heardE costs.length h = none) (hl : E.length < 64) : setE costs E h = none := by
  unfold setE
  rw [hh]
  simp only
  rw [if_neg (by omega)]
theorem keysE_le {E E' : List Ent} {q : Nt} (h : E'.map (·.key) = keysE E q) : E'.length ≤ E.length + 1 := by
  have h1 : E'.length = (keysE E q).length := by rw [← h]; simp
  unfold keysE at h1
  split at h1 <;> simp at h1 <;> omega
theorem bestD_own {D : DC} {l : List Td} {q : Nt} (h : q ∈ D.own) : bestD D l q = (1, []) := if_pos h
theorem bestD_other {D : DC} {l : List Td} {q : Nt} (h : q ∉ D.own) : bestD D l q = bestM (hdL l) D.costs q.a q.n := if_neg h

set_option maxRecDepth 100000 in
set_option maxHeartbeats 16000000 in
theorem dall_any {base : Nat} {D : DC} {now : Int} {l : List Td} {bad : Int} (w : World) (hD : Dmn w base D now l bad) :
    Calls Try.prog 43 #[.pointer (some ⟨D.bd, 0, none⟩)] w (RetDAll w D l) := by
  obtain ⟨c0, c1, c2, -, -, cl⟩ := hD.cells
  have H := Lib.hid hD
  have h64 := hD.l64
  have hc8 := hD.c8
  have h25 := hD.o25
  have HNE := Lib.hid hD.near
  obtain ⟨ao, hao0⟩ : ∃ ao, ao = D.ao := ⟨_, rfl⟩
  rw [← hao0] at c2
  have HOWN := Lib.hid (show Recs w.heap ao 2 Nt.cells D.own by rw [hao0]; exact hD.owns)
  clear hD hao0
  go_enter Try.func43, Try.ntmps43
  go_wp2_with (fail)
  refine (engNew_any D.costs D.ac D.cc w H.out.cost (by omega) rfl).mono ?_
  intro e1 w1 R1
  obtain ⟨be, bn, ae, ce, rfl, hE1, hF1⟩ := R1.okE HNE.out
  have hws1 := hF1.size
  obtain ⟨U0, hU0⟩ : ∃ U0 : Nat → Prop, U0 = fun k => w.heap.size ≤ k ∧ k < w1.heap.size := ⟨_, rfl⟩
  rw [← hU0] at hE1
  have HU0 := Lib.hid (show ∀ k, U0 k → w.heap.size ≤ k ∧ k < w1.heap.size from fun k hk => by rw [hU0] at hk; exact hk)
  have c0' := (hF1.cell (p := ⟨D.bd, 0, none⟩) cl (fun h => h)).trans c0
  have c2' := (hF1.cell (p := ⟨D.bd, 2, none⟩) cl (fun h => h)).trans c2
  clear R1 hU0 c0 c1 c2
  go_wp2
  go_loopw [30, 5] (fun s30 s5 wr => ∃ (i : Nat) (aR : Option Addr) (cR : Nat) (ob : Option Nat), i ≤ D.own.length ∧ s30 = .int .i64 i ∧ s5 = .slice aR i cR ∧ Eng U0 wr be bn D.costs [] [] ae ce ∧ Alls w.heap.size wr.heap (ownR (D.own.take i)) aR cR ob ∧ Hid (∀ g, ob = some g → w1.heap.size ≤ g) ∧ Fr (fun _ => False) w wr ∧ w1.heap.size ≤ wr.heap.size) (fun s _ _ => D.own.length - (intOf s).toNat)
  case atStart => exact ⟨0, none, 0, none, by omega, rfl, rfl, hE1, Alls.nil _ _, Lib.hid (fun _ h => nomatch h), hF1, Nat.le_refl _⟩
  case round =>
    clear hE1 hF1 c0' c2'
    obtain ⟨i, aR, cR, ob, hi, rfl, rfl, hE, hA, hob, hF, hw1r⟩ := hrel
    have c0 := (hF.cell (p := ⟨D.bd, 0, none⟩) cl (fun h => h)).trans H.out.cells.1
    have cl' := Nat.lt_of_lt_of_le cl hF.size
    by_cases hik : i < D.own.length
    · obtain ⟨g, o, rfl, hgl, hgc⟩ := Recs.pos HOWN.out Nt.cells_len (by omega) (by omega)
      have d0 := (hF.cell (p := ⟨g, o + (i * 2 + 0), none⟩) hgl (fun h => h)).trans (hgc w rfl i 0 hik (by omega))
      have d1 := (hF.cell (p := ⟨g, o + (i * 2 + 1), none⟩) hgl (fun h => h)).trans (hgc w rfl i 1 hik (by omega))
      have hT := take_succ_nth D.own i hik
      generalize nth D.own i = y at *
      obtain ⟨ya, yn⟩ := y
      simp only [Nt.cells, List.getElem?_cons_zero, List.getElem?_cons_succ, ← Nat.add_assoc, Nat.add_zero] at d0 d1
      have HT := Lib.hid (show ownR (D.own.take (i + 1)) = ownR (D.own.take i) ++ [⟨ya, yn, 1, [], none, 0⟩] by rw [hT]; unfold ownR; rw [List.map_append]; rfl)
      have hlen : (ownR (D.own.take i)).length = i := by rw [ownR_len, List.length_take_of_le hi]
      have hO := hA.own
      rw [hlen] at hO
      have hFa := (Fr.refl (fun _ => False) wr).alloc (.cells #[.int .u32 ya, .int .i64 yn] 43)
      have hrd := rd_lit1 wr (.cells #[.int .u32 ya, .int .i64 yn] 43) 50 [.int .u32 ya, .int .i64 yn, .int .i64 1, .slice none 0 0]
      have hFb := hFa.alloc (.cells #[.int .u32 ya, .int .i64 yn, .int .i64 1, .slice none 0 0] 50)
      have hOb := hO.fr hFb (fun _ _ h => h)
      have HA := Lib.hid hA
      have HE := Lib.hid hE
      have HLEN := Lib.hid hlen
      have hws := hF.size
      clear hgc hT hlen hO hA hE c0
      go_wp2_with (at_builtin; refine wpList_app rfl _ _ 53 rfl Try.underlying53 infoBst rfl (by decide) rfl rfl hOb hrd (by simp [Value.oneCell']) (by omega) (by omega) ?_)
      intro a8 c8 w8 ob8 v1 v2 v3
      have hs8 := v2.size
      have hsb : ((wr.alloc (.cells #[.int .u32 ya, .int .i64 yn] 43)).alloc (.cells #[.int .u32 ya, .int .i64 yn, .int .i64 1, .slice none 0 0] 50)).heap.size = wr.heap.size + 2 := by simp
      have hFw8 : Fr (fun k => ob = some k) wr w8 := (hFb.none _).trans v2
      have hob8 : ob8 = ob ∨ ∃ g, ob8 = some g ∧ wr.heap.size ≤ g := by
        rcases v3 with v3 | ⟨g', v3, v4⟩
        · exact .inl v3
        · exact .inr ⟨g', v3, by omega⟩
      have hA8 := HA.out.push hws (x := ⟨ya, yn, 1, [], none, 0⟩) (Own.nil _ _ _) (fun _ h => nomatch h) (by rw [HLEN.out]; exact v1) hFw8 hob8
      rw [← HT.out] at hA8
      have HA8 := Lib.hid hA8
      have hE8 := HE.out.fr hFw8 (fun k hk e => by have := hob.out k e; have := HU0.out k hk; omega)
      have hF8 : Fr (fun _ => False) w w8 := hF.trans' hFw8 (fun k hk e => by have := hob.out k e; omega)
      have HB8 := Lib.hid (show ∀ g, ob8 = some g → w1.heap.size ≤ g from fun g hg => by
        rcases hob8 with h | ⟨g', h, h'⟩
        · rw [h] at hg; exact hob.out g hg
        · rw [h] at hg; cases hg; omega)
      clear v1 v2 v3 hFw8 hob8 hA8 hrd hFa hFb hOb
      go_wp2
      go_roundw
      case rel => exact ⟨i + 1, a8, c8, ob8, by omega, by go_num, rfl, hE8, HA8.out, HB8, hF8, by omega⟩
      case measure => simp [intOf]; omega
    · have hie : i = D.own.length := by omega
      have hAo := hA
      rw [hie, List.take_length] at hAo
      have HI := Lib.hid hie
      clear hA hie
      go_wp2_with (fail)
      refine (ribList_any wr (H.out.rib.fr0 hF) h64).mono ?_
      rintro e2 wA ⟨aH, cH, obH, rfl, hOH, hF2, hNH⟩
      have hFA := hF.trans hF2
      have hEA := hE.fr0 hF2
      have hAA := hAo.fr0 hF2
      have hsA := hF2.size
      have HAA := Lib.hid hAA
      have HOH := Lib.hid hOH
      have HNH := Lib.hid (show ∀ g, obH = some g → ¬ U0 g from fun g hg h => by have := hNH g hg; have := HU0.out g h; omega)
      have HFA := Lib.hid hFA
      simp only [id]
      clear hAo hE hF hF2 hOH hNH hFA hAA c0
      go_wp2
      go_loopw [46, 8] (fun s46 s8 wr => ∃ (k : Nat) (E : List Ent) (U : Nat → Prop) (aN : Option Addr) (cN : Nat) (obN : Option Nat) (nN : Nat), k ≤ l.length ∧ s46 = .int .i64 k ∧ s8 = .slice aN nN cN ∧ Hid (nN = (fstN (hdL (l.take k))).length) ∧ Eng U wr be bn D.costs (hdL (l.take k)) E ae ce ∧ E.length ≤ k ∧ nN ≤ k ∧ Own wr.heap 43 2 aN nN cN ((fstN (hdL (l.take k))).flatMap Nt.cells) obN ∧ Hid (∀ g, obN = some g → ¬ U g ∧ wA.heap.size ≤ g) ∧ Hid (∀ j, U j → U0 j ∨ wA.heap.size ≤ j) ∧ Fr U0 wA wr) (fun s _ _ => l.length - (intOf s).toNat)
      case atStart => exact ⟨0, [], U0, none, 0, none, 0, by omega, rfl, rfl, Lib.hid rfl, hEA, by simp, by omega, Own.nil _ _ _, Lib.hid (fun _ h => nomatch h), Lib.hid (fun _ h => .inl h), Fr.refl _ _⟩
      case round =>
        clear hEA
        obtain ⟨k, E, U, aN, cN, obN, nN, hk, rfl, rfl, hnN, hE, hEk, hNk, hON, hoN, hUU, hF⟩ := hrel
        have hsr := hF.size
        by_cases hkl : k < l.length
        · obtain ⟨g, hga, hgo, hgl, hgc, -⟩ := (HOH.out.fr hF HNH.out).pos (by omega)
          have dd := fun (j : Nat) (hj : j < 4) => (hgc (k * 4 + j) (by omega)).trans (flat_get Td.hcells 4 Td.hcells_len l k j hkl hj)
          have d0 := dd 0 (by omega)
          have d1 := dd 1 (by omega)
          have d2 := dd 2 (by omega)
          have d3 := dd 3 (by omega)
          have hsn := hdL_snoc l hkl
          have hxm := nth_mem l k hkl
          generalize nth l k = x at *
          have hxo := H.out.ok.each x hxm
          have hxb := H.out.by' x hxm
          have hheard := td_heard hxo hxb
          have hset := setE_none (E := E) hheard (by omega)
          have hwf : Nt.wf ⟨x.a, x.n⟩ := ⟨hxo.a0, hxo.a1, i64_small (i := x.n) hxo.n0 (by have := hxo.n1; omega)⟩
          have hfw := i64_small hxo.f0 (by have := hxo.f1; omega)
          obtain ⟨xf, xa, xn, xm, xt⟩ := x
          simp only [Td.hd] at hset hwf hfw hsn hheard
          simp only [Td.hcells, List.getElem?_cons_zero, List.getElem?_cons_succ, Nat.add_zero] at d0 d1 d2 d3
          have HSN := Lib.hid hsn
          have HGA := Lib.hid hga
          subst hga
          have hB := Blk.made wr 47 [.int .i64 xf, .int .u32 xa, .int .i64 xn, .int .i64 xm]
          have hFa := (Fr.refl (fun _ => False) wr).alloc (.cells #[.int .i64 xf, .int .u32 xa, .int .i64 xn, .int .i64 xm] 47)
          have hEa := hE.fr0 hFa
          have hcall := set_any ⟨xf, xa, xn, xm⟩ _ hEa hwf hfw (by simp; omega) (by omega)
          rw [hset] at hcall
          have HUL := Lib.hid hE.lt
          have HWF := Lib.hid hwf
          clear dd hgc hxm hxo hxb hheard hset hsn hwf hfw
          go_wp2_with (fail)
          refine hcall.mono ?_
          intro e3 w3 R3
          obtain ⟨rfl, hF3, E', hE3, hkeys, -⟩ := R3.okE rfl
          have hEl := keysE_le hkeys
          have hsa : (wr.alloc (.cells #[.int .i64 xf, .int .u32 xa, .int .i64 xn, .int .i64 xm] 47)).heap.size = wr.heap.size + 1 := by simp
          have hs3 := hF3.size
          rw [hsa] at hs3
          have hB3 := hB.fr hF3 (fun h => by have := HUL.out _ h; omega)
          have hON3 := (hON.alloc (.cells #[.int .i64 xf, .int .u32 xa, .int .i64 xn, .int .i64 xm] 47)).fr hF3 (fun g hg h => (hoN.out g hg).1 h)
          have hoNlt := hON.lt
          have HOU := Lib.hid (show ∀ g, obN = some g → ¬ usesN U (wr.alloc (.cells #[.int .i64 xf, .int .u32 xa, .int .i64 xn, .int .i64 xm] 47)) w3 g ∧ wA.heap.size ≤ g from fun g hg => ⟨fun h => by
            rcases h with h | h
            · exact (hoN.out g hg).1 h
            · have := hoNlt g hg; rw [hsa] at h; omega, (hoN.out g hg).2⟩)
          have HUU := Lib.hid (show ∀ j, usesN U (wr.alloc (.cells #[.int .i64 xf, .int .u32 xa, .int .i64 xn, .int .i64 xm] 47)) w3 j → U0 j ∨ wA.heap.size ≤ j from fun j hj => by
            rcases hj with h | h
            · exact hUU.out j h
            · rw [hsa] at h; exact .inr (by omega))
          have hF03 : Fr U0 wA w3 := (hF.trans (hFa.none _)).trans' hF3 (fun j hj h => by
            rcases hUU.out j h with q | q
            · exact q
            · omega)
          have b1 := hB3.cell 1
          have b2 := hB3.cell 2
          have bl := hB3.lt
          simp only [List.getElem?_cons_succ, List.getElem?_cons_zero] at b1 b2
          generalize usesN U (wr.alloc (.cells #[.int .i64 xf, .int .u32 xa, .int .i64 xn, .int .i64 xm] 47)) w3 = U' at *
          have HULT := Lib.hid hE3.lt
          clear R3 hcall hEa hE hF hF3 hON hB hFa hkeys d0 d1 d2 d3 hoN hUU HUL hoNlt
          go_wp2_with (fail)
          refine (netIn_any (fstN (hdL (l.take k))) ⟨xa, xn⟩ aN cN w3 (by have := hON3.rd; unfold Recs; rw [← hnN.out]; exact this) (by have := hnN.out; omega) hnN.out).mono ?_
          rintro e4 w4 ⟨rfl, hF4⟩
          have hE4 := hE3.fr0 hF4
          have hON4 := hON3.fr hF4 (fun _ _ h => h)
          have hB4 := hB3.fr hF4 (fun h => h)
          have hF04 := hF03.trans (hF4.none _)
          have b1 := hB4.cell 1
          have b2 := hB4.cell 2
          have bl := hB4.lt
          have hs4 := hF4.size
          simp only [List.getElem?_cons_succ, List.getElem?_cons_zero] at b1 b2
          clear hE3 hON3 hB3 hF03 hF4
          by_cases hm : (⟨xa, xn⟩ : Nt) ∈ fstN (hdL (l.take k))
          · rw [decide_eq_true hm]
            have HFS := Lib.hid (show fstN (hdL (l.take (k + 1))) = fstN (hdL (l.take k)) by rw [HSN.out, fstN_snoc]; exact if_pos hm)
            have HE4 := Lib.hid (show Eng U' w4 be bn D.costs (hdL (l.take (k + 1))) E' ae ce by rw [HSN.out]; exact hE4)
            have HON4 := Lib.hid hON4
            have hnl := hON4.len
            clear hm hE4 hON4
            go_wp2
            go_roundw
            case rel => exact ⟨k + 1, E', U', aN, cN, obN, nN, by omega, by go_num, rfl, Lib.hid (by rw [HFS.out]; exact hnN.out), HE4.out, by omega, by omega, by rw [HFS.out]; exact HON4.out, HOU, HUU, hF04⟩
            case measure => simp [intOf]; omega
          · rw [decide_eq_false hm]
            have HFS := Lib.hid (show fstN (hdL (l.take (k + 1))) = fstN (hdL (l.take k)) ++ [⟨xa, xn⟩] by rw [HSN.out, fstN_snoc]; exact if_neg hm)
            have HE4 := Lib.hid (show Eng U' w4 be bn D.costs (hdL (l.take (k + 1))) E' ae ce by rw [HSN.out]; exact hE4)
            have hrd := rd_lit w4 43 [.int .u32 xa, .int .i64 xn]
            have hFb := (Fr.refl (fun _ => False) w4).alloc (.cells #[.int .u32 xa, .int .i64 xn] 43)
            have hOb := hON4.alloc (.cells #[.int .u32 xa, .int .i64 xn] 43)
            have hoNlt := hON4.lt
            clear hm hE4
            go_wp2_with (at_builtin; refine wpList_app rfl _ _ 23 rfl Try.underlying23 infoNt rfl (by decide) rfl rfl hOb hrd (by simp [Value.oneCell']) (by omega) (by omega) ?_)
            intro a8 c8 w8 ob8 v1 v2 v3
            have hsb : (w4.alloc (.cells #[.int .u32 xa, .int .i64 xn] 43)).heap.size = w4.heap.size + 1 := by simp
            have HE8 := Lib.hid ((HE4.out.fr0 hFb).fr v2 (fun j hj e => (HOU.out j e).1 hj))
            have HON8 := Lib.hid (show Own w8.heap 43 2 a8 (nN + 1) c8 ((fstN (hdL (l.take (k + 1)))).flatMap Nt.cells) ob8 by rw [HFS.out, List.flatMap_append]; simpa [hdL] using v1)
            have HOU8 := Lib.hid (show ∀ g, ob8 = some g → ¬ U' g ∧ wA.heap.size ≤ g from fun g hg => by
              rcases v3 with h | ⟨g', h, h'⟩
              · rw [h] at hg; exact HOU.out g hg
              · rw [h] at hg; cases hg
                exact ⟨fun h2 => by have := HULT.out g h2; omega, by omega⟩)
            have hF8 : Fr U0 wA w8 := (hF04.trans (hFb.none _)).trans' v2 (fun j hj e => by have := (HOU.out j e).2; omega)
            clear v1 v2 v3 hrd hFb hOb hON4 hoNlt
            go_wp2
            go_roundw
            case rel => exact ⟨k + 1, E', U', a8, c8, ob8, nN + 1, by omega, by go_num, rfl, Lib.hid (by rw [HFS.out, List.length_append, ← hnN.out]; rfl), HE8.out, by omega, by omega, HON8.out, HOU8, HUU, hF8⟩
            case measure => simp [intOf]; omega
        · have hke : k = l.length := by omega
          rw [hke, List.take_length] at hnN hE hON
          have HFw := Lib.hid (HFA.out.trans' hF (fun j hj h => by have := HU0.out j h; omega))
          have HOBU := Lib.hid (show ∀ g, ob = some g → ¬ U g ∧ obN ≠ some g from fun g hg => by
            have hlt := HAA.out.own.lt g hg
            refine ⟨fun h => ?_, fun h => by have := (hoN.out g h).2; omega⟩
            rcases hUU.out g h with q | q
            · have := HU0.out g q; have := hob.out g hg; omega
            · omega)
          have hAB := HAA.out.frN hF (fun g hg h => by have := HU0.out g h; have := hob.out g hg; omega) (fun x hx b off e => by rw [(ownR_none hx).1] at e; cases e)
          have hlenR : (ownR D.own).length = i := by rw [ownR_len, HI.out]
          obtain ⟨nets, hnets⟩ : ∃ nets, nets = fstN (hdL l) := ⟨_, rfl⟩
          rw [← hnets] at hnN hON
          have HNETS := Lib.hid hnets
          have hn64 : nN ≤ 64 := by have := hnN.out; have h2 := fstN_le (hdL l); rw [← hnets] at h2; simp [hdL] at h2; omega
          have HNO := Lib.hid (show ∀ q ∈ nets, netErr q.a q.n = none ∧ Nt.wf q ∧ q ∉ D.own from fun q hq => by
            rw [hnets, fst_hd] at hq
            obtain ⟨x, hx, rfl⟩ := hq
            have hxo := H.out.ok.each x hx
            exact ⟨(H.out.by' x hx).2, ⟨hxo.a0, hxo.a1, i64_small (i := x.n) hxo.n0 (by have := hxo.n1; omega)⟩, H.out.out x hx⟩)
          have hG0 : Hid ((ownR D.own).map bnet = D.own ++ nets.take 0 ∧ ∀ r ∈ ownR D.own, (r.m, r.h) = bestD D l (bnet r)) := Lib.hid ⟨by rw [ownR_net]; simp, fun r hr => by
            obtain ⟨-, h2, h3⟩ := ownR_none hr
            rw [bestD_own (by have := List.mem_map_of_mem (f := bnet) hr; rwa [ownR_net] at this), h2, h3]⟩
          have HLR := Lib.hid hlenR
          clear hnets hF hlenR hke hoN hUU
          go_wp2
          go_loopw [69, 5] (fun s69 s5 wr => ∃ (j : Nat) (R : List BestR) (aR : Option Addr) (cR : Nat) (ob : Option Nat) (nR : Nat), j ≤ nN ∧ s69 = .int .i64 j ∧ s5 = .slice aR nR cR ∧ Hid (nR = R.length) ∧ nR ≤ 25 + j ∧ Eng U wr be bn D.costs (hdL l) E ae ce ∧ Own wr.heap 43 2 aN nN cN (nets.flatMap Nt.cells) obN ∧ Alls w.heap.size wr.heap R aR cR ob ∧ Hid (R.map bnet = D.own ++ nets.take j ∧ ∀ r ∈ R, (r.m, r.h) = bestD D l (bnet r)) ∧ Hid (∀ g, ob = some g → ¬ U g ∧ obN ≠ some g) ∧ Fr (fun _ => False) w wr) (fun s _ _ => nN - (intOf s).toNat)
          case atStart => exact ⟨0, ownR D.own, aR, cR, ob, i, by omega, rfl, rfl, Lib.hid HLR.out.symm, by omega, hE, hON, hAB, hG0, HOBU, HFw.out⟩
          case round =>
            clear hE hON hAB hG0
            obtain ⟨j, R, aR, cR, ob, nR, hj, rfl, rfl, hnR, hn25, hE, hON, hA, hG, hOB, hF⟩ := hrel
            by_cases hjn : j < nN
            · have hjl : j < nets.length := by have := hnN.out; omega
              obtain ⟨g, hga, hgo, hgl, hgc, -⟩ := hON.pos (by omega)
              have dd := fun (q : Nat) (hq : q < 2) => (hgc (j * 2 + q) (by omega)).trans (flat_get Nt.cells 2 Nt.cells_len nets j q hjl hq)
              have d0 := dd 0 (by omega)
              have d1 := dd 1 (by omega)
              have hT := take_succ_nth nets j hjl
              obtain ⟨hq1, hq2, hq3⟩ := HNO.out _ (nth_mem nets j hjl)
              generalize nth nets j = y at *
              obtain ⟨ya, yn⟩ := y
              simp only [Nt.cells, List.getElem?_cons_zero, List.getElem?_cons_succ, Nat.add_zero] at d0 d1
              simp only at hq1 hq3
              have HGA := Lib.hid hga
              subst hga
              have HT := Lib.hid hT
              obtain ⟨M, hM⟩ : ∃ M, M = bestM (hdL l) D.costs ya yn := ⟨_, rfl⟩
              have HV := Lib.hid (show M = bestD D l ⟨ya, yn⟩ by rw [bestD_other hq3]; exact hM)
              have hFa := (Fr.refl (fun _ => False) wr).alloc (.cells #[.int .u32 ya, .int .i64 yn] 43)
              have hcall := get_any ya yn _ (hE.fr0 hFa) hq2
              rw [← hM, hq1] at hcall
              have hm4 : M.2.length ≤ 4 := by rw [hM]; exact (chK_bd (fun i => lastO (hdL l) i ya yn) D.costs (fun i m h => lastO_bd (fun y hy => (heardE_ok (hE.ok y hy)).2.2.2) h) (nearE_ok hE.near).2 D.costs.length (Nat.le_refl _)).2.2.1
              obtain ⟨sm, sh⟩ := M
              simp only at hm4
              clear dd hgc hT hq1 hq2 hq3 hM hjl
              go_wp2_with (fail)
              refine hcall.mono ?_
              intro e3 w3 R3
              obtain ⟨a3, c3, ob3, rfl, hO3, hF3, hN3⟩ := R3.okE rfl
              simp only at hO3 ⊢
              have hsa : (wr.alloc (.cells #[.int .u32 ya, .int .i64 yn] 43)).heap.size = wr.heap.size + 1 := by simp
              rw [hsa] at hN3
              have hFw3 := hFa.trans hF3
              have hFx := (Fr.refl (fun _ => False) w3).alloc (.cells #[.int .u32 ya, .int .i64 yn, .int .i64 sm, .slice a3 sh.length c3] 50)
              have hrd := rd_lit1 w3 (.cells #[.int .u32 ya, .int .i64 yn, .int .i64 sm, .slice a3 sh.length c3] 50) 50 [.int .u32 ya, .int .i64 yn, .int .i64 sm, .slice a3 sh.length c3]
              have hFb := hFx.alloc (.cells #[.int .u32 ya, .int .i64 yn, .int .i64 sm, .slice a3 sh.length c3] 50)
              have hA3 := hA.fr0 hFw3
              have hAo := hA3.own.fr hFb (fun _ _ h => h)
              rw [← hnR.out] at hAo
              have hws3 := hFw3.size
              have HA := Lib.hid hA
              have HE := Lib.hid hE
              have HON := Lib.hid hON
              have hwsr := hF.size
              clear hcall R3 hF3 d0 d1 hA hE hON hFa hA3
              go_wp2_with (at_builtin; refine wpList_app rfl _ _ 53 rfl Try.underlying53 infoBst rfl (by decide) rfl rfl hAo hrd (by simp [Value.oneCell']) (by omega) (by omega) ?_)
              intro a8 c8 w8 ob8 v1 v2 v3
              have hs8 := v2.size
              have hsb : ((w3.alloc (.cells #[.int .u32 ya, .int .i64 yn, .int .i64 sm, .slice a3 sh.length c3] 50)).alloc (.cells #[.int .u32 ya, .int .i64 yn, .int .i64 sm, .slice a3 sh.length c3] 50)).heap.size = w3.heap.size + 2 := by simp
              have hlt3 := hO3.lt
              have hoblt : ∀ g, ob = some g → g < wr.heap.size := HA.out.own.lt
              have hO38 := (hO3.fr hFb (fun _ _ h => h)).fr v2 (fun g hg e => by have := hoblt g e; have := hN3 g hg; omega)
              have hF38 : Fr (fun k => ob = some k) wr w8 := ((hFw3.trans hFb).none _).trans v2
              have hob8 : ob8 = ob ∨ ∃ g, ob8 = some g ∧ wr.heap.size ≤ g := by
                rcases v3 with v3 | ⟨g', v3, v4⟩
                · exact .inl v3
                · exact .inr ⟨g', v3, by omega⟩
              have HA8 := Lib.hid (HA.out.push hwsr (x := ⟨ya, yn, sm, sh, a3, c3⟩) hO38 (fun g hg => ⟨by have := hN3 g hg; omega, fun e => by
                rcases v3 with v3 | ⟨g', v3, v4⟩
                · rw [v3] at e; have := hoblt g e; have := hN3 g hg; omega
                · rw [v3] at e; cases e; have := hlt3 g hg; omega⟩) (by rw [← hnR.out]; simpa using v1) hF38 hob8)
              have hELT := HE.out.lt
              have hNLT := HON.out.lt
              have HE8 := Lib.hid (HE.out.fr hF38 (fun q hq e => (hOB.out q e).1 hq))
              have HON8 := Lib.hid (HON.out.fr hF38 (fun q hq e => (hOB.out q e).2 hq))
              have hF8 : Fr (fun _ => False) w w8 := hF.trans' hF38 (fun q hq e => by have := HA.out.new q e; omega)
              have HOB8 := Lib.hid (show ∀ g, ob8 = some g → ¬ U g ∧ obN ≠ some g from fun g hg => by
                rcases hob8 with h | ⟨g', h, h'⟩
                · rw [h] at hg; exact hOB.out g hg
                · rw [h] at hg; cases hg
                  exact ⟨fun h2 => by have := hELT g h2; omega, fun h2 => by have := hNLT g h2; omega⟩)
              have HG8 := Lib.hid (show (R ++ [(⟨ya, yn, sm, sh, a3, c3⟩ : BestR)]).map bnet = D.own ++ nets.take (j + 1) ∧ ∀ r ∈ R ++ [(⟨ya, yn, sm, sh, a3, c3⟩ : BestR)], (r.m, r.h) = bestD D l (bnet r) from ⟨by rw [HT.out, List.map_append, hG.out.1, List.append_assoc]; rfl, fun z hz => by
                rcases List.mem_append.1 hz with hz | hz
                · exact hG.out.2 z hz
                · rw [List.mem_singleton.1 hz]; exact HV.out⟩)
              clear v1 v2 v3 hO38 hF38 hob8 hO3 hFw3 hFb hAo hrd hFx hELT hNLT
              go_wp2
              go_roundw
              case rel => exact ⟨j + 1, R ++ [⟨ya, yn, sm, sh, a3, c3⟩], a8, c8, ob8, nR + 1, by omega, by go_num, rfl, Lib.hid (by rw [List.length_append, ← hnR.out]; rfl), by omega, HE8.out, HON8.out, HA8.out, HG8, HOB8, hF8⟩
              case measure => simp [intOf]; omega
            · have hje : j = nets.length := by have := hnN.out; omega
              have hk := hG.out.1
              rw [hje, List.take_length] at hk
              have hnd : (R.map bnet).Nodup := by
                rw [hk]
                refine List.nodup_append.2 ⟨H.out.nodup, by rw [HNETS.out]; exact fstN_nodup _, fun a ha b hb e => ?_⟩
                subst e
                exact (HNO.out a hb).2.2 ha
              have HK := Lib.hid hk
              have hl89 : R.length ≤ 89 := by have := hnR.out; omega
              have hR1 : R.length ≤ 1000000 := by omega
              clear hk hje hE hON
              go_wp2_with (fail)
              refine (sortBest_any R aR cR ob wr hA hnR.out hnd hR1).mono ?_
              rintro e5 w5 ⟨S, rfl, hS, hP, hA5, hF5, hn5⟩
              have HAR := Lib.hid (show AllR D l S from ⟨hS, fun q => by
                rw [(hP.map bnet).mem_iff, HK.out, List.mem_append, HNETS.out, fst_hd], fun r hr => hG.out.2 r (hP.mem_iff.1 hr), by rw [hP.length_eq]; exact hl89⟩)
              have hFe : Fr (fun _ => False) w w5 := hF.trans' hF5 (fun q hq e => by have := hA.new q e; omega)
              have HN5 := Lib.hid hn5
              clear hS hP hF hF5 hA hn5 hnd
              go_wp2
              go_ret
              exact ⟨S, aR, cR, ob, by rw [HN5.out]; rfl, hA5, HAR.out, hFe⟩
end Go.Proofs.Ytfglidaicjjpfaa
