import Derived.Test.YtfjempfffdeklaaDoorEngSel
namespace Go
theorem lookL_run {κ : Type} [DecidableEq κ] {w : World} {P : Program} {k e t : TypeId} {kl : κ → Lit} {b : Nat} {L : List (κ × Value)} (h : MapL w P k kl b L) (K : Go.Maps.Keyed P k) (ht : P.underlying t = some (.map k e)) {z : Value} (hz : (zeroValue e).run P w = .ok z w) {key : Value} {q : κ} (hkey : keyOf P k key = some (kl q)) (hi : ∀ p ∈ L, kl p.1 = kl q → p.1 = q) :
    (Instr.lookup t (.map (some b)) key false).run P w = .ok ((mget L q).getD z) w := by
  obtain ⟨D, h1, _, h3, h4⟩ := h.at K hi (K.key hkey)
  obtain ⟨v, ps, hrun, hv⟩ := h1.lookup K ht hz (zd := .held z) (zp := []) rfl hkey
  have hv' := congrArg Prod.fst (Option.some.inj hv)
  simp only [] at hv'
  rw [h4] at hv'
  have : v = (mget L q).getD z := by
    cases hg : mget L q with
    | none => rw [hg] at hv'; simpa using hv'
    | some u => rw [hg] at hv'; simpa using hv'
  rw [← this]; exact hrun
end Go
namespace Go.Proofs.YtfjempfffdeklaaDoor
open Go.RowKit Go.Maps
namespace Eng
variable {U S : Nat → Prop} {w w' : World} {be bn : Nat} {costs : List Int} {all : List Hea} {E : List Ent} {ac : Option Addr} {cc : Nat}
/-- An entry, shown. -/
def shw (all : List Hea) (costs : List Int) (x : Ent) : Ent := { x with sm := (bestM all costs x.key.a x.key.n).1, sh := (bestM all costs x.key.a x.key.n).2, sA := x.bA, sC := x.bC }
theorem best4 (h : Eng U w be bn costs all E ac cc) (a n : Int) : (bestM all costs a n).2.length ≤ 4 :=
  (chK_bd (fun i => lastO all i a n) costs (fun i m h => lastO_bd (fun y hy => (heardE_ok ((by assumption : Eng U w be bn costs all E ac cc).ok y hy)).2.2.2) h) (nearE_ok h.near).2 costs.length (Nat.le_refl _)).2.2.1
theorem show' (h : Eng U w be bn costs all E ac cc) {x : Ent} (hx : x ∈ E) (f : Fr (fun k => k = x.b) w w') (hB : Blk w'.heap x.b 140 (entC all costs (shw all costs x))) :
    Eng U w' be bn costs all (upd x (shw all costs x) E) ac cc := by
  have hone := h.key_one hx
  have hx' := h.ents x hx
  have hEF := fun k => upd_EF (be := be) (bn := bn) (x' := shw all costs x) hx rfl rfl hone (k := k)
  have hin : EF be bn E x.b := .inr (.inr ⟨x, hx, .inl rfl⟩)
  have hae := h.apE x hx
  have hS : ∀ k, ¬ EF be bn E k → ¬ k = x.b := fun k hk e => hk (e ▸ hin)
  refine ⟨h.blk.fr f (fun e => hae.1 e.symm), h.cost.fr f (fun b off e => hS _ (h.apC b off e).2), fun b off e => ⟨(h.apC b off e).1, fun hF => (h.apC b off e).2 ((hEF _).1 hF)⟩, ?_, ?_, ?_, ?_, h.ne, ?_, h.ok, h.near, fun k hk => Nat.lt_of_lt_of_le (h.lt k hk) f.size, h.uE, h.uN⟩
  · rw [upd_entL (x := x) (x' := shw all costs x) rfl rfl hone]
    exact h.nets.fr f (fun e => hae.2.1 e.symm)
  · intro y hy
    obtain ⟨z, hz, rfl⟩ := List.mem_map.1 hy
    split
    · exact ⟨hB, hx'.told.fr f (fun e => hx'.own e.symm), hx'.hops.fr f (fun b off e => hS _ (hx'.apB b off e).2), hx'.hops.fr f (fun b off e => hS _ (hx'.apB b off e).2),
        fun b off e => ⟨(hx'.apB b off e).1, fun hF => (hx'.apB b off e).2 ((hEF _).1 hF)⟩, fun b off e => ⟨(hx'.apB b off e).1, fun hF => (hx'.apB b off e).2 ((hEF _).1 hF)⟩, hx'.uB, hx'.uT, hx'.wf, hx'.own, h.best4 _ _⟩
    · rename_i he
      have hz' := h.ents z hz
      have hne : z ≠ x := fun e => he (by rw [e])
      have hap2 := pw_both (fun _ _ => Ent.ap_symm) h.ap hz hx hne
      exact ⟨hz'.blk.fr f hap2.1, hz'.told.fr f hap2.2.2.1, hz'.hops.fr f (fun b off e => hS _ (hz'.apB b off e).2), hz'.shown.fr f (fun b off e => hS _ (hz'.apS b off e).2),
        fun b off e => ⟨(hz'.apB b off e).1, fun hF => (hz'.apB b off e).2 ((hEF _).1 hF)⟩, fun b off e => ⟨(hz'.apS b off e).1, fun hF => (hz'.apS b off e).2 ((hEF _).1 hF)⟩, hz'.uB, hz'.uT, hz'.wf, hz'.own, hz'.shl⟩
  · unfold upd
    refine List.pairwise_map.2 (h.ap.imp_of_mem ?_)
    intro y z hy hz hyz
    split
    · rename_i he
      split
      · rename_i he2
        exact absurd (he.trans he2.symm) hyz.2.2.2.2
      · have := hone y hy he; subst this; exact hyz
    · split
      · rename_i he2
        have := hone z hz he2; subst this; exact hyz
      · exact hyz
  · intro y hy
    obtain ⟨z, hz, rfl⟩ := List.mem_map.1 hy
    split
    · exact hae
    · exact h.apE z hz
  · intro y hy
    obtain ⟨z, hz, e⟩ := h.seen y hy
    refine ⟨if z.key = x.key then shw all costs x else z, List.mem_map.2 ⟨z, hz, rfl⟩, ?_⟩
    split
    · rename_i he
      rw [← e, he]; rfl
    · exact e
end Eng
/-- What is news, told. -/
def RetDirty (U : Nat → Prop) (w : World) (be bn : Nat) (costs : List Int) (all : List Hea) (E : List Ent) (ac : Option Addr) (cc : Nat) (e : Ending) (w' : World) : Prop :=
  ∃ (L : List Nt) (a : Option Addr) (c : Nat) (ob : Option Nat) (E' : List Ent), e = .returned (.slice a L.length c) ∧ NSorted L ∧ (∀ q, q ∈ L ↔ ∃ x ∈ E, x.key = q ∧ dirP all costs x = true) ∧ Own w'.heap 37 2 a L.length c (L.flatMap Nt.cells) ob ∧ Fr U w w' ∧ (∀ g, ob = some g → w.heap.size ≤ g) ∧ L.length ≤ E.length ∧
    Eng U w' be bn costs all E' ac cc ∧ E'.map (·.key) = E.map (·.key) ∧ ∀ q, shownE E' q = bestM all costs q.a q.n
/-- Who of the entries is shown. -/
structure Shown (all : List Hea) (costs : List Int) (E E' : List Ent) (rest : List (Nt × Value)) : Prop where
  ent : entL E' = entL E
  cmp : ∀ x ∈ E', (∃ r ∈ rest, r.1 = x.key) ∨ (x.sm, x.sh) = bestM all costs x.key.a x.key.n
theorem entL_keys {E E' : List Ent} (h : entL E' = entL E) : E'.map (·.key) = E.map (·.key) := by
  have := congrArg (List.map Prod.fst) h
  unfold entL at this
  rw [List.map_map, List.map_map] at this
  exact this
theorem entL_len {E E' : List Ent} (h : entL E' = entL E) : E'.length = E.length := by
  have := congrArg List.length (entL_keys h); simpa using this
theorem Shown.done {U : Nat → Prop} {w : World} {be bn : Nat} {costs : List Int} {all : List Hea} {E E' : List Ent} {ac : Option Addr} {cc : Nat} (h : Shown all costs E E' []) (hE : Eng U w be bn costs all E' ac cc) (q : Nt) : shownE E' q = bestM all costs q.a q.n := by
  by_cases hq : ∃ x ∈ E', x.key = q
  · obtain ⟨x, hx, rfl⟩ := hq
    rw [shownE_at hE.ap hx]
    rcases h.cmp x hx with ⟨r, hr, _⟩ | h1
    · cases hr
    · exact h1
  · have hn : ∀ x ∈ E', x.key ≠ q := fun x hx e => hq ⟨x, hx, e⟩
    rw [shownE_none hn, bestM_none (hE.unheard hn)]
theorem Shown.step {U : Nat → Prop} {w : World} {be bn : Nat} {costs : List Int} {all : List Hea} {E E' : List Ent} {ac : Option Addr} {cc : Nat} {rest : List (Nt × Value)} (h : Shown all costs E E' rest) (hE : Eng U w be bn costs all E' ac cc) {x : Ent} (hx : x ∈ E') : Shown all costs E (Eng.upd x (Eng.shw all costs x) E') (mdel rest x.key) := by
  refine ⟨by rw [Eng.upd_entL (x := x) (x' := Eng.shw all costs x) rfl rfl (hE.key_one hx)]; exact h.ent, fun y hy => ?_⟩
  obtain ⟨z, hz, rfl⟩ := List.mem_map.1 hy
  split
  · exact .inr rfl
  · rename_i he
    rcases h.cmp z hz with ⟨r, hr, e⟩ | h1
    · exact .inl ⟨r, List.mem_filter.2 ⟨hr, by simpa [e] using he⟩, e⟩
    · exact .inr h1

set_option maxRecDepth 100000 in
set_option maxHeartbeats 4000000 in
theorem dirty_any {U : Nat → Prop} {be bn : Nat} {costs : List Int} {all : List Hea} {E : List Ent} {ac : Option Addr} {cc : Nat} (w : World) (hE : Eng U w be bn costs all E ac cc) (h64 : E.length ≤ 64) :
    Calls Tryd.prog 33 #[.pointer (some ⟨be, 0, none⟩)] w (RetDirty U w be bn costs all E ac cc) := by
  have hsel := selDirty_any w hE h64
  have HKV := Lib.hid (show ∀ p ∈ entL E, keyOf Tryd.prog 37 ((fun q : Nt => Value.agg #[.int .u32 q.a, .int .i64 q.n]) p.1) = some (kln p.1) from fun p hp => by
    obtain ⟨x, hx, rfl⟩ := List.mem_map.1 hp
    exact nkey _ (hE.ents x hx).wf)
  have HI := Lib.hid (show ∀ p ∈ entL E, ∀ q ∈ entL E, kln p.1 = kln q.1 → p.1 = q.1 from fun p hp q hq e => by
    obtain ⟨x, hx, rfl⟩ := List.mem_map.1 hp
    obtain ⟨y, hy, rfl⟩ := List.mem_map.1 hq
    exact kln_inj (hE.ents x hx).wf (hE.ents y hy).wf e)
  go_enter Tryd.func33, Tryd.ntmps33
  go_wp2_with (fail)
  refine hsel.mono ?_
  rintro e1 w1 ⟨L, aL, cL, obL, rfl, hL1, hL2, hOL, hF1, hN1, hL3⟩
  have hE1 := hE.fr0 hF1
  have HLL := Lib.hid (show NSorted L ∧ (∀ q, q ∈ L ↔ ∃ x ∈ E, x.key = q ∧ dirP all costs x = true) ∧ L.length ≤ E.length from ⟨hL1, hL2, hL3⟩)
  have hlt1 := hE.lt
  have HLT := Lib.hid hlt1
  have hbr := hE1.lt
  have e1 := hE1.blk.cell 1
  have l0 := hE1.blk.lt
  have HNT := hE1.nets
  simp only [List.getElem?_cons_succ, List.getElem?_cons_zero] at e1
  clear hsel hE hL1 hL2 hL3 hlt1
  go_wp2_with (at_range; refine wpList_rangeL rfl _ 135 rfl 37 138 keyedN Tryd.underlying135 bn (entL E) kln rfl HNT ?_)
  intro w2 hR2 hF2 hs2
  have hE2 := hE1.fr0 hF2
  have hO2 := hOL.fr hF2 (fun _ _ h => h)
  have hF02 : Fr U w w2 := (hF1.trans hF2).mono (fun _ _ h => h.elim)
  have hs1 := hF1.size
  have hNr : ∀ g, obL = some g → ¬ g = w1.heap.size := fun g hg e => by have := hOL.lt g hg; omega
  have HNR := Lib.hid hNr
  clear HNT e1 l0 hE1 hOL hF1 hF2 hbr hNr
  go_wp2
  go_loopw [5] (fun s5 wr => ∃ (rest : List (Nt × Value)) (cnt : Nat) (E' : List Ent), s5 = s5 ∧ MapR wr Tryd.prog 37 kln bn w1.heap.size (entL E) rest cnt ∧ Eng U wr be bn costs all E' ac cc ∧ Own wr.heap 37 2 aL L.length cL (L.flatMap Nt.cells) obL ∧ Fr U w wr ∧ Hid (Shown all costs E E' rest)) (fun _ wr => wr.rangeLeft bn w1.heap.size)
  case atStart => exact ⟨_, _, E, rfl, hR2, hE2, hO2, hF02, Lib.hid ⟨rfl, fun x hx => .inl ⟨(x.key, .pointer (some ⟨x.b, 0, none⟩)), List.mem_map.2 ⟨x, hx, rfl⟩, rfl⟩⟩⟩
  case round =>
    clear hR2 hE2 hO2 hF02 hs2
    obtain ⟨rest, cnt, E', -, hR, hE, hO, hF, hG⟩ := hrel
    have hml := hR.left_eq
    have HML := Lib.hid hml
    clear hml
    go_wp2_with (at_next; refine wpList_nextL rfl _ rfl 37 keyedN bn w1.heap.size (entL E) rest cnt kln (fun q : Nt => Value.agg #[.int .u32 q.a, .int .i64 q.n]) rfl hR HKV.out HI.out ?_ ?_)
    · intro hc0 hr0
      subst hr0
      have HD := Lib.hid (hG.out.done hE)
      have HK := Lib.hid (entL_keys hG.out.ent)
      clear hc0 hG hR HML
      go_wp2
      go_ret
      obtain ⟨h1, h2, h3⟩ := HLL.out
      exact ⟨L, aL, cL, obL, E', rfl, h1, h2, hO, hF, hN1, h3, hE, HK.out, HD.out⟩
    · intro pk pv w3 cnt3 hp hR3 hlt3 hF3 hs3 hen
      have hpm := hR.sub (pk, pv) hp
      rw [← hG.out.ent] at hpm
      obtain ⟨x, hx, hpx⟩ := List.mem_map.1 hpm
      simp only [Prod.mk.injEq] at hpx
      obtain ⟨rfl, rfl⟩ := hpx
      try simp only at hR3 hen
      have hE3 := hE.fr hF3 (fun k hk e => by have := HLT.out k hk; omega)
      have hO3 := hO.fr hF3 (fun g hg e => HNR.out g hg e)
      have hFw3 : Fr U w w3 := hF.trans' hF3 (fun i hi e => by omega)
      have hx3 := hE3.ents x hx
      have hb := hx3.blk
      have x1 := hb.cell 1
      have x2 := hb.cell 2
      have x3 := hb.cell 3
      have x4 := hb.cell 4
      have x5 := hb.cell 5
      have x6 := hb.cell 6
      have x7 := hb.cell 7
      have x8 := hb.cell 8
      have f5 := hb.frozen 5
      have f6 := hb.frozen 6
      have f7 := hb.frozen 7
      have f8 := hb.frozen 8
      have lx := hb.lt
      simp only [entC, List.getElem?_cons_succ, List.getElem?_cons_zero] at x1 x2 x3 x4 x5 x6 x7 x8
      have hBs := (((hb.set 5 (.int .u32 x.key.a)).set 6 (.int .i64 x.key.n)).set 7 (.int .i64 (bestM all costs x.key.a x.key.n).1)).set 8 (.slice x.bA (bestM all costs x.key.a x.key.n).2.length x.bC)
      have hFs : Fr (fun k => k = x.b) w3 ((((w3.setCell ⟨x.b, 5, none⟩ (.int .u32 x.key.a)).setCell ⟨x.b, 6, none⟩ (.int .i64 x.key.n)).setCell ⟨x.b, 7, none⟩ (.int .i64 (bestM all costs x.key.a x.key.n).1)).setCell ⟨x.b, 8, none⟩ (.slice x.bA (bestM all costs x.key.a x.key.n).2.length x.bC)) :=
        ((((Fr.refl (fun k => k = x.b) w3).setCell (p := ⟨x.b, 5, none⟩) (fun _ => rfl) _).setCell (p := ⟨x.b, 6, none⟩) (fun _ => rfl) _).setCell (p := ⟨x.b, 7, none⟩) (fun _ => rfl) _).setCell (p := ⟨x.b, 8, none⟩) (fun _ => rfl) _
      have hux := hx3.uB
      have hae := hE3.apE x hx
      have HE4 := Lib.hid (hE3.show' hx hFs (hBs.eq (by simp only [entC, Eng.shw, List.set_cons_succ, List.set_cons_zero])))
      have HR4 := Lib.hid (hR3.fr hFs (fun e => hae.2.1 e.symm) (fun e => by have := HLT.out _ hux; have h2 : w1.heap.size = x.b := e; omega))
      have HO4 := Lib.hid (hO3.fr hFs (fun g hg e => by have h2 : g = x.b := e; have := HLT.out _ hux; have := hN1 g hg; omega))
      have HF4 := Lib.hid (hFw3.trans (hFs.mono (fun k _ e => by rw [show k = x.b from e]; exact hux)))
      have HG4 := Lib.hid (hG.out.step hE3 hx)
      generalize hM : bestM all costs x.key.a x.key.n = M at x3 x4 HE4 HR4 HO4 HF4
      have HM := Lib.hid hM
      clear hM hR hE hO hF hF3 hs3 hR3 hE3 hO3 hFw3 hx3 hb hBs hFs hG hp hpm
      go_wp2
      go_roundw
      case rel => exact ⟨_, cnt3, _, (by first | rfl | trivial), HR4.out, HE4.out, HO4.out, HF4.out, HG4⟩
      case measure => rw [HR4.out.left_eq, HML.out]; exact hlt3
end Go.Proofs.YtfjempfffdeklaaDoor
