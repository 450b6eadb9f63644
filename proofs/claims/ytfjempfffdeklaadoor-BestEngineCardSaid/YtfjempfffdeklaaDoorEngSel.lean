import Derived.Test.YtfjempfffdeklaaDoorEngSet
import Derived.Test.YtfjempfffdeklaaDoorSortNet
import Derived.Test.YtfjempfffdeklaaDoorMapR
import Derived.Test.YtfjempfffdeklaaDoorEqInts
namespace Go
theorem mdel_lt {κ : Type} [DecidableEq κ] {L : List (κ × Value)} {p : κ × Value} (h : p ∈ L) : (mdel L p.1).length < L.length := by
  unfold mdel
  induction L with
  | nil => cases h
  | cons y L ih =>
    by_cases hy : y.1 = p.1
    · rw [List.filter_cons_of_neg (by simp [hy])]
      have := List.length_filter_le (fun q : κ × Value => decide (¬ q.1 = p.1)) L
      simp only [List.length_cons]; omega
    · rw [List.filter_cons_of_pos (by simp [hy])]
      have h2 : p ∈ L := by
        rcases List.mem_cons.1 h with e | e
        · exact absurd (by rw [e]) hy
        · exact e
      have := ih h2
      simp only [List.length_cons]; omega
/-- What a loop over the entries has got. -/
structure Got (E : List Ent) (p : Ent → Bool) (rest : List (Nt × Value)) (o : List Nt) : Prop where
  nd : o.Nodup
  snd : ∀ q ∈ o, (∃ x ∈ E, x.key = q ∧ p x = true) ∧ ∀ r ∈ rest, r.1 ≠ q
  cmp : ∀ x ∈ E, p x = true → x.key ∈ o ∨ ∃ r ∈ rest, r.1 = x.key
  len : o.length + rest.length ≤ E.length
theorem Got.start (E : List Ent) (p : Ent → Bool) : Got E p (entL E) [] :=
  ⟨List.nodup_nil, fun _ h => (nomatch h), fun x hx _ => .inr ⟨(x.key, .pointer (some ⟨x.b, 0, none⟩)), List.mem_map.2 ⟨x, hx, rfl⟩, rfl⟩, by simp [entL_length]⟩
theorem Got.skip {E : List Ent} {p : Ent → Bool} {rest : List (Nt × Value)} {o : List Nt} (h : Got E p rest o) (hap : E.Pairwise Ent.ap) {x : Ent} (hx : x ∈ E) {v : Value} (hm : (x.key, v) ∈ rest) (hp : p x = false) : Got E p (mdel rest x.key) o := by
  refine ⟨h.nd, fun q hq => ⟨(h.snd q hq).1, fun r hr => (h.snd q hq).2 r (List.mem_filter.1 hr).1⟩, fun y hy hpy => ?_, by have := mdel_lt hm; have := h.len; simp only at *; omega⟩
  rcases h.cmp y hy hpy with h1 | ⟨r, hr, e⟩
  · exact .inl h1
  · by_cases hk : r.1 = x.key
    · have : y = x := by
        by_cases hyx : y = x
        · exact hyx
        · exact absurd (e.symm.trans hk) (pw_both (fun _ _ => Ent.ap_symm) hap hy hx hyx).2.2.2.2
      rw [this, hp] at hpy
      cases hpy
    · exact .inr ⟨r, List.mem_filter.2 ⟨hr, by simpa using hk⟩, e⟩
theorem Got.take {E : List Ent} {p : Ent → Bool} {rest : List (Nt × Value)} {o : List Nt} (h : Got E p rest o) {x : Ent} (hx : x ∈ E) {v : Value} (hm : (x.key, v) ∈ rest) (hp : p x = true) : Got E p (mdel rest x.key) (o ++ [x.key]) := by
  refine ⟨?_, fun q hq => ?_, fun y hy hpy => ?_, by have := mdel_lt hm; have := h.len; simp only [List.length_append, List.length_singleton] at *; omega⟩
  · rw [List.nodup_append]
    refine ⟨h.nd, by simp, fun a ha b hb e => ?_⟩
    rw [List.mem_singleton.1 hb] at e
    exact (h.snd a ha).2 _ hm e.symm
  · rcases List.mem_append.1 hq with hq | hq
    · exact ⟨(h.snd q hq).1, fun r hr => (h.snd q hq).2 r (List.mem_filter.1 hr).1⟩
    · rw [List.mem_singleton.1 hq]
      exact ⟨⟨x, hx, rfl, hp⟩, fun r hr => by simpa using (List.mem_filter.1 hr).2⟩
  · rcases h.cmp y hy hpy with h1 | ⟨r, hr, e⟩
    · exact .inl (List.mem_append_left _ h1)
    · by_cases hk : r.1 = x.key
      · exact .inl (List.mem_append_right _ (by rw [← e, hk]; simp))
      · exact .inr ⟨r, List.mem_filter.2 ⟨hr, by simpa using hk⟩, e⟩
theorem Got.done {E : List Ent} {p : Ent → Bool} {o : List Nt} (h : Got E p [] o) (q : Nt) : q ∈ o ↔ ∃ x ∈ E, x.key = q ∧ p x = true := by
  constructor
  · intro hq; exact (h.snd q hq).1
  · rintro ⟨x, hx, rfl, hp⟩
    rcases h.cmp x hx hp with h1 | ⟨r, hr, _⟩
    · exact h1
    · cases hr
end Go
namespace Go.Proofs.YtfjempfffdeklaaDoor
open Go.RowKit Go.Maps
def allP (all : List Hea) (costs : List Int) (x : Ent) : Bool := decide ((bestM all costs x.key.a x.key.n).1 < 16)
def dirP (all : List Hea) (costs : List Int) (x : Ent) : Bool := decide (bestM all costs x.key.a x.key.n ≠ (x.sm, x.sh))
/-- Which nets are told. -/
def RetSel (w : World) (E : List Ent) (p : Ent → Bool) (e : Ending) (w' : World) : Prop :=
  ∃ (L : List Nt) (a : Option Addr) (c : Nat) (ob : Option Nat), e = .returned (.slice a L.length c) ∧ NSorted L ∧ (∀ q, q ∈ L ↔ ∃ x ∈ E, x.key = q ∧ p x = true) ∧ Own w'.heap 37 2 a L.length c (L.flatMap Nt.cells) ob ∧ Fr (fun _ => False) w w' ∧ (∀ g, ob = some g → w.heap.size ≤ g) ∧ L.length ≤ E.length
set_option maxRecDepth 100000 in
theorem all1_any {U : Nat → Prop} {be bn : Nat} {costs : List Int} {all : List Hea} {E : List Ent} {ac : Option Addr} {cc : Nat} (w : World) (hE : Eng U w be bn costs all E ac cc) {x : Ent} (hx : x ∈ E) :
    Calls Tryd.prog 85 #[.pointer (some ⟨x.b, 0, none⟩)] w (RetV w (.bool (allP all costs x))) := by
  have h := (hE.ents x hx).blk
  have c3 := h.cell 3
  have hl := h.lt
  simp only [entC, List.getElem?_cons_succ, List.getElem?_cons_zero] at c3
  have HP := Lib.hid (show allP all costs x = decide ((bestM all costs x.key.a x.key.n).1 < 16) from rfl)
  generalize (bestM all costs x.key.a x.key.n).1 = m at *
  clear h hE hx
  go_enter Tryd.func85, Tryd.ntmps85
  go_wp2
  go_ret
  exact RetV.mk (x := .bool (decide (m < 16))) (by rw [HP.out]) rfl (Fr.refl _ _)
set_option maxRecDepth 100000 in
set_option maxHeartbeats 2000000 in
theorem dirty1_any {U : Nat → Prop} {be bn : Nat} {costs : List Int} {all : List Hea} {E : List Ent} {ac : Option Addr} {cc : Nat} (w : World) (hE : Eng U w be bn costs all E ac cc) {x : Ent} (hx : x ∈ E) :
    Calls Tryd.prog 83 #[.pointer (some ⟨x.b, 0, none⟩)] w (RetV w (.bool (dirP all costs x))) := by
  have hx0 := hE.ents x hx
  have h := hx0.blk
  have c3 := h.cell 3
  have c4 := h.cell 4
  have c7 := h.cell 7
  have c8 := h.cell 8
  have hl := h.lt
  have hI := hx0.hops.fr0 (Fr.refl (fun _ => False) w).drew (fun _ _ h => h)
  have hJ := hx0.shown.fr0 (Fr.refl (fun _ => False) w).drew (fun _ _ h => h)
  have hbd : (bestM all costs x.key.a x.key.n).2.length ≤ 4 := (chK_bd (fun i => lastO all i x.key.a x.key.n) costs (fun i m h => lastO_bd (fun y hy => (heardE_ok (hE.ok y hy)).2.2.2) h) (nearE_ok hE.near).2 costs.length (Nat.le_refl _)).2.2.1
  have hsl := hx0.shl
  simp only [entC, List.getElem?_cons_succ, List.getElem?_cons_zero] at c3 c4 c7 c8
  have HP := Lib.hid (show dirP all costs x = decide (bestM all costs x.key.a x.key.n ≠ (x.sm, x.sh)) from rfl)
  generalize bestM all costs x.key.a x.key.n = M at *
  obtain ⟨m, hh⟩ := M
  simp only at c3 c4 hI hbd
  obtain ⟨D, hD⟩ : ∃ D, D = dirP all costs x := ⟨_, rfl⟩
  rw [← hD] at HP ⊢
  clear h hE hx hx0 hD
  go_enter Tryd.func83, Tryd.ntmps83
  by_cases hm : m = x.sm
  · have e1 : (m != x.sm) = false := by simp [hm]
    have HX := Lib.hid (show D = !(decide (hh = x.sh)) by rw [HP.out, hm]; by_cases e : hh = x.sh <;> simp [e])
    clear HP hm
    go_wp2
    (refine wp_region_mix (fun _ => True) 22 (by kernel_rfl) (by kernel_rfl) (trivial) ?_; simp only [List.take_succ_cons, List.take_zero, List.drop_succ_cons, List.drop_zero])
    (refine wpMix_earlyN 22 (by kernel_rfl) (by kernel_rfl) ?_; simp only [List.take_succ_cons, List.take_zero, List.drop_succ_cons, List.drop_zero]; (repeat (go_big_quiet_step (fail))); refine wpQuiet_nil ?_)
    refine wpMix_nil ?_
    go_wp2_with (fail)
    refine (equal_any hh x.sh _ _ _ _ _ hI hJ (by omega) (by omega)).mono ?_
    rintro e2 w2 ⟨rfl, n2, rfl⟩
    go_wp2
    go_ret
    exact RetV.mk (x := .bool (!(decide (hh = x.sh)))) (by rw [HX.out]) rfl ((Fr.refl _ _).drewN _)
  · have e1 : (m != x.sm) = true := by simp [hm]
    have HX := Lib.hid (show D = true by rw [HP.out]; exact decide_eq_true (fun e => hm (congrArg Prod.fst e)))
    clear HP hm
    go_wp2
    (refine wp_region_mix (fun _ => True) 22 (by kernel_rfl) (by kernel_rfl) (trivial) ?_; simp only [List.take_succ_cons, List.take_zero, List.drop_succ_cons, List.drop_zero])
    (refine wpMix_earlyN 22 (by kernel_rfl) (by kernel_rfl) ?_; simp only [List.take_succ_cons, List.take_zero, List.drop_succ_cons, List.drop_zero]; (repeat (go_big_quiet_step (fail))); refine wpQuiet_nil ?_)
    refine wpMix_nil ?_
    go_wp2
    go_ret
    exact RetV.mk (x := .bool true) (by rw [HX.out]) rfl (Fr.refl _ _).drew

set_option maxRecDepth 100000 in
set_option maxHeartbeats 4000000 in
theorem selAll_any {U : Nat → Prop} {be bn : Nat} {costs : List Int} {all : List Hea} {E : List Ent} {ac : Option Addr} {cc : Nat} (w : World) (hE : Eng U w be bn costs all E ac cc) (h64 : E.length ≤ 64) :
    Calls Tryd.prog 82 #[.pointer (some ⟨be, 0, none⟩), .func (.func 85) #[] #[]] w (RetSel w E (allP all costs)) := by
  have e1 := hE.blk.cell 1
  have l0 := hE.blk.lt
  have HNT := hE.nets
  simp only [List.getElem?_cons_succ, List.getElem?_cons_zero] at e1
  obtain ⟨P, hP⟩ : ∃ P, P = allP all costs := ⟨_, rfl⟩
  have hone : ∀ (W : World) (_ : Fr (fun _ => False) w W) (x : Ent) (_ : x ∈ E), Calls Tryd.prog 85 #[.pointer (some ⟨x.b, 0, none⟩)] W (RetV W (.bool (P x))) := fun W f x hx => by rw [hP]; exact all1_any W (hE.fr0 f) hx
  rw [← hP]
  have HONE := Lib.hid hone
  have HKV := Lib.hid (show ∀ p ∈ entL E, keyOf Tryd.prog 37 ((fun q : Nt => Value.agg #[.int .u32 q.a, .int .i64 q.n]) p.1) = some (kln p.1) from fun p hp => by
    obtain ⟨x, hx, rfl⟩ := List.mem_map.1 hp
    exact nkey _ (hE.ents x hx).wf)
  have HI := Lib.hid (show ∀ p ∈ entL E, ∀ q ∈ entL E, kln p.1 = kln q.1 → p.1 = q.1 from fun p hp q hq e => by
    obtain ⟨x, hx, rfl⟩ := List.mem_map.1 hp
    obtain ⟨y, hy, rfl⟩ := List.mem_map.1 hq
    exact kln_inj (hE.ents x hx).wf (hE.ents y hy).wf e)
  have HAP := Lib.hid hE.ap
  have hbnw := HNT.lt
  clear hP hone hE
  go_enter Tryd.func82, Tryd.ntmps82
  go_wp2_with (at_range; refine wpList_rangeL rfl _ 135 rfl 37 138 keyedN Tryd.underlying135 bn (entL E) kln rfl HNT ?_)
  intro w1 hR1 hF1 hs1
  clear HNT e1 l0
  go_wp2
  go_loopw [5] (fun s5 wr => ∃ (rest : List (Nt × Value)) (cnt : Nat) (o : List Nt) (aO : Option Addr) (cO : Nat) (obO : Option Nat), s5 = .slice aO o.length cO ∧ MapR wr Tryd.prog 37 kln bn w.heap.size (entL E) rest cnt ∧ Own wr.heap 37 2 aO o.length cO (o.flatMap Nt.cells) obO ∧ (∀ g, obO = some g → w.heap.size < g) ∧ Fr (fun _ => False) w wr ∧ Hid (Got E P rest o)) (fun _ wr => wr.rangeLeft bn w.heap.size)
  case atStart => exact ⟨_, _, [], none, 0, none, rfl, hR1, Own.nil _ _ _, (fun _ h => nomatch h), hF1, Lib.hid (Got.start E P)⟩
  case round =>
    clear hR1 hF1 hs1
    obtain ⟨rest, cnt, o, aO, cO, obO, rfl, hR, hO, hN, hF, hG⟩ := hrel
    have hml := hR.left_eq
    have HML := Lib.hid hml
    have hol : o.length + rest.length ≤ E.length := hG.out.len
    clear hml
    go_wp2_with (at_next; refine wpList_nextL rfl _ rfl 37 keyedN bn w.heap.size (entL E) rest cnt kln (fun q : Nt => Value.agg #[.int .u32 q.a, .int .i64 q.n]) rfl hR HKV.out HI.out ?_ ?_)
    · intro hc0 hr0
      subst hr0
      have hrd := hG.out.done
      have hnd := hG.out.nd
      have HDN := Lib.hid hrd
      have HND := Lib.hid hnd
      clear hc0 hrd hnd hG hR HML
      go_wp2_with (fail)
      refine (sortNet_any o aO cO obO wr hO rfl HND.out (by simp only [List.length_nil] at hol; omega)).mono ?_
      rintro e2 w2 ⟨m, rfl, hm1, hm2, hm3, hO2, hF2⟩
      have hF02 : Fr (fun _ => False) w w2 := hF.trans' hF2 (fun i hi e => by have := hN i e; omega)
      have HM := Lib.hid (show NSorted m ∧ (∀ q, q ∈ m ↔ ∃ x ∈ E, x.key = q ∧ P x = true) ∧ m.length ≤ E.length from ⟨hm1, fun q => (hm2 q).trans (HDN.out q), by rw [hm3]; simp only [List.length_nil] at hol; omega⟩)
      rw [← hm3] at hO2
      have HML := Lib.hid hm3
      clear hm1 hm2 hm3 hF2 hO
      go_wp2
      go_ret
      obtain ⟨h1, h2, h3⟩ := HM.out
      exact ⟨m, aO, cO, obO, by rw [HML.out]; rfl, h1, h2, hO2, hF02, fun g hg => Nat.le_of_lt (hN g hg), h3⟩
    · intro pk pv w2 cnt2 hp hR2 hlt2 hF2 hs2 hen
      obtain ⟨x, hx, hpx⟩ := List.mem_map.1 (hR.sub (pk, pv) hp)
      simp only [Prod.mk.injEq] at hpx
      obtain ⟨rfl, rfl⟩ := hpx
      try simp only at hR2 hen
      have hrw := hR.lt
      have hO2 := hO.fr hF2 (fun g hg e => by have := hN g hg; omega)
      have hFw2 : Fr (fun _ => False) w w2 := hF.trans' hF2 (fun i hi e => by omega)
      have HP := Lib.hid hp
      have HX := Lib.hid hx
      have hF3 := hFw2.alloc (.cells #[.int .u32 x.key.a, .int .i64 x.key.n] 37)
      have hR3 := hR2.fr (S := fun _ => False) ((Fr.refl _ _).alloc (.cells #[.int .u32 x.key.a, .int .i64 x.key.n] 37)) (fun h => h) (fun h => h)
      have hO3 := hO2.alloc (.cells #[.int .u32 x.key.a, .int .i64 x.key.n] 37)
      have hB3 := Blk.made w2 37 [.int .u32 x.key.a, .int .i64 x.key.n]
      clear hR hO hF hF2 hs2 hR2 hO2 hFw2 hp hx
      go_wp2_with (fail)
      refine (HONE.out _ hF3 x HX.out).mono ?_
      rintro e4 w4 ⟨rfl, hF4⟩
      have hF04 := hF3.trans hF4
      have hR4 := hR3.fr hF4 (fun h => h) (fun h => h)
      have hO4 := hO3.fr hF4 (fun _ _ h => h)
      have hB4 := hB3.fr hF4 (fun h => h)
      clear hF3 hR3 hO3 hB3 hF4 hen
      cases hpx : P x with
      | false =>
        have HG2 := Lib.hid (hG.out.skip HAP.out HX.out HP.out hpx)
        clear hpx hB4
        go_wp2
        go_roundw
        case rel => exact ⟨_, cnt2, o, aO, cO, obO, rfl, hR4, hO4, hN, hF04, HG2⟩
        case measure => rw [hR4.left_eq, HML.out]; exact hlt2
      | true =>
        have HG2 := Lib.hid (hG.out.take HX.out HP.out hpx)
        have b0 := hB4.cell 0
        have b1 := hB4.cell 1
        have lb := hB4.lt
        simp only [List.getElem?_cons_succ, List.getElem?_cons_zero] at b0 b1
        have hrd := rd_lit w4 37 [.int .u32 x.key.a, .int .i64 x.key.n]
        have hO5 := hO4.alloc (.cells #[.int .u32 x.key.a, .int .i64 x.key.n] 37)
        have hR5 := hR4.fr (S := fun _ => False) ((Fr.refl _ _).alloc (.cells #[.int .u32 x.key.a, .int .i64 x.key.n] 37)) (fun h => h) (fun h => h)
        have hF05 := hF04.alloc (.cells #[.int .u32 x.key.a, .int .i64 x.key.n] 37)
        have hbnl := hR4.map.lt
        have hrl := hR4.lt
        clear hpx hB4 hO4 hR4 hF04
        go_wp2_with (at_builtin; refine wpList_app rfl _ _ 65 rfl Tryd.underlying65 infoNt rfl (by decide) rfl rfl hO5 hrd (by simp [Value.oneCell']) (by omega) (by omega) ?_)
        intro a6 c6 w6 ob6 v1 v2 v3
        have hbn6 : ¬ obO = some bn := fun e => by have := hN _ e; omega
        have hR6 := hR5.fr v2 (fun e => hbn6 e) (fun e => by have := hN _ e; omega)
        have hF06 : Fr (fun _ => False) w w6 := hF05.trans' v2 (fun i hi e => by have := hN i e; omega)
        have hO6 : Own w6.heap 37 2 a6 (o ++ [x.key]).length c6 ((o ++ [x.key]).flatMap Nt.cells) ob6 := by
          rw [List.length_append, List.flatMap_append]; exact v1
        have hN6 : ∀ g, ob6 = some g → w.heap.size < g := fun g hg => by
          rcases v3 with v3 | ⟨g', v3, v4⟩
          · rw [v3] at hg; exact hN g hg
          · rw [v3] at hg; cases hg; omega
        clear v1 v2 v3 hR5 hO5 hF05 hrd b0 b1
        go_wp2
        go_roundw
        case rel => exact ⟨_, cnt2, o ++ [x.key], a6, c6, ob6, by simp, hR6, hO6, hN6, hF06, HG2⟩
        case measure => rw [hR6.left_eq, HML.out]; exact hlt2

set_option maxRecDepth 100000 in
set_option maxHeartbeats 4000000 in
theorem selDirty_any {U : Nat → Prop} {be bn : Nat} {costs : List Int} {all : List Hea} {E : List Ent} {ac : Option Addr} {cc : Nat} (w : World) (hE : Eng U w be bn costs all E ac cc) (h64 : E.length ≤ 64) :
    Calls Tryd.prog 82 #[.pointer (some ⟨be, 0, none⟩), .func (.func 83) #[] #[]] w (RetSel w E (dirP all costs)) := by
  have e1 := hE.blk.cell 1
  have l0 := hE.blk.lt
  have HNT := hE.nets
  simp only [List.getElem?_cons_succ, List.getElem?_cons_zero] at e1
  obtain ⟨P, hP⟩ : ∃ P, P = dirP all costs := ⟨_, rfl⟩
  have hone : ∀ (W : World) (_ : Fr (fun _ => False) w W) (x : Ent) (_ : x ∈ E), Calls Tryd.prog 83 #[.pointer (some ⟨x.b, 0, none⟩)] W (RetV W (.bool (P x))) := fun W f x hx => by rw [hP]; exact dirty1_any W (hE.fr0 f) hx
  rw [← hP]
  have HONE := Lib.hid hone
  have HKV := Lib.hid (show ∀ p ∈ entL E, keyOf Tryd.prog 37 ((fun q : Nt => Value.agg #[.int .u32 q.a, .int .i64 q.n]) p.1) = some (kln p.1) from fun p hp => by
    obtain ⟨x, hx, rfl⟩ := List.mem_map.1 hp
    exact nkey _ (hE.ents x hx).wf)
  have HI := Lib.hid (show ∀ p ∈ entL E, ∀ q ∈ entL E, kln p.1 = kln q.1 → p.1 = q.1 from fun p hp q hq e => by
    obtain ⟨x, hx, rfl⟩ := List.mem_map.1 hp
    obtain ⟨y, hy, rfl⟩ := List.mem_map.1 hq
    exact kln_inj (hE.ents x hx).wf (hE.ents y hy).wf e)
  have HAP := Lib.hid hE.ap
  have hbnw := HNT.lt
  clear hP hone hE
  go_enter Tryd.func82, Tryd.ntmps82
  go_wp2_with (at_range; refine wpList_rangeL rfl _ 135 rfl 37 138 keyedN Tryd.underlying135 bn (entL E) kln rfl HNT ?_)
  intro w1 hR1 hF1 hs1
  clear HNT e1 l0
  go_wp2
  go_loopw [5] (fun s5 wr => ∃ (rest : List (Nt × Value)) (cnt : Nat) (o : List Nt) (aO : Option Addr) (cO : Nat) (obO : Option Nat), s5 = .slice aO o.length cO ∧ MapR wr Tryd.prog 37 kln bn w.heap.size (entL E) rest cnt ∧ Own wr.heap 37 2 aO o.length cO (o.flatMap Nt.cells) obO ∧ (∀ g, obO = some g → w.heap.size < g) ∧ Fr (fun _ => False) w wr ∧ Hid (Got E P rest o)) (fun _ wr => wr.rangeLeft bn w.heap.size)
  case atStart => exact ⟨_, _, [], none, 0, none, rfl, hR1, Own.nil _ _ _, (fun _ h => nomatch h), hF1, Lib.hid (Got.start E P)⟩
  case round =>
    clear hR1 hF1 hs1
    obtain ⟨rest, cnt, o, aO, cO, obO, rfl, hR, hO, hN, hF, hG⟩ := hrel
    have hml := hR.left_eq
    have HML := Lib.hid hml
    have hol : o.length + rest.length ≤ E.length := hG.out.len
    clear hml
    go_wp2_with (at_next; refine wpList_nextL rfl _ rfl 37 keyedN bn w.heap.size (entL E) rest cnt kln (fun q : Nt => Value.agg #[.int .u32 q.a, .int .i64 q.n]) rfl hR HKV.out HI.out ?_ ?_)
    · intro hc0 hr0
      subst hr0
      have hrd := hG.out.done
      have hnd := hG.out.nd
      have HDN := Lib.hid hrd
      have HND := Lib.hid hnd
      clear hc0 hrd hnd hG hR HML
      go_wp2_with (fail)
      refine (sortNet_any o aO cO obO wr hO rfl HND.out (by simp only [List.length_nil] at hol; omega)).mono ?_
      rintro e2 w2 ⟨m, rfl, hm1, hm2, hm3, hO2, hF2⟩
      have hF02 : Fr (fun _ => False) w w2 := hF.trans' hF2 (fun i hi e => by have := hN i e; omega)
      have HM := Lib.hid (show NSorted m ∧ (∀ q, q ∈ m ↔ ∃ x ∈ E, x.key = q ∧ P x = true) ∧ m.length ≤ E.length from ⟨hm1, fun q => (hm2 q).trans (HDN.out q), by rw [hm3]; simp only [List.length_nil] at hol; omega⟩)
      rw [← hm3] at hO2
      have HML := Lib.hid hm3
      clear hm1 hm2 hm3 hF2 hO
      go_wp2
      go_ret
      obtain ⟨h1, h2, h3⟩ := HM.out
      exact ⟨m, aO, cO, obO, by rw [HML.out]; rfl, h1, h2, hO2, hF02, fun g hg => Nat.le_of_lt (hN g hg), h3⟩
    · intro pk pv w2 cnt2 hp hR2 hlt2 hF2 hs2 hen
      obtain ⟨x, hx, hpx⟩ := List.mem_map.1 (hR.sub (pk, pv) hp)
      simp only [Prod.mk.injEq] at hpx
      obtain ⟨rfl, rfl⟩ := hpx
      try simp only at hR2 hen
      have hrw := hR.lt
      have hO2 := hO.fr hF2 (fun g hg e => by have := hN g hg; omega)
      have hFw2 : Fr (fun _ => False) w w2 := hF.trans' hF2 (fun i hi e => by omega)
      have HP := Lib.hid hp
      have HX := Lib.hid hx
      have hF3 := hFw2.alloc (.cells #[.int .u32 x.key.a, .int .i64 x.key.n] 37)
      have hR3 := hR2.fr (S := fun _ => False) ((Fr.refl _ _).alloc (.cells #[.int .u32 x.key.a, .int .i64 x.key.n] 37)) (fun h => h) (fun h => h)
      have hO3 := hO2.alloc (.cells #[.int .u32 x.key.a, .int .i64 x.key.n] 37)
      have hB3 := Blk.made w2 37 [.int .u32 x.key.a, .int .i64 x.key.n]
      clear hR hO hF hF2 hs2 hR2 hO2 hFw2 hp hx
      go_wp2_with (fail)
      refine (HONE.out _ hF3 x HX.out).mono ?_
      rintro e4 w4 ⟨rfl, hF4⟩
      have hF04 := hF3.trans hF4
      have hR4 := hR3.fr hF4 (fun h => h) (fun h => h)
      have hO4 := hO3.fr hF4 (fun _ _ h => h)
      have hB4 := hB3.fr hF4 (fun h => h)
      clear hF3 hR3 hO3 hB3 hF4 hen
      cases hpx : P x with
      | false =>
        have HG2 := Lib.hid (hG.out.skip HAP.out HX.out HP.out hpx)
        clear hpx hB4
        go_wp2
        go_roundw
        case rel => exact ⟨_, cnt2, o, aO, cO, obO, rfl, hR4, hO4, hN, hF04, HG2⟩
        case measure => rw [hR4.left_eq, HML.out]; exact hlt2
      | true =>
        have HG2 := Lib.hid (hG.out.take HX.out HP.out hpx)
        have b0 := hB4.cell 0
        have b1 := hB4.cell 1
        have lb := hB4.lt
        simp only [List.getElem?_cons_succ, List.getElem?_cons_zero] at b0 b1
        have hrd := rd_lit w4 37 [.int .u32 x.key.a, .int .i64 x.key.n]
        have hO5 := hO4.alloc (.cells #[.int .u32 x.key.a, .int .i64 x.key.n] 37)
        have hR5 := hR4.fr (S := fun _ => False) ((Fr.refl _ _).alloc (.cells #[.int .u32 x.key.a, .int .i64 x.key.n] 37)) (fun h => h) (fun h => h)
        have hF05 := hF04.alloc (.cells #[.int .u32 x.key.a, .int .i64 x.key.n] 37)
        have hbnl := hR4.map.lt
        have hrl := hR4.lt
        clear hpx hB4 hO4 hR4 hF04
        go_wp2_with (at_builtin; refine wpList_app rfl _ _ 65 rfl Tryd.underlying65 infoNt rfl (by decide) rfl rfl hO5 hrd (by simp [Value.oneCell']) (by omega) (by omega) ?_)
        intro a6 c6 w6 ob6 v1 v2 v3
        have hbn6 : ¬ obO = some bn := fun e => by have := hN _ e; omega
        have hR6 := hR5.fr v2 (fun e => hbn6 e) (fun e => by have := hN _ e; omega)
        have hF06 : Fr (fun _ => False) w w6 := hF05.trans' v2 (fun i hi e => by have := hN i e; omega)
        have hO6 : Own w6.heap 37 2 a6 (o ++ [x.key]).length c6 ((o ++ [x.key]).flatMap Nt.cells) ob6 := by
          rw [List.length_append, List.flatMap_append]; exact v1
        have hN6 : ∀ g, ob6 = some g → w.heap.size < g := fun g hg => by
          rcases v3 with v3 | ⟨g', v3, v4⟩
          · rw [v3] at hg; exact hN g hg
          · rw [v3] at hg; cases hg; omega
        clear v1 v2 v3 hR5 hO5 hF05 hrd b0 b1
        go_wp2
        go_roundw
        case rel => exact ⟨_, cnt2, o ++ [x.key], a6, c6, ob6, by simp, hR6, hO6, hN6, hF06, HG2⟩
        case measure => rw [hR6.left_eq, HML.out]; exact hlt2
end Go.Proofs.YtfjempfffdeklaaDoor
