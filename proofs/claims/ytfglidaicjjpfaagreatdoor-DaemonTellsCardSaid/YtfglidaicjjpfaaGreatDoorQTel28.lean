import Derived.Test.YtfglidaicjjpfaaGreatDoorQTel27
import Derived.Test.YtfglidaicjjpfaaGreatDoorQTel21
import Derived.Test.YtfglidaicjjpfaaGreatDoorQTel23
import Derived.Deep.CutBlock
import Derived.Deep.CutRange
import Derived.Deep.DeepCutAuto
import Derived.Test.YtfglidaicjjpfaaGreatDoorQTel25
import Derived.Test.YtfglidaicjjpfaaGreatDoorQTel26
section
namespace Go.Proofs.YtfglidaicjjpfaaGreatDoor
open Go.RowKit

/-- The document's rib while a message is heard. -/
structure QH (w0 w : World) (B : Nat) (t : Int) (l : List Td) (am : Option Addr) (cm : Nat) (ask : Bool) (A : Option Addr) (n C : Nat) : Prop where
  b5 : Blk w.heap B 56 [.int .i64 t, .slice am l.length cm]
  b7 : Blk w.heap (B + 1) 26 [.bool ask, .slice A n C]
  b10 : Blk w.heap (B + 2) 56 [.int .i64 0, .slice none 0 0]
  rd : Recs w.heap am 5 Td.cells l
  new : ∀ b off, am = some ⟨b, off, none⟩ → B + 3 ≤ b
  fr : Fr (fun _ => False) w0 w
  ok : RibOk t l
  old : w0.heap.size = B
namespace QH
variable {w0 w w' : World} {B : Nat} {t : Int} {l l' : List Td} {am am' : Option Addr} {cm cm' : Nat} {ask : Bool} {A : Option Addr} {n C : Nat}
theorem fr0 (h : QH w0 w B t l am cm ask A n C) (f : Fr (fun _ => False) w w') : QH w0 w' B t l am cm ask A n C :=
  ⟨h.b5.fr f (fun h => h), h.b7.fr f (fun h => h), h.b10.fr f (fun h => h), h.rd.fr f (fun _ _ _ h => h), h.new, h.fr.trans f, h.ok, h.old⟩
theorem cells (h : QH w0 w B t l am cm ask A n C) : w.cell? ⟨B, 0, none⟩ = some (.int .i64 t) ∧ w.cell? ⟨B, 1, none⟩ = some (.slice am l.length cm) ∧ w.frozen? ⟨B, 0, none⟩ = false ∧ w.frozen? ⟨B, 1, none⟩ = false ∧ w.cell? ⟨B + 1, 1, none⟩ = some (.slice A n C) ∧ w.cell? ⟨B + 1 + 1, 0, none⟩ = some (.int .i64 0) ∧ w.cell? ⟨B + 1 + 1, 1, none⟩ = some (.slice none 0 0) ∧ w.frozen? ⟨B + 1 + 1, 0, none⟩ = false ∧ w.frozen? ⟨B + 1 + 1, 1, none⟩ = false ∧ B + 1 + 1 < w.heap.size :=
  ⟨h.b5.cell 0, h.b5.cell 1, h.b5.frozen 0, h.b5.frozen 1, h.b7.cell 1, h.b10.cell 0, h.b10.cell 1, h.b10.frozen 0, h.b10.frozen 1, h.b10.lt⟩
theorem put (h : QH w0 w B t l am cm ask A n C) (f : Fr (fun _ => False) w w') (hok : RibOk t l') (hrd : Recs w'.heap am' 5 Td.cells l') (hnew : ∀ b off, am' = some ⟨b, off, none⟩ → B + 3 ≤ b) :
    QH w0 ((w'.setCell ⟨B, 0, none⟩ (.int .i64 t)).setCell ⟨B, 1, none⟩ (.slice am' l'.length cm')) B t l' am' cm' ask A n C := by
  obtain ⟨q1, q2⟩ := putB2 (h.b5.fr f (fun h => h)) (.int .i64 t) (.slice am' l'.length cm')
  have hold := h.old
  exact ⟨q1, (h.b7.fr f (fun h => h)).fr q2 (fun e => by omega), (h.b10.fr f (fun h => h)).fr q2 (fun e => by omega), hrd.fr q2 (fun b off e hh => by have := hnew b off e; omega), hnew, (h.fr.trans f).trans' q2 (fun i hi e => by omega), hok, hold⟩
end QH
theorem hearL_now {D : DC} {f t : Int} {l : List Td} {es : List En} {k : Nat} {r : Except Int (List Td)} {e : En} (hk : k < es.length) (he : e = nth es k) (ho : (⟨e.a, e.n⟩ : Nt) ∉ D.own) (hr : r = learnE t (hearL D f t l (es.take k)) f e.a e.n e.m t) :
    (∀ q, r = .error q → hearL D f t l (es.take (k + 1)) = hearL D f t l (es.take k)) ∧ ∀ l', r = .ok l' → hearL D f t l (es.take (k + 1)) = l' := by
  subst he
  rw [hearL_step D f t l es hk]
  exact ⟨fun q hq => hear1_err ho (hr.symm.trans hq), fun l' hq => hear1_ok ho (hr.symm.trans hq)⟩
set_option maxRecDepth 100000 in
set_option maxHeartbeats 8000000 in
theorem qheard_any {M N : Nat} (D : DC) (l : List Td) (am : Option Addr) (cm : Nat) (now0 f t : Int) (ao : Option Addr) (co : Nat) (ask : Bool) (es : List En) (A : Option Addr) (C : Nat) (w : World) (hL : Recs w.heap am 5 Td.cells l) (hb : RibOk now0 l) (hn : now0 ≤ t) (hm : t ≤ 1099511627776)
    (hO : Recs w.heap ao 2 Nt.cells D.own) (hol : D.own.length ≤ 25) (hE : Recs w.heap A 5 En.cells es) (hes : es.length ≤ 25) (hew : ∀ e ∈ es, En.wf e) (hM : M = D.own.length) (hN : N = es.length) :
    Calls Tryz.prog 19 #[.agg #[.int .i64 now0, .slice am l.length cm], .slice ao M co, .agg #[.bool ask, .slice A N C], .int .i64 f, .int .i64 t] w (RetRb w t (hearL D f t (rAged t l) es)) := by
  subst hM
  subst hN
  have HO := Lib.hid hO
  have HE := Lib.hid hE
  have HW := Lib.hid hew
  have hll := hb.len
  have hF0 := (((Fr.refl (fun _ => False) w).alloc (.cells #[.int .i64 now0, .slice am l.length cm] 56)).alloc (.cells #[.bool ask, .slice A es.length C] 26)).alloc (.cells #[.int .i64 0, .slice none 0 0] 56)
  have hB5 := ((Blk.made w 56 [.int .i64 now0, .slice am l.length cm]).alloc (.cells #[.bool ask, .slice A es.length C] 26)).alloc (.cells #[.int .i64 0, .slice none 0 0] 56)
  have hB7 := (Blk.made (w.alloc (.cells #[.int .i64 now0, .slice am l.length cm] 56)) 26 [.bool ask, .slice A es.length C]).alloc (.cells #[.int .i64 0, .slice none 0 0] 56)
  have hB10 := Blk.made ((w.alloc (.cells #[.int .i64 now0, .slice am l.length cm] 56)).alloc (.cells #[.bool ask, .slice A es.length C] 26)) 56 [.int .i64 0, .slice none 0 0]
  rw [show (w.alloc (.cells #[.int .i64 now0, .slice am l.length cm] 56)).heap.size = w.heap.size + 1 by simp] at hB7
  rw [show ((w.alloc (.cells #[.int .i64 now0, .slice am l.length cm] 56)).alloc (.cells #[.bool ask, .slice A es.length C] 26)).heap.size = w.heap.size + 2 by simp] at hB10
  have hcall := qaged_any l am cm now0 t _ (hL.fr hF0 (fun _ _ _ h => h)) hb hn hm
  have hok := rAged_ok hb hn hm
  have HB5 := Lib.hid hB5
  have HB7 := Lib.hid hB7
  have HB10 := Lib.hid hB10
  have hB := Lib.hid (rfl : w.heap.size = w.heap.size)
  clear hO hE hew hL hb hB5 hB7 hB10
  go_enter Tryz.func19, Tryz.ntmps19
  go_wp2_with (fail)
  refine hcall.mono ?_
  intro e1 w1 R1
  obtain ⟨a1, c1, rfl, hR1, hF1, hN1⟩ := R1.rb
  have hb5 := HB5.out.fr hF1 (fun h => h)
  obtain ⟨q1, q2⟩ := putB2 hb5 (.int .i64 t) (.slice a1 (rAged t l).length c1)
  have k0 : QH w ((w1.setCell ⟨w.heap.size, 0, none⟩ (.int .i64 t)).setCell ⟨w.heap.size, 1, none⟩ (.slice a1 (rAged t l).length c1)) w.heap.size t (rAged t l) a1 c1 ask A es.length C :=
    ⟨q1, (HB7.out.fr hF1 (fun h => h)).fr q2 (fun e => by omega), (HB10.out.fr hF1 (fun h => h)).fr q2 (fun e => by omega), hR1.fr q2 (fun b off e hh => by have := hN1 b off e; simp at this; omega), (fun b off e => by have := hN1 b off e; simp at this; omega), (hF0.trans hF1).trans' q2 (fun i hi e => by omega), hok, rfl⟩
  have b0 := hb5.cell 0
  have b1 := hb5.cell 1
  have g0 := hb5.frozen 0
  have g1 := hb5.frozen 1
  have bl := hb5.lt
  simp only [List.getElem?_cons_succ, List.getElem?_cons_zero] at b0 b1
  have K0 := Lib.hid k0
  clear hcall R1 hR1 hF1 hN1 hb5 q1 q2 k0 hF0 hok
  go_wp2
  go_loopw [11] (fun s11 wr => ∃ (k : Nat) (l' : List Td) (ad : Option Addr) (cd : Nat), k ≤ es.length ∧ s11 = .int .i64 k ∧ QH w wr w.heap.size t l' ad cd ask A es.length C ∧ Hid (l' = hearL D f t (rAged t l) (es.take k))) (fun s _ => es.length - (intOf s).toNat)
  case atStart => exact ⟨0, _, a1, c1, by omega, rfl, K0.out, Lib.hid rfl⟩
  case round =>
    clear b0 b1 g0 g1 bl K0 HB5 HB7 HB10
    obtain ⟨k, l', ad, cd, hk, rfl, hI, hl'⟩ := hrel
    obtain ⟨m0, m1, m2, m3, m4, m5, m6, m7, m8, m9⟩ := hI.cells
    by_cases hke : k < es.length
    · obtain ⟨gA, oA, rfl, hgA, hcA⟩ := Recs.pos HE.out En.cells_len (by omega) (by omega)
      have dd := fun (j : Nat) (hj : j < 5) => hcA w rfl k j hke hj
      have d0 := dd 0 (by omega)
      have d1 := dd 1 (by omega)
      have d4 := dd 4 (by omega)
      have hx := HW.out _ (nth_mem es k hke)
      obtain ⟨x, hxe⟩ : ∃ x, x = nth es k := ⟨_, rfl⟩
      rw [← hxe] at d0 d1 d4 hx
      have HXE := Lib.hid hxe
      have hstep := Lib.hid (fun (ho : (⟨x.a, x.n⟩ : Nt) ∉ D.own) (r : Except Int (List Td)) (hr : r = learnE t (hearL D f t (rAged t l) (es.take k)) f x.a x.n x.m t) => hearL_now (D := D) (f := f) (t := t) (l := rAged t l) hke HXE.out ho hr)
      have hown := Lib.hid (fun (ho : (⟨x.a, x.n⟩ : Nt) ∈ D.own) => show hearL D f t (rAged t l) (es.take (k + 1)) = hearL D f t (rAged t l) (es.take k) by rw [hearL_step D f t _ es hke, ← HXE.out]; exact hear1_own ho)
      clear hxe HXE
      obtain ⟨xa, xn, xt, xp, xm⟩ := x
      have hx2 := hx.1
      simp only at hx2
      simp only [En.cells, List.getElem?_cons_zero, List.getElem?_cons_succ, ← Nat.add_assoc, Nat.add_zero] at d0 d1 d4
      have hb := Lib.hid (fun (W : World) (fr : Fr (fun _ => False) w W) => (⟨(fr.cell (p := ⟨gA, oA + k * 5, none⟩) hgA (fun h => h)).trans d0, (fr.cell (p := ⟨gA, oA + k * 5 + 1, none⟩) hgA (fun h => h)).trans d1, (fr.cell (p := ⟨gA, oA + k * 5 + 4, none⟩) hgA (fun h => h)).trans d4⟩ : W.cell? ⟨gA, oA + k * 5, none⟩ = some (.int .u32 xa) ∧ W.cell? ⟨gA, oA + k * 5 + 1, none⟩ = some (.int .i64 xn) ∧ W.cell? ⟨gA, oA + k * 5 + 4, none⟩ = some (.int .i64 xm)))
      clear dd hcA d0 d1 d4 hx
      obtain ⟨e0, e1, e4⟩ := hb.out wr hI.fr
      have hgr := Nat.lt_of_lt_of_le hgA hI.fr.size
      have hpl := placesB_any D.own ⟨xa, xn⟩ ao co wr (HO.out.fr hI.fr (fun _ _ _ h => h)) (by omega) rfl
      have hsz := hI.old
      have s1 : decide (k < es.length) = true := decide_eq_true hke
      by_cases ho : (⟨xa, xn⟩ : Nt) ∈ D.own
      · have HL := Lib.hid (hl'.out.trans (hown.out ho).symm)
        unfold PlacesB at hpl
        simp only [ho, decide_true, Bool.not_true] at hpl
        have HI := Lib.hid hI
        clear hI
        go_wp2_with (fail)
        refine hpl.mono ?_
        rintro e5 w5 ⟨p, rfl, hF5, hp1, hp2, -, -⟩
        have HI5 := Lib.hid (HI.out.fr0 hF5)
        clear hpl hF5 hp1
        go_wp2
        go_roundw
        case rel => exact ⟨k + 1, l', ad, cd, by omega, by go_num, HI5.out, HL⟩
        case measure => simp [intOf]; omega
      · unfold PlacesB at hpl
        simp only [ho, decide_false, Bool.not_false] at hpl
        have HI := Lib.hid hI
        clear hI
        go_wp2_with (fail)
        refine hpl.mono ?_
        rintro e5 w5 ⟨p, rfl, hF5, hp1, hp2, -, -⟩
        have hI5 := HI.out.fr0 hF5
        clear hpl hF5 hp1 m0 m1 m2 m3 m4 m5 m6 m7 m8 m9 e0 e1 e4 hgr
        have HQ : ∀ W : World, Fr (fun _ => False) w5 W → Calls Tryz.prog 53 #[.agg #[.int .i64 t, .slice ad l'.length cd], .int .i64 f, .agg #[.int .u32 xa, .int .i64 xn], .int .i64 xm, .int .i64 t] W (RetLearn W t ad l'.length cd t (learnE t l' f xa xn xm t)) := fun W hW => qlearnt_any l' ad cd t f xa xn xm t W ((hI5.fr0 hW).rd) hI5.ok hx2
        have hokl : ∀ l'', learnE t l' f xa xn xm t = .ok l'' → RibOk t l'' := fun l'' hl'' => (learn_ok hI5.ok hx2 hl'').1
        obtain ⟨r, hr⟩ : ∃ r, r = learnE t l' f xa xn xm t := ⟨_, rfl⟩
        have hq0 : ∀ q, r = .error q → q ≠ 0 := fun q hq => ckO_learn (hr.symm.trans hq)
        obtain ⟨st1, st2⟩ := hstep.out ho r (by rw [← hl'.out]; exact hr)
        have ST1 := Lib.hid st1
        have ST2 := Lib.hid st2
        rw [← hr] at HQ hokl
        have HQQ := Lib.hid HQ
        have HOK := Lib.hid hokl
        have HQ0 := Lib.hid hq0
        clear HQ hokl hq0 hr st1 st2 hstep hown
        go_upto_region 6 with (fail)
        go_cut [12, 13] from 17 to 54 (fun s12 s13 wx => ∃ (p : Nat) (t1 : Int) (a1 : Option Addr) (n1 c1 : Nat) (ev : Int), s12 = .pointer (some ⟨p, 0, none⟩) ∧ s13 = .int .i64 ev ∧ Fr (fun _ => False) w5 wx ∧ Blk wx.heap p 56 [.int .i64 t1, .slice a1 n1 c1] ∧ w5.heap.size ≤ p ∧ LRes w5.heap.size wx.heap t r t1 a1 n1 ev)
        case first =>
          have qa := fun c : Cls (fun _ => False) w5 => (hI5.fr0 c.fr).cells.1
          have qb := fun c : Cls (fun _ => False) w5 => (hI5.fr0 c.fr).cells.2.1
          have qc := fun c : Cls (fun _ => False) w5 => (hI5.fr0 c.fr).cells.2.2.2.2.1
          have q0 := fun c : Cls (fun _ => False) w5 => (hb.out c.wo (hI5.fr.trans c.fr)).1
          have q1 := fun c : Cls (fun _ => False) w5 => (hb.out c.wo (hI5.fr.trans c.fr)).2.1
          have q4 := fun c : Cls (fun _ => False) w5 => (hb.out c.wo (hI5.fr.trans c.fr)).2.2
          have ql := fun c : Cls (fun _ => False) w5 => Nat.lt_of_lt_of_le hgA (hI5.fr.trans c.fr).size
          have qm := fun c : Cls (fun _ => False) w5 => (hI5.fr0 c.fr).b7.lt
          have qn := fun c : Cls (fun _ => False) w5 => (hI5.fr0 c.fr).b5.lt
          (refine wp_region_tree (fun w' => ∃ c : Cls (fun _ => False) w5, w' = c.wo) 21 (by kernel_rfl) (by kernel_rfl) (⟨⟨_, (Fr.refl _ _).drew⟩, rfl⟩) ?_; intro hTB)
          (refine tr_late hTB (⟨⟨_, (Fr.refl _ _).drew⟩, rfl⟩) 0 15 _ rfl (by decide) (by kernel_rfl) ?_; simp only [List.take_succ_cons, List.take_zero, List.drop_succ_cons, List.drop_zero]; (repeat (go_big_quiet_step (fail))); refine wpQuiet_nil ?_)
          clear qa qb qc q0 q1 q4 ql qm qn
          (refine tr_eff [15, 19] _ rfl (by kernel_rfl) (by kernel_rfl) (List.forall_mem_cons.2 ⟨?_, List.forall_mem_cons.2 ⟨?_, fun _ h => nomatch h⟩⟩)) <;> (unfold TrE; simp only [List.take_succ_cons, List.take_zero, List.drop_succ_cons, List.drop_zero])
          · go_wp2_with (fail)
            refine (HQQ.out _ (Fr.refl _ _).drew).mono ?_
            intro e6 w6 R6
            obtain ⟨t1, a1, n1, c1, ev, rfl, hF6, hL6⟩ := R6.flat
            have hFx := (Fr.refl (fun _ => False) w5).drew.trans hF6
            have hFy := (hFx.alloc (.cells #[.int .i64 0, .slice none 0 0] 56))
            have hsz6 := hFx.size
            have hL7 := hL6.fr0 ((Fr.refl (fun _ => False) w6).alloc (.cells #[.int .i64 t1, .slice a1 n1 c1] 56))
            have hB := Blk.made w6 56 [.int .i64 0, .slice none 0 0]
            have v0 := hB.frozen 0
            have v1 := hB.frozen 1
            have vl := hB.lt
            have HFX := Lib.hid hFx
            have HFY := Lib.hid hFy
            have HL7 := Lib.hid hL7
            have HFW := Lib.hid (hFx.alloc (.cells #[.int .i64 t1, .slice a1 n1 c1] 56))
            have HBW := Lib.hid (Blk.made w6 56 [.int .i64 t1, .slice a1 n1 c1])
            clear hF6 hFx hFy hB R6 hL6 hL7
            go_wp2
            refine ⟨⟨⟨_, HFX.out⟩, rfl⟩, ?_⟩
            (refine tr_late hTB (⟨⟨_, (Fr.refl _ _).drew⟩, rfl⟩) 16 3 _ rfl (by decide) (by kernel_rfl) ?_; simp only [List.take_succ_cons, List.take_zero, List.drop_succ_cons, List.drop_zero]; (repeat (go_big_quiet_step (fail))); refine wpQuiet_nil ?_)
            (refine tr_eff [19] _ rfl (by kernel_rfl) (by kernel_rfl) (List.forall_mem_cons.2 ⟨?_, fun _ h => nomatch h⟩)) <;> (unfold TrE; simp only [List.take_succ_cons, List.take_zero, List.drop_succ_cons, List.drop_zero])
            go_wp2
            refine ⟨⟨⟨_, HFY.out⟩, rfl⟩, ?_⟩
            (refine tr_eff [20] _ rfl (by kernel_rfl) (by kernel_rfl) (List.forall_mem_cons.2 ⟨?_, fun _ h => nomatch h⟩)) <;> (unfold TrE; simp only [List.take_succ_cons, List.take_zero, List.drop_succ_cons, List.drop_zero])
            go_wp2
            refine ⟨⟨⟨_, HFW.out⟩, rfl⟩, ?_⟩
            refine tr_end (by kernel_rfl) ?_
            go_wp2
            go_meet
            exact ⟨w6.heap.size, t1, a1, n1, c1, ev, rfl, rfl, HFW.out, HBW.out, hsz6, HL7.out⟩
          · have hFa := ((Fr.refl (fun _ => False) w5).drew.alloc (.cells #[.int .i64 0, .slice none 0 0] 56))
            have hBa := Blk.made w5.drew 56 [.int .i64 0, .slice none 0 0]
            have hps : w5.drew.heap.size = w5.heap.size := by simp
            have hq := HQQ.out _ hFa
            rw [hps] at hBa
            go_wp2
            refine ⟨⟨⟨_, hFa⟩, rfl⟩, ?_⟩
            (refine tr_eff [15] _ rfl (by kernel_rfl) (by kernel_rfl) (List.forall_mem_cons.2 ⟨?_, fun _ h => nomatch h⟩)) <;> (unfold TrE; simp only [List.take_succ_cons, List.take_zero, List.drop_succ_cons, List.drop_zero])
            go_wp2_with (fail)
            refine hq.mono ?_
            intro e6 w6 R6
            obtain ⟨t1, a1, n1, c1, ev, rfl, hF6, hL6⟩ := R6.flat
            have hFx := hFa.trans hF6
            have hB6 := hBa.fr hF6 (fun h => h)
            have hLle := hL6.le (C := w5.heap.size + 1) (by simp)
            have v0 := hB6.frozen 0
            have v1 := hB6.frozen 1
            have vl := hB6.lt
            have u0 := hB6.cell 0
            have u1 := hB6.cell 1
            simp only [List.getElem?_cons_zero, List.getElem?_cons_succ] at u0 u1
            have HFX := Lib.hid hFx
            have HB6 := Lib.hid hB6
            have HL6 := Lib.hid hLle
            clear hF6 hFx hB6 R6 hL6 hLle hq hBa hFa
            go_wp2
            refine ⟨⟨⟨_, HFX.out⟩, rfl⟩, ?_⟩
            (refine tr_late hTB (⟨⟨_, (Fr.refl _ _).drew⟩, rfl⟩) 16 3 _ rfl (by decide) (by kernel_rfl) ?_; simp only [List.take_succ_cons, List.take_zero, List.drop_succ_cons, List.drop_zero]; (repeat (go_big_quiet_step (fail))); refine wpQuiet_nil ?_)
            (refine tr_eff [20] _ rfl (by kernel_rfl) (by kernel_rfl) (List.forall_mem_cons.2 ⟨?_, fun _ h => nomatch h⟩)) <;> (unfold TrE; simp only [List.take_succ_cons, List.take_zero, List.drop_succ_cons, List.drop_zero])
            have hS6 := putB2 HB6.out (.int .i64 t1) (.slice a1 n1 c1)
            have HS6 := Lib.hid hS6
            have HFZ := Lib.hid (HFX.out.trans' hS6.2 (fun i hi e => by have e : i = w5.heap.size := e; omega))
            have HL7 := Lib.hid ((HL6.out.frP hS6.2 (Nat.lt_succ_self _)).le (Nat.le_succ _))
            clear hS6
            go_wp2
            refine ⟨⟨⟨_, HFZ.out⟩, rfl⟩, ?_⟩
            refine tr_end (by kernel_rfl) ?_
            go_wp2
            go_meet
            exact ⟨w5.heap.size, t1, a1, n1, c1, ev, rfl, rfl, HFZ.out, HS6.out.1, Nat.le_refl _, HL7.out⟩
        case rest =>
          obtain ⟨p, t1, a1, n1, c1, ev, rfl, rfl, hFc, hBp, hpl, hLr⟩ := hcut
          have hIx := hI5.fr0 hFc
          have hbp0 := hBp.cell 0
          have hbp1 := hBp.cell 1
          have hbpl := hBp.lt
          simp only [List.getElem?_cons_zero, List.getElem?_cons_succ] at hbp0 hbp1
          obtain ⟨m0, m1, m2, m3, m4, m5, m6, m7, m8, m9⟩ := hIx.cells
          have hsI := hI5.b10.lt
          have HIX := Lib.hid hIx
          clear hIx hI5
          rcases hLr with ⟨q, rfl, rfl⟩ | ⟨l'', rfl, rfl, rfl, rfl, hRc, hNb⟩
          · have hne : (ev == 0) = false := by have := HQ0.out ev rfl; simpa using this
            have HL := Lib.hid (hl'.out.trans (ST1.out ev rfl).symm)
            clear hBp
            go_wp2
            go_roundw
            case rel => exact ⟨k + 1, l', ad, cd, by omega, by go_num, HIX.out, HL⟩
            case measure => simp [intOf]; omega
          · have HL := Lib.hid (ST2.out l'' rfl).symm
            have HIP := Lib.hid (HIX.out.put (cm' := c1) (Fr.refl _ _) (HOK.out l'' rfl) hRc (fun b off e => by have := hNb b off e; omega))
            clear hBp hRc
            go_wp2
            go_roundw
            case rel => exact ⟨k + 1, l'', a1, c1, by omega, by go_num, HIP.out, HL⟩
            case measure => simp [intOf]; omega
    · obtain rfl : k = es.length := by omega
      have HL := Lib.hid (show hearL D f t (rAged t l) es = l' by rw [hl'.out, List.take_length])
      have s1 : decide (es.length < es.length) = false := by simp
      obtain ⟨q1, q2⟩ := putB2 hI.b10 (.int .i64 t) (.slice ad l'.length cd)
      have y0 := q1.cell 0
      have y1 := q1.cell 1
      simp only [List.getElem?_cons_succ, List.getElem?_cons_zero] at y0 y1
      have hsz := hI.old
      have HF := Lib.hid (hI.fr.trans' q2 (fun i hi e => by omega))
      have HRD := Lib.hid (hI.rd.fr q2 (fun b off e hh => by have := hI.new b off e; omega))
      have HNW := Lib.hid (show ∀ b off, ad = some ⟨b, off, none⟩ → w.heap.size ≤ b from fun b off e => by have := hI.new b off e; omega)
      clear q1 q2 hI
      go_wp2
      refine bodyPost_ret (v := .agg #[.int .i64 t, .slice ad l'.length cd]) (by simp [results, Tryz.results19, go_sem, y0, y1]) rfl ?_
      exact RetRb.mk rfl (by rw [HL.out]) (by rw [HL.out]; exact HRD.out) HF.out HNW.out
end Go.Proofs.YtfglidaicjjpfaaGreatDoor
end

section
namespace Go.Proofs.YtfglidaicjjpfaaGreatDoor
open Go.RowKit Go.Maps

/-- The document's nets: own ones and those heard of. -/
theorem qnets {own : List Nt} {l : List Td} (h25 : own.length ≤ 25) (hnd : own.Nodup) (h64 : l.length ≤ 64) (hout : ∀ x ∈ l, (⟨x.a, x.n⟩ : Nt) ∉ own) : ∃ O : List Nt, O = ordered (own ++ netsM (hdL l)) ∧ NSorted O ∧ O.length = (own ++ netsM (hdL l)).length ∧ O.length ≤ 89 ∧ ∀ q : Nt, q ∈ O ↔ q ∈ own ∨ ∃ x ∈ l, (⟨x.a, x.n⟩ : Nt) = q := by
  have hnm : ∀ q : Nt, q ∈ netsM (hdL l) ↔ ∃ x ∈ l, (⟨x.a, x.n⟩ : Nt) = q := fun q => by
    unfold netsM
    rw [ordered_mem]
    exact fst_hd l q
  have hsn : (netsM (hdL l)).Nodup := nsn (ordered_sorted (fstN_nodup _))
  have hN : (own ++ netsM (hdL l)).Nodup := by
    refine List.nodup_append.2 ⟨hnd, hsn, fun a ha b hb e => ?_⟩
    subst e
    obtain ⟨x, hx, he⟩ := (hnm a).1 hb
    exact hout x hx (by rw [he]; exact ha)
  have hlen : (netsM (hdL l)).length ≤ 64 := by
    rw [netsM_len]
    have := fstN_le (hdL l)
    simp only [List.length_map] at this
    omega
  refine ⟨_, rfl, ordered_sorted hN, ordered_len _, by rw [ordered_len, List.length_append]; omega, fun q => ?_⟩
  rw [ordered_mem, List.mem_append, hnm]
/-- So far: the ways to the first nets. -/
def QGo (D : DC) (l : List Td) (O : List Nt) (k : Nat) (R : List BestR) : Prop := R.length = k ∧ R.map bnet = O.take k ∧ ∀ r ∈ R, (r.m, r.h) = bestD D l (bnet r)
theorem QGo.step {D : DC} {l : List Td} {O : List Nt} {k : Nat} {R : List BestR} (h : QGo D l O k R) (hk : k < O.length) {x : BestR} (hx : bnet x = nth O k) (hv : (x.m, x.h) = bestD D l (bnet x)) : QGo D l O (k + 1) (R ++ [x]) := by
  obtain ⟨h1, h2, h3⟩ := h
  refine ⟨by rw [List.length_append, h1]; rfl, by rw [List.map_append, h2, take_succ_nth O k hk, ← hx]; rfl, fun r hr => ?_⟩
  rcases List.mem_append.1 hr with hr | hr
  · exact h3 r hr
  · rw [List.mem_singleton.1 hr]; exact hv
theorem QGo.all {D : DC} {l : List Td} {O : List Nt} {R : List BestR} (h : QGo D l O O.length R) (hs : NSorted O) (hm : ∀ q : Nt, q ∈ O ↔ q ∈ D.own ∨ ∃ x ∈ l, (⟨x.a, x.n⟩ : Nt) = q) (h89 : O.length ≤ 89) : AllR D l R := by
  obtain ⟨h1, h2, h3⟩ := h
  rw [List.take_length] at h2
  exact ⟨by rw [h2]; exact hs, fun q => by rw [h2]; exact hm q, h3, by omega⟩

set_option maxRecDepth 100000 in
set_option maxHeartbeats 8000000 in
theorem qall_any {M N : Nat} (D : DC) (l : List Td) (al : Option Addr) (cl : Nat) (now : Int) (ac ao : Option Addr) (cc co : Nat) (w : World) (hC : Ints w.heap ac D.costs) (hnear : nearE D.costs = none) (hO : Recs w.heap ao 2 Nt.cells D.own) (h25 : D.own.length ≤ 25) (hnd : D.own.Nodup)
    (hL : Recs w.heap al 5 Td.cells l) (hok : RibOk now l) (hout : ∀ x ∈ l, (⟨x.a, x.n⟩ : Nt) ∉ D.own) (hM : M = D.costs.length) (hN : N = D.own.length) :
    Calls Tryz.prog 24 #[.slice ac M cc, .slice ao N co, .agg #[.int .i64 now, .slice al l.length cl]] w (RetDAll w D l) := by
  subst hM
  subst hN
  have h64 := hok.len
  obtain ⟨hc8, hcb⟩ := nearE_ok hnear
  obtain ⟨O, hOe, hOs, hOl, hO89, hOm⟩ := qnets h25 hnd h64 hout
  have HALL := Lib.hid (fun (R : List BestR) (h : QGo D l O O.length R) => h.all hOs hOm hO89)
  have hlb : ∀ x ∈ hdL l, 1 ≤ x.m ∧ x.m ≤ 16 := fun x hx => by
    obtain ⟨y, hy, rfl⟩ := List.mem_map.1 hx
    have := hok.each y hy
    exact ⟨this.m0, this.m1⟩
  have hfl : (fstN (hdL l)).length ≤ 64 := by
    have := fstN_le (hdL l)
    simp only [List.length_map] at this
    omega
  have hnl : (netsM (hdL l)).length ≤ 64 := by rw [netsM_len]; exact hfl
  have hhl : (hdL l).length = l.length := by simp
  have hF0 := (Fr.refl (fun _ => False) w).alloc (.cells #[.int .i64 now, .slice al l.length cl] 56)
  have hB0 := Blk.made w 56 [.int .i64 now, .slice al l.length cl]
  have HC := Lib.hid hC
  have HOW := Lib.hid hO
  have HLB := Lib.hid hlb
  have HCB := Lib.hid hcb
  have HOE := Lib.hid hOe
  have hcallH := Lib.hid (fun (W : World) (f : Fr (fun _ => False) w W) => qheards_any l al cl now W (hL.fr f (fun _ _ _ h => h)) h64)
  have hrd0 := hO.fr hF0 (fun _ _ _ h => h)
  clear hC hO hL hok hout hOs hOm hlb hcb hOe hnear
  go_enter Tryz.func24, Tryz.ntmps24
  go_wp2_with (at_builtin; refine wpList_app rfl _ _ 23 rfl Tryz.underlying23 infoNt rfl (by decide) rfl rfl (Ownd.nil _ _ _) hrd0 (nts_one D.own) (by omega) (by omega) ?_)
  intro a1 c1 w1 ob1 v1 v2 v3
  have hF1 : Fr (fun _ => False) w w1 := hF0.trans v2
  have hO1 : Ownd w1.heap 52 2 a1 D.own.length c1 (D.own.flatMap Nt.cells) ob1 := by simpa using v1
  have hN1 : ∀ g, ob1 = some g → w.heap.size < g := fun g hg => by
    rcases v3 with h | ⟨g', h, h'⟩
    · rw [h] at hg; cases hg
    · rw [hg] at h; cases h
      omega
  have hB1 : Blk w1.heap w.heap.size 56 [.int .i64 now, .slice al l.length cl] := hB0.fr v2 (fun h => h)
  have b0 := hB1.cell 0
  have b1 := hB1.cell 1
  have bl := hB1.lt
  simp only [List.getElem?_cons_succ, List.getElem?_cons_zero] at b0 b1
  clear v1 v2 v3 hB0 hrd0 hF0
  go_wp2_with (fail)
  refine (hcallH.out _ hF1).mono ?_
  rintro e2 w2 ⟨aH, cH, obH, rfl, hOH, hF2, hNH⟩
  have hF02 := hF1.trans hF2
  have hcall3 := netsOf_any (n := l.length) (hdL l) aH cH w2 (rdHd hOH rfl) (by omega) (by omega) hhl.symm
  have hO2 := hO1.fr hF2 (fun _ _ h => h)
  have hB2 := hB1.fr hF2 (fun h => h)
  simp only [id]
  clear hOH hNH hF2 hO1 hF1 hB1 b0 b1 bl
  go_wp2_with (fail)
  refine hcall3.mono ?_
  rintro e3 w3 ⟨aP, cP, obP, rfl, hOP, hF3, hNP⟩
  have hF03 := hF02.trans hF3
  have hO3 := hO2.fr hF3 (fun _ _ h => h)
  have hB3 := hB2.fr hF3 (fun h => h)
  simp only [id]
  obtain ⟨P, hP⟩ : ∃ P, P = netsM (hdL l) := ⟨_, rfl⟩
  rw [← hP] at hOP hnl hOl HOE ⊢
  have HOL := Lib.hid hOl
  have hrdP := hOP.rd
  have HP := Lib.hid hP
  clear hcall3 hF3 hNP hO2 hF02 hOP hP hOl hB2
  obtain ⟨nP, hnP⟩ : ∃ nP, nP = P.length := ⟨_, rfl⟩
  rw [← hnP] at hrdP hnl ⊢
  have HNP := Lib.hid hnP
  clear hnP
  go_wp2_with (at_builtin; refine wpList_app rfl _ _ 23 rfl Tryz.underlying23 infoNt rfl (by decide) rfl rfl hO3 hrdP (nts_one P) (by omega) (by omega) ?_)
  intro a4 c4 w4 ob4 v1 v2 v3
  have hF4 := hF03.trans' v2 (fun k hk e => by have := hN1 k e; omega)
  have hB4 := hB3.fr v2 (fun e => by have h2 := hN1 _ e; omega)
  have hR4 : Recs w4.heap a4 2 Nt.cells (D.own ++ P) := by
    have h := v1.rd
    unfold Recs
    rw [List.flatMap_append, List.length_append, ← HNP.out]
    exact h
  have hcall5 := ordered_any (n := D.own.length + nP) (D.own ++ P) a4 c4 w4 hR4 (by rw [List.length_append, ← HNP.out]; omega) (by rw [List.length_append, HNP.out])
  rw [← HOE.out, ← HOL.out] at hcall5
  clear v1 v2 v3 hO3 hrdP hF03 hB3 hR4
  go_wp2_with (fail)
  refine hcall5.mono ?_
  rintro e5 w5 ⟨a5, c5, ob5, rfl, hO5, hF5, hN5⟩
  have hF05 := hF4.trans hF5
  have hB5 := hB4.fr hF5 (fun h => h)
  have hs5 := hF05.size
  simp only [id]
  clear hcall5 hF5 hF4 hB4 hN5
  have hK0 : QGo D l O 0 [] := ⟨rfl, rfl, fun _ h => nomatch h⟩
  go_wp2
  go_loopw [9, 8] (fun s9 s8 wr => ∃ (i : Nat) (R : List BestR) (aR : Option Addr) (cR : Nat) (ob : Option Nat), i ≤ O.length ∧ s9 = .int .i64 i ∧ s8 = .slice aR i cR ∧ Alls w5.heap.size wr.heap R aR cR ob ∧ Fr (fun _ => False) w5 wr ∧ QGo D l O i R) (fun s _ _ => O.length - (intOf s).toNat)
  case atStart => exact ⟨0, [], none, 0, none, by omega, rfl, rfl, Alls.nil _ _, Fr.refl _ _, hK0⟩
  case round =>
    clear hK0
    obtain ⟨i, R, aR, cR, ob, hi, rfl, rfl, hA, hF, hK⟩ := hrel
    have hFw := hF05.trans hF
    by_cases hiO : i < O.length
    · obtain ⟨g, o, hax, hgl, hgc⟩ := Recs.pos (show Recs w5.heap a5 2 Nt.cells O from hO5.rd) Nt.cells_len (by omega) (by omega)
      subst hax
      have d0 := hgc w5 rfl i 0 hiO (by omega)
      have d1 := hgc w5 rfl i 1 hiO (by omega)
      have HST := Lib.hid (fun (x : BestR) (hx : bnet x = nth O i) (hv : (x.m, x.h) = bestD D l (bnet x)) => hK.step hiO hx hv)
      obtain ⟨y, hy⟩ : ∃ y, y = nth O i := ⟨_, rfl⟩
      rw [← hy] at d0 d1 HST
      obtain ⟨ya, yn⟩ := y
      simp only [Nt.cells, List.getElem?_cons_zero, List.getElem?_cons_succ, ← Nat.add_assoc, Nat.add_zero] at d0 d1
      have hb := Lib.hid (fun (W : World) (f : Fr (fun _ => False) w5 W) => (⟨(f.cell (p := ⟨g, o + i * 2, none⟩) hgl (fun h => h)).trans d0, (f.cell (p := ⟨g, o + i * 2 + 1, none⟩) hgl (fun h => h)).trans d1⟩ : W.cell? ⟨g, o + i * 2, none⟩ = some (.int .u32 ya) ∧ W.cell? ⟨g, o + i * 2 + 1, none⟩ = some (.int .i64 yn)))
      clear hgc hy d0 d1
      obtain ⟨d0, d1⟩ := hb.out wr hF
      have hgr := Nat.lt_of_lt_of_le hgl hF.size
      have hlen := hK.1
      have hRO := hA.own
      rw [hlen] at hRO
      have HA := Lib.hid hA
      have hwr := hF.size
      have s1 : decide (i < O.length) = true := decide_eq_true hiO
      have hpl := placesB_any D.own ⟨ya, yn⟩ ao co wr (HOW.out.fr hFw (fun _ _ _ h => h)) (by omega) rfl
      have HK := Lib.hid hlen
      unfold PlacesB at hpl
      clear hA hlen hK
      by_cases ho : (⟨ya, yn⟩ : Nt) ∈ D.own
      · simp only [ho, decide_true, Bool.not_true] at hpl
        go_wp2_with (fail)
        refine hpl.mono ?_
        rintro e6 w6 ⟨p, rfl, hF6, hp1, hp2, -, -⟩
        obtain ⟨x0, x1⟩ := hb.out w6 (hF.trans hF6)
        have hg6 := Nat.lt_of_lt_of_le hgr hF6.size
        have hrd := rd_lit w6 66 [.int .u32 ya, .int .i64 yn, .int .i64 1, .slice none 0 0]
        have hFb := hF6.alloc (.cells #[.int .u32 ya, .int .i64 yn, .int .i64 1, .slice none 0 0] 66)
        have hOb := hRO.fr hFb (fun _ _ h => h)
        have hS := Lib.hid (HST.out ⟨ya, yn, 1, [], none, 0⟩ rfl (bestD_own ho).symm)
        clear hpl hF6 hRO hp2 d0 d1
        go_wp2_with (at_builtin; refine wpList_app rfl _ _ 37 rfl Tryz.underlying37 infoBst rfl (by decide) rfl rfl hOb hrd (by simp [Value.oneCell']) (by omega) (by omega) ?_)
        intro a8 c8 w8 ob8 v1 v2 v3
        have hF38 : Fr (fun k => ob = some k) wr w8 := (hFb.none _).trans v2
        have hob8 : ob8 = ob ∨ ∃ g, ob8 = some g ∧ wr.heap.size ≤ g := by
          rcases v3 with v3 | ⟨g', v3, v4⟩
          · exact .inl v3
          · exact .inr ⟨g', v3, by have := hFb.size; simp only [World.size_alloc] at this; omega⟩
        have HA8 := Lib.hid (HA.out.push hwr (x := ⟨ya, yn, 1, [], none, 0⟩) (Ownd.nil _ _ _) (fun _ h => nomatch h) (by rw [HK.out]; exact v1) hF38 hob8)
        have hF8 : Fr (fun _ => False) w5 w8 := hF.trans' hF38 (fun q hq e => by have := HA.out.new q e; omega)
        clear v1 v2 v3 hF38 hob8 hrd hFb hOb
        go_wp2
        go_roundw
        case rel => exact ⟨i + 1, _, a8, c8, ob8, by omega, by go_num, rfl, HA8.out, hF8, hS.out⟩
        case measure => simp [intOf]; omega
      · simp only [ho, decide_false, Bool.not_false] at hpl
        go_wp2_with (fail)
        refine hpl.mono ?_
        rintro e6 w6 ⟨p, rfl, hF6, hp1, hp2, -, -⟩
        have hFw6 := hFw.trans hF6
        have hF56 := hF.trans hF6
        have hB6 := hB5.fr hF56 (fun h => h)
        have qa : ∀ c : Cls (fun _ => False) w6, c.wo.cell? ⟨g, o + i * 2, none⟩ = some (.int .u32 ya) := fun c => (hb.out c.wo (hF56.trans c.fr)).1
        have qb : ∀ c : Cls (fun _ => False) w6, c.wo.cell? ⟨g, o + i * 2 + 1, none⟩ = some (.int .i64 yn) := fun c => (hb.out c.wo (hF56.trans c.fr)).2
        have ql : ∀ c : Cls (fun _ => False) w6, g < c.wo.heap.size := fun c => Nat.lt_of_lt_of_le hgl (hF56.trans c.fr).size
        have b0 := hB6.cell 0
        have b1 := hB6.cell 1
        have bl := hB6.lt
        simp only [List.getElem?_cons_succ, List.getElem?_cons_zero] at b0 b1
        have HV := Lib.hid (bestD_other ho : bestD D l ⟨ya, yn⟩ = _)
        clear hpl hp2 d0 d1
        go_wp2
        (refine wp_region_mix (fun w' => ∃ c : Cls (fun _ => False) w6, w' = c.wo) 10 (by kernel_rfl) (by kernel_rfl) (⟨⟨_, (Fr.refl _ _).drew⟩, rfl⟩) ?_; simp only [List.take_succ_cons, List.take_zero, List.drop_succ_cons, List.drop_zero])
        (refine wpMix_lateN 1 (⟨⟨_, (Fr.refl _ _).drew⟩, rfl⟩) (by kernel_rfl) ?_; simp only [List.take_succ_cons, List.take_zero, List.drop_succ_cons, List.drop_zero]; (repeat (go_big_quiet_step (fail))); refine wpQuiet_nil ?_)
        (refine wpMix_earlyN 1 (by kernel_rfl) (by kernel_rfl) ?_; simp only [List.take_succ_cons, List.take_zero, List.drop_succ_cons, List.drop_zero]; (repeat (go_big_quiet_step (fail))); refine wpQuiet_nil ?_)
        refine wpMix_eff (by kernel_rfl) ?_
        go_wp2_with (fail)
        refine (hcallH.out _ hFw6.drew).mono ?_
        rintro e7 w7 ⟨aJ, cJ, obJ, rfl, hOJ, hF7, hNJ⟩
        have hF67 : Fr (fun _ => False) w6 w7 := (Fr.refl (fun _ => False) w6).drew.trans hF7
        simp only [id]
        have hcallB := bestOf_any (N := D.costs.length) (M := l.length) (hdL l) aJ cJ D.costs ac cc ya yn w7 (rdHd hOJ rfl) HLB.out (by omega) (HC.out.fr0 (hFw6.trans hF67) (fun _ _ h => h)) (by omega) HCB.out hhl.symm rfl
        clear hOJ hNJ hF7
        go_wp2
        refine ⟨⟨⟨_, hF67⟩, rfl⟩, ?_⟩
        (refine wpMix_lateN 5 (⟨⟨_, (Fr.refl _ _).drew⟩, rfl⟩) (by kernel_rfl) ?_; simp only [List.take_succ_cons, List.take_zero, List.drop_succ_cons, List.drop_zero]; (repeat (go_big_quiet_step (fail))); refine wpQuiet_nil ?_)
        refine wpMix_eff (by kernel_rfl) ?_
        go_wp2_with (fail)
        refine hcallB.mono ?_
        rw [← HV.out]
        obtain ⟨S, hS⟩ : ∃ S, S = bestD D l ⟨ya, yn⟩ := ⟨_, rfl⟩
        rw [← hS]
        obtain ⟨sm, sh⟩ := S
        rintro e8 w8 ⟨a3, c3, ob3, rfl, hO3, hF8, hN3⟩
        simp only at hO3 ⊢
        have hF68 := hF67.trans hF8
        have hs67 := hF67.size
        have HSS := Lib.hid (HST.out ⟨ya, yn, sm, sh, a3, c3⟩ rfl hS)
        have hFl8 := hF68.alloc (.cells #[.int .u32 ya, .int .i64 yn, .int .i64 sm, .slice a3 sh.length c3] 66)
        clear hcallB hS hF8
        go_wp2
        refine ⟨⟨⟨_, hF68⟩, rfl⟩, ?_⟩
        refine wpMix_eff (by kernel_rfl) ?_
        go_wp2
        refine ⟨⟨⟨_, hFl8⟩, rfl⟩, ?_⟩
        refine wpMix_nil ?_
        have hrd := rd_lit w8 66 [.int .u32 ya, .int .i64 yn, .int .i64 sm, .slice a3 sh.length c3]
        have hOb := (hRO.fr hF6 (fun _ _ h => h)).fr hFl8 (fun _ _ h => h)
        have hFb := hF6.trans hFl8
        have hs6 := hF6.size
        have hlt3 := hO3.lt
        have hoblt : ∀ g, ob = some g → g < wr.heap.size := HA.out.own.lt
        clear qa qb ql b0 b1 bl hB6 hRO
        go_wp2_with (at_builtin; refine wpList_app rfl _ _ 37 rfl Tryz.underlying37 infoBst rfl (by decide) rfl rfl hOb hrd (by simp [Value.oneCell']) (by omega) (by omega) ?_)
        intro a8 c8 w9 ob8 v1 v2 v3
        have hs89 := v2.size
        have hO39 := (hO3.fr ((Fr.refl (fun _ => False) w8).alloc _) (fun _ _ h => h)).fr v2 (fun g hg e => by have := hoblt g e; have := hN3 g hg; omega)
        have hF38 : Fr (fun k => ob = some k) wr w9 := (hFb.none _).trans v2
        have hs8 := hF68.size
        have hob8 : ob8 = ob ∨ ∃ g, ob8 = some g ∧ w8.heap.size < g ∨ ob8 = some g ∧ w8.heap.size + 1 ≤ g := by
          rcases v3 with v3 | ⟨g', v3, v4⟩
          · exact .inl v3
          · exact .inr ⟨g', .inr ⟨v3, by simpa using v4⟩⟩
        have hob9 : ob8 = ob ∨ ∃ g, ob8 = some g ∧ wr.heap.size ≤ g := by
          rcases hob8 with h | ⟨g', ⟨h, h'⟩ | ⟨h, h'⟩⟩
          · exact .inl h
          · exact .inr ⟨g', h, by omega⟩
          · exact .inr ⟨g', h, by omega⟩
        have HA8 := Lib.hid (HA.out.push hwr (x := ⟨ya, yn, sm, sh, a3, c3⟩) hO39 (fun g hg => ⟨by have := hN3 g hg; omega, fun e => by
          have h1 := hlt3 g hg
          have h2 := hN3 g hg
          rcases hob8 with h | ⟨g', ⟨h, h'⟩ | ⟨h, h'⟩⟩
          · rw [h] at e; have := hoblt g e; omega
          · rw [h] at e; cases e; omega
          · rw [h] at e; cases e; omega⟩) (by rw [HK.out]; simpa using v1) hF38 hob9)
        have hF8 : Fr (fun _ => False) w5 w9 := hF.trans' hF38 (fun q hq e => by have := HA.out.new q e; omega)
        clear v1 v2 v3 hO39 hF38 hob8 hob9 hO3 hFb hOb hrd
        go_wp2
        go_roundw
        case rel => exact ⟨i + 1, _, a8, c8, ob8, by omega, by go_num, rfl, HA8.out, hF8, HSS.out⟩
        case measure => simp [intOf]; omega
    · obtain rfl : i = O.length := by omega
      have HAR := Lib.hid (HALL.out R hK)
      have HK := Lib.hid hK.1
      have s1 : decide (O.length < O.length) = false := by simp
      have HA := Lib.hid hA
      clear hA hK
      go_wp2
      go_ret
      exact ⟨R, aR, cR, ob, by rw [HK.out]; rfl, ⟨HA.out.own, fun g hg => by have := HA.out.new g hg; omega, fun x hx => by
        obtain ⟨oo, h1, h2⟩ := HA.out.row x hx
        exact ⟨oo, h1, fun g hg => ⟨by have := (h2 g hg).1; omega, (h2 g hg).2⟩⟩, HA.out.pw⟩, HAR.out, hFw⟩
end Go.Proofs.YtfglidaicjjpfaaGreatDoor
end
