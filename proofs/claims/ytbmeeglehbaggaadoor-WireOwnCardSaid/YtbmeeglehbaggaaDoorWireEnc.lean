import Derived.Deep.CutBlock
import Derived.Deep.CutRange
import Derived.Deep.DeepCutAuto
import Derived.Test.YtbmeeglehbaggaaDoorWirePut
namespace Go.Proofs.YtbmeeglehbaggaaDoor
open Go.RowKit
/-- The bytes of a message, or what is wrong. -/
def RetEnc (w : World) (r : Option Int) (bs : List Int) (e : Ending) (w' : World) : Prop := match r with
  | some k => RetV w (.tuple #[.slice none 0 0, errv k]) e w'
  | none => ∃ a c ob, e = .returned (.tuple #[.slice a bs.length c, .nilIface]) ∧ Own w'.heap 5 1 a bs.length c (ivals .u8 bs) ob ∧ Fr (fun _ => False) w w' ∧ ∀ g, ob = some g → w.heap.size ≤ g
theorem RetEnc.err {w w' : World} {r : Option Int} {bs : List Int} {e : Ending} {k : Int} (hr : r = some k) (he : e = .returned (.tuple #[.slice none 0 0, errv k])) (hF : Fr (fun _ => False) w w') : RetEnc w r bs e w' := by subst hr; exact ⟨he, hF⟩
theorem RetEnc.ok {w w' : World} {r : Option Int} {bs : List Int} {e : Ending} {a : Option Addr} {m c : Nat} {ob : Option Nat} {xs : List Value} (hr : r = none) (he : e = .returned (.tuple #[.slice a m c, .nilIface])) (hm : m = bs.length) (hx : xs = ivals .u8 bs) (hO : Own w'.heap 5 1 a m c xs ob) (hF : Fr (fun _ => False) w w') (hN : ∀ g, ob = some g → w.heap.size ≤ g) : RetEnc w r bs e w' := by
  subst hr; subst hm; subst hx; exact ⟨a, c, ob, he, hO, hF, hN⟩
theorem RetEnc.errE {w w' : World} {r : Option Int} {bs : List Int} {e : Ending} {k : Int} (h : RetEnc w r bs e w') (hr : r = some k) : RetV w (.tuple #[.slice none 0 0, errv k]) e w' := by subst hr; exact h
theorem RetEnc.okE {w w' : World} {r : Option Int} {bs : List Int} {e : Ending} (h : RetEnc w r bs e w') (hr : r = none) : ∃ a c ob, e = .returned (.tuple #[.slice a bs.length c, .nilIface]) ∧ Own w'.heap 5 1 a bs.length c (ivals .u8 bs) ob ∧ Fr (fun _ => False) w w' ∧ ∀ g, ob = some g → w.heap.size ≤ g := by subst hr; exact h
theorem encD_snoc (ask : Bool) (l : List En) (k : Nat) (h : k < l.length) : encD ask (l.take (k + 1)) = encD ask (l.take k) ++ entB (nth l k) := by
  unfold encD; rw [take_succ_nth l k h, List.flatMap_append]; simp
theorem _root_.Go.Fr.put {W w1 w2 : World} {ob0 ob1 : Option Nat} (h : Fr (fun k => ob0 = some k) W w1) (hob : ob1 = ob0 ∨ ∃ g, ob1 = some g ∧ W.heap.size ≤ g) (f : Fr (fun k => ob1 = some k) w1 w2) : Fr (fun k => ob0 = some k) W w2 :=
  h.trans' f (fun i hi e => by
    rcases hob with q | ⟨g, q, q2⟩
    · rw [← q]; exact e
    · rw [q] at e; cases e; omega)
theorem ob_trans {B C : Nat} {ob0 ob1 ob2 : Option Nat} (h1 : ob1 = ob0 ∨ ∃ g, ob1 = some g ∧ B ≤ g) (h2 : ob2 = ob1 ∨ ∃ g, ob2 = some g ∧ C ≤ g) (hBC : B ≤ C) : ob2 = ob0 ∨ ∃ g, ob2 = some g ∧ B ≤ g := by
  rcases h2 with q | ⟨g, q, q2⟩
  · rw [q]; exact h1
  · exact .inr ⟨g, q, Nat.le_trans hBC q2⟩
set_option maxRecDepth 100000 in
set_option maxHeartbeats 16000000 in
theorem encode_any {M : Nat} (ask : Bool) (l : List En) (al : Option Addr) (cl : Nat) (w : World) (hL : Recs w.heap al 5 En.cells l) (hw : ∀ e ∈ l, En.wf e) (hll : l.length ≤ 9223372036854775806) (hM : M = l.length) :
    Calls Tryd.prog 27 #[.agg #[.bool ask, .slice al M cl]] w (RetEnc w (msgErr l) (encD ask l)) := by
  subst hM
  obtain ⟨R, hR⟩ : ∃ R, R = msgErr l := ⟨_, rfl⟩
  rw [← hR]
  have hB := Blk.made w 59 [.bool ask, .slice al l.length cl]
  have b0 := hB.cell 0
  have b1 := hB.cell 1
  have bl := hB.lt
  have hF0 := (Fr.refl (fun _ => False) w).alloc (.cells #[.bool ask, .slice al l.length cl] 59)
  simp only [List.getElem?_cons_succ, List.getElem?_cons_zero] at b0 b1
  have hck := wcheck_any (M := l.length) ask l al cl _ (hL.fr0 hF0 (fun _ _ h => h)) hw hll rfl
  rw [← hR] at hck
  have HR := Lib.hid hR
  have HL := Lib.hid hL
  have HW := Lib.hid hw
  clear hR hL hw
  go_enter Tryd.func27, Tryd.ntmps27
  go_wp2_with (fail)
  refine hck.mono ?_
  rintro e1 w1 ⟨rfl, hF1⟩
  have hF01 := hF0.trans hF1
  have hB1 := hB.fr hF1 (fun h => h)
  clear hck hF0 hF1 hB b0 b1 bl
  cases hr : R with
  | some q =>
    have HX := Lib.hid hr
    rw [show errO (some q) = errv q from rfl]
    clear hr hB1
    go_wp2
    go_ret2
    exact RetEnc.err HX.out rfl hF01
  | none =>
    have hok := msgErr_ok (HR.out.symm.trans hr)
    have HRN := Lib.hid hr
    have h25 := hok.1
    have HOK := Lib.hid hok.2
    rw [show errO none = .nilIface from rfl]
    have hB2 := hB1.alloc (.cells #[.int .u8 2, .int .u8 2, .int .u8 0, .int .u8 0] 5)
    have hO2 := Own.made w1 5 1 4 (ivals .u8 [2, 2, 0, 0]) rfl (by decide)
    have hF02 := hF01.alloc (.cells #[.int .u8 2, .int .u8 2, .int .u8 0, .int .u8 0] 5)
    have hw1 := hF01.size
    have b0 := hB2.cell 0
    have b1 := hB2.cell 1
    have bl := hB2.lt
    have bw := hB1.lt
    simp only [List.getElem?_cons_succ, List.getElem?_cons_zero] at b0 b1
    have hB1' := hB1
    have hF01' := hF01
    clear hr hok hF01 hB1
    -- the head
    go_upto_if 17 with (fail)
    go_cut [5] (fun s5 wx => s5 = .slice (some ⟨w1.heap.size, 0, none⟩) 4 4 ∧ Blk wx.heap w.heap.size 59 [.bool ask, .slice al l.length cl] ∧ Own wx.heap 5 1 (some ⟨w1.heap.size, 0, none⟩) 4 4 (ivals .u8 (encD ask [])) (some w1.heap.size) ∧ Fr (fun _ => False) w wx)
    case first =>
      cases ask with
      | true =>
        obtain ⟨_, h1, h2, h3, h4, h5⟩ := hO2.pos (by omega)
        cases h1
        have f0 := h5 0
        have e0 := h4 0 (by omega)
        have HO3 := Lib.hid (Own.made w1 5 1 4 (ivals .u8 [1, 2, 0, 0]) rfl (by decide))
        have HB3 := Lib.hid (hB1'.alloc (.cells #[.int .u8 1, .int .u8 2, .int .u8 0, .int .u8 0] 5))
        have HF3 := Lib.hid (hF01'.alloc (.cells #[.int .u8 1, .int .u8 2, .int .u8 0, .int .u8 0] 5))
        clear h4 h5 h2 hO2 hB2 hF02
        go_wp2
        go_meet
        case rel => exact ⟨rfl, HB3.out, HO3.out, HF3.out⟩
      | false =>
        have HO3 := Lib.hid hO2
        have HB3 := Lib.hid hB2
        have HF3 := Lib.hid hF02
        clear hO2 hB2 hF02
        go_wp2
        go_meet
        case rel => exact ⟨rfl, HB3.out, HO3.out, HF3.out⟩
    case rest =>
    obtain ⟨rfl, hB3, hO3, hF3⟩ := hcut
    clear hB2 hO2 hF02 b0 b1 bl hB1' hF01'
    have b1 := hB3.cell 1
    have bl := hB3.lt
    simp only [List.getElem?_cons_succ, List.getElem?_cons_zero] at b1
    go_wp2
    go_loopw [23, 5] (fun s23 s5 wr => ∃ (k : Nat) (N : Nat) (a' : Option Addr) (c' : Nat) (ob' : Option Nat), k ≤ l.length ∧ s23 = .int .i64 k ∧ s5 = .slice a' N c' ∧ Own wr.heap 5 1 a' N c' (ivals .u8 (encD ask (l.take k))) ob' ∧ Hid (N = 4 + 20 * k) ∧ (∀ g, ob' = some g → w.heap.size ≤ g) ∧ Fr (fun _ => False) w wr) (fun s _ _ => l.length - (intOf s).toNat)
    case atStart => exact ⟨0, 4, _, _, _, by omega, rfl, rfl, hO3, Lib.hid rfl, (fun g hg => by cases hg; omega), hF3⟩
    case round =>
      clear hB3 hO3 hF3 b1 bl
      obtain ⟨k, N, a', c', ob', hk, rfl, rfl, hO, hN, hob, hF⟩ := hrel
      by_cases hkl : k < l.length
      · obtain ⟨g, o, rfl, hgl, hc⟩ := Recs.pos HL.out En.cells_len (by omega) (by omega)
        have dd := fun (j : Nat) (hj : j < 5) => (hF.cell (p := ⟨g, o + (k * 5 + j), none⟩) hgl (fun h => h)).trans (hc w rfl k j hkl hj)
        have d0 := dd 0 (by omega)
        have d1 := dd 1 (by omega)
        have d2 := dd 2 (by omega)
        have d3 := dd 3 (by omega)
        have d4 := dd 4 (by omega)
        have hmem := nth_mem l k hkl
        have hx := HW.out _ hmem
        have hoke := entErr_ok (HOK.out _ hmem)
        have hES := encD_snoc ask l k hkl
        generalize nth l k = x at *
        obtain ⟨xa, xn, xt, xp, xm⟩ := x
        obtain ⟨hn1, ht1, ht2, hm1, hm2⟩ := hoke
        have hn2 := netErr_ok hn1
        simp only at hn2 ht1 ht2 hm1 hm2
        obtain ⟨kn, rfl⟩ := Int.eq_ofNat_of_zero_le hn2.1
        simp only [En.cells, List.getElem?_cons_zero, List.getElem?_cons_succ, ← Nat.add_assoc, Nat.add_zero] at d0 d1 d2 d3 d4
        have hxa := hx.1
        have hxp := hx.2
        simp only at hxa hxp
        have hkn : kn ≤ 32 := by omega
        have HES := Lib.hid hES
        have hgl' := Nat.lt_of_lt_of_le hgl hF.size
        have hNb : N ≤ 504 := by rw [hN.out]; omega
        have hobl := hO.lt
        have hwr := hF.size
        have HBX := Lib.hid (Blk.made wr 66 [.int .u32 xa, .int .i64 kn, .int .i64 xt, .int .u32 xp, .int .i64 xm])
        have hO1 := hO.alloc (.cells #[.int .u32 xa, .int .i64 kn, .int .i64 xt, .int .u32 xp, .int .i64 xm] 66)
        have hF1 := hF.alloc (.cells #[.int .u32 xa, .int .i64 kn, .int .i64 xt, .int .u32 xp, .int .i64 xm] 66)
        have c1 := HBX.out.cell 1
        have cl1 := HBX.out.lt
        simp only [List.getElem?_cons_succ, List.getElem?_cons_zero] at c1
        clear dd hc hmem hx hES hO hF hn1 hn2
        go_wp2_with (fail)
        refine (mask_ok kn _ hkn).mono ?_
        rintro e2 w2 ⟨rfl, rfl⟩
        go_wp2
        obtain ⟨W, hW⟩ : ∃ W, W = wr.alloc (.cells #[.int .u32 xa, .int .i64 kn, .int .i64 xt, .int .u32 xp, .int .i64 xm] 66) := ⟨_, rfl⟩
        have hWs : W.heap.size = wr.heap.size + 1 := by rw [hW]; simp
        rw [← hW] at hO1 hF1 HBX c1 cl1 ⊢
        clear d0 d1 d2 d3 d4 hW
        have HWS := Lib.hid hWs
        have HM := Lib.hid (maskV_bd kn)
        have HOL := Lib.hid (show ∀ k, ob' = some k → ¬ k = wr.heap.size from fun k h e => by have := hobl k h; omega)
        clear hobl
        have qb : ∀ (c : Cls (fun k => ob' = some k) W) (i : Nat), c.wo.cell? ⟨wr.heap.size, i, none⟩ = [Value.int .u32 xa, .int .i64 kn, .int .i64 xt, .int .u32 xp, .int .i64 xm][i]? := fun c i => (c.fr.cell (p := ⟨wr.heap.size, i, none⟩) (by have := HBX.out.lt; exact this) (fun h => HOL.out _ h rfl)).trans (HBX.out.cell i)
        have ql : ∀ (c : Cls (fun k => ob' = some k) W), wr.heap.size < c.wo.heap.size := fun c => Nat.lt_of_lt_of_le HBX.out.lt c.fr.size
        have q2 := fun c => qb c 2
        simp only [List.getElem?_cons_succ, List.getElem?_cons_zero] at q2
        have HQB := Lib.hid qb
        clear qb
        (refine wp_region_mix (fun w' => ∃ c : Cls (fun k => ob' = some k) W, w' = c.wo) 5 (by kernel_rfl) (by kernel_rfl) (⟨⟨_, (Fr.refl _ _).drew⟩, rfl⟩) ?_; simp only [List.take_succ_cons, List.take_zero, List.drop_succ_cons, List.drop_zero])
        (refine wpMix_earlyN 1 (by kernel_rfl) (by kernel_rfl) ?_; simp only [List.take_succ_cons, List.take_zero, List.drop_succ_cons, List.drop_zero]; (repeat (go_big_quiet_step (fail))); refine wpQuiet_nil ?_)
        refine wpMix_eff (by kernel_rfl) ?_
        go_wp2_with (fail)
        refine (put2_any (encD ask (l.take k)) 2 W.drew hO1 (by decide) (by omega)).mono ?_
        rintro e3 w3 ⟨a3, c3, ob3, rfl, hO3, hF3, hob3⟩
        have hG3 : Fr (fun k => ob' = some k) W w3 := (Fr.refl _ W).drew.trans hF3
        have hob3 : ob3 = ob' ∨ ∃ g, ob3 = some g ∧ W.heap.size ≤ g := hob3
        clear hF3 hO1
        go_wp2
        refine ⟨⟨⟨_, hG3⟩, rfl⟩, ?_⟩
        (refine wpMix_lateN 3 (⟨⟨_, (Fr.refl _ _).drew⟩, rfl⟩) (by kernel_rfl) ?_; simp only [List.take_succ_cons, List.take_zero, List.drop_succ_cons, List.drop_zero]; (repeat (go_big_quiet_step (fail))); refine wpQuiet_nil ?_)
        refine wpMix_nil ?_
        go_wp2_with (fail)
        refine (put2_any _ xt w3 hO3 (by omega) (by omega)).mono ?_
        rintro e4 w4 ⟨a4, c4, ob4, rfl, hO4, hF4, hob4⟩
        have hG4 := hG3.put hob3 hF4
        have hob4' := ob_trans hob3 hob4 hG3.size
        clear hG3 hF4 hob3 hob4 hO3 q2
        have r0 : w4.cell? ⟨wr.heap.size, 0, none⟩ = some (.int .u32 xa) := HQB.out ⟨_, hG4⟩ 0
        have rl : wr.heap.size < w4.heap.size := ql ⟨_, hG4⟩
        have HQL := Lib.hid ql
        -- the four numbers
        have q3 : ∀ c : Cls (fun k => ob4 = some k) w4, c.wo.cell? ⟨wr.heap.size, 3, none⟩ = some (.int .u32 xp) := fun c => HQB.out ⟨c.wo, hG4.put hob4' c.fr⟩ 3
        have q4 : ∀ c : Cls (fun k => ob4 = some k) w4, c.wo.cell? ⟨wr.heap.size, 4, none⟩ = some (.int .i64 xm) := fun c => HQB.out ⟨c.wo, hG4.put hob4' c.fr⟩ 4
        have q5 : ∀ c : Cls (fun k => ob4 = some k) w4, wr.heap.size < c.wo.heap.size := fun c => HQL.out ⟨c.wo, hG4.put hob4' c.fr⟩
        have HG4 := Lib.hid hG4
        have HOB4 := Lib.hid hob4'
        clear hG4 hob4' ql
        go_wp2
        (refine wp_region_mix (fun w' => ∃ c : Cls (fun k => ob4 = some k) w4, w' = c.wo) 13 (by kernel_rfl) (by kernel_rfl) (⟨⟨_, (Fr.refl _ _).drew⟩, rfl⟩) ?_; simp only [List.take_succ_cons, List.take_zero, List.drop_succ_cons, List.drop_zero])
        (refine wpMix_earlyN 4 (by kernel_rfl) (by kernel_rfl) ?_; simp only [List.take_succ_cons, List.take_zero, List.drop_succ_cons, List.drop_zero]; (repeat (go_big_quiet_step (fail))); refine wpQuiet_nil ?_)
        refine wpMix_eff (by kernel_rfl) ?_
        go_wp2_with (fail)
        refine (put4_any _ xa w4.drew (hO4.fr (Fr.refl (fun _ => False) w4).drew (fun _ _ h => h)) hxa (by omega)).mono ?_
        rintro e5 w5 ⟨a5, c5, ob5, rfl, hO5, hF5, hob5⟩
        have hG5 : Fr (fun k => ob4 = some k) w4 w5 := (Fr.refl _ w4).drew.trans hF5
        have hob5 : ob5 = ob4 ∨ ∃ g, ob5 = some g ∧ w4.heap.size ≤ g := hob5
        clear hF5 hO4 r0 rl
        go_wp2
        refine ⟨⟨⟨_, hG5⟩, rfl⟩, ?_⟩
        (refine wpMix_lateN 1 (⟨⟨_, (Fr.refl _ _).drew⟩, rfl⟩) (by kernel_rfl) ?_; simp only [List.take_succ_cons, List.take_zero, List.drop_succ_cons, List.drop_zero]; (repeat (go_big_quiet_step (fail))); refine wpQuiet_nil ?_)
        refine wpMix_eff (by kernel_rfl) ?_
        go_wp2_with (fail)
        refine (put4_any _ (maskV kn) w5 hO5 HM.out (by omega)).mono ?_
        rintro e6 w6 ⟨a6, c6, ob6, rfl, hO6, hF6, hob6⟩
        have hG6 := hG5.put hob5 hF6
        have hob6' := ob_trans hob5 hob6 hG5.size
        clear hF6 hO5 hG5 hob5 hob6
        go_wp2
        refine ⟨⟨⟨_, hG6⟩, rfl⟩, ?_⟩
        (refine wpMix_lateN 2 (⟨⟨_, (Fr.refl _ _).drew⟩, rfl⟩) (by kernel_rfl) ?_; simp only [List.take_succ_cons, List.take_zero, List.drop_succ_cons, List.drop_zero]; (repeat (go_big_quiet_step (fail))); refine wpQuiet_nil ?_)
        refine wpMix_eff (by kernel_rfl) ?_
        go_wp2_with (fail)
        refine (put4_any _ xp w6 hO6 hxp (by omega)).mono ?_
        rintro e7 w7 ⟨a7, c7, ob7, rfl, hO7, hF7, hob7⟩
        have hG7 := hG6.put hob6' hF7
        have hob7' := ob_trans hob6' hob7 hG6.size
        clear hF7 hO6 hG6 hob6' hob7
        go_wp2
        refine ⟨⟨⟨_, hG7⟩, rfl⟩, ?_⟩
        (refine wpMix_lateN 3 (⟨⟨_, (Fr.refl _ _).drew⟩, rfl⟩) (by kernel_rfl) ?_; simp only [List.take_succ_cons, List.take_zero, List.drop_succ_cons, List.drop_zero]; (repeat (go_big_quiet_step (fail))); refine wpQuiet_nil ?_)
        refine wpMix_nil ?_
        clear q3 q4 q5
        go_wp2_with (fail)
        refine (put4_any _ xm w7 hO7 (by omega) (by omega)).mono ?_
        rintro e8 w8 ⟨a8, c8, ob8, rfl, hO8, hF8, hob8⟩
        have hG8 := HG4.out.put HOB4.out (hG7.put hob7' hF8)
        have hob8' := ob_trans HOB4.out (ob_trans hob7' hob8 hG7.size) HG4.out.size
        have hF08 : Fr (fun _ => False) w w8 := hF1.trans' hG8 (fun i hi e => by have := hob i e; omega)
        have hN8 : ∀ g, ob8 = some g → w.heap.size ≤ g := fun g hg => by
          have h1 := HWS.out
          rcases hob8' with e | ⟨g', e, e2⟩
          · exact hob g (by rw [← e, hg])
          · rw [hg] at e; cases e; omega
        have hxs : ((((((encD ask (l.take k) ++ beB 2 2) ++ beB xt 2) ++ beB xa 4) ++ beB (maskV kn) 4) ++ beB xp 4) ++ beB xm 4) = encD ask (l.take (k + 1)) := by
          rw [HES.out]; unfold entB; simp only [List.append_assoc, Int.toNat_natCast]
        rw [hxs] at hO8
        have HO8 := Lib.hid hO8
        have HN' := Lib.hid (show N + 2 + 2 + 4 + 4 + 4 + 4 = 4 + 20 * (k + 1) by have := hN.out; omega)
        clear hF8 hO7 hG7 hob7' hob8 hG8 hob8' hF1 hxs hO8
        go_wp2
        go_roundw
        case rel => exact ⟨k + 1, N + 2 + 2 + 4 + 4 + 4 + 4, a8, c8, ob8, by omega, by go_num, (by first | rfl | simp), HO8.out, HN', hN8, hF08⟩
        case measure => simp [intOf]; omega
      · obtain rfl : k = l.length := by omega
        rw [List.take_length] at hO
        have hNl : N = (encD ask l).length := by rw [hN.out, encD_len]
        have HO := Lib.hid hO
        clear hO
        go_wp2
        go_ret2
        exact RetEnc.ok HRN.out rfl hNl rfl HO.out hF hob
end Go.Proofs.YtbmeeglehbaggaaDoor
