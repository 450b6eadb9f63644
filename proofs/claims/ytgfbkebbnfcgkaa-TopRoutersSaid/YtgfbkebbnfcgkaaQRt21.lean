import Derived.Deep.CutBlock
import Derived.Deep.CutRange
import Derived.Deep.DeepCutAuto
import Derived.Test.YtgfbkebbnfcgkaaQRt20
import Derived.Test.YtgfbkebbnfcgkaaMix
import Derived.Test.YtgfbkebbnfcgkaaQRt18
section
namespace Go.Proofs.Ytgfbkebbnfcgkaa
open Go.RowKit
/-- The bytes of a message, or what is wrong. -/
def RetEnc (w : World) (r : Option Int) (bs : List Int) (e : Ending) (w' : World) : Prop := match r with
  | some k => RetV w (.tuple #[.slice none 0 0, errv k]) e w'
  | none => ∃ a c ob, e = .returned (.tuple #[.slice a bs.length c, .nilIface]) ∧ Ownd w'.heap 5 1 a bs.length c (ivals .u8 bs) ob ∧ Fr (fun _ => False) w w' ∧ ∀ g, ob = some g → w.heap.size ≤ g
theorem RetEnc.err {w w' : World} {r : Option Int} {bs : List Int} {e : Ending} {k : Int} (hr : r = some k) (he : e = .returned (.tuple #[.slice none 0 0, errv k])) (hF : Fr (fun _ => False) w w') : RetEnc w r bs e w' := by subst hr; exact ⟨he, hF⟩
theorem RetEnc.ok {w w' : World} {r : Option Int} {bs : List Int} {e : Ending} {a : Option Addr} {m c : Nat} {ob : Option Nat} {xs : List Value} (hr : r = none) (he : e = .returned (.tuple #[.slice a m c, .nilIface])) (hm : m = bs.length) (hx : xs = ivals .u8 bs) (hO : Ownd w'.heap 5 1 a m c xs ob) (hF : Fr (fun _ => False) w w') (hN : ∀ g, ob = some g → w.heap.size ≤ g) : RetEnc w r bs e w' := by
  subst hr; subst hm; subst hx; exact ⟨a, c, ob, he, hO, hF, hN⟩
theorem RetEnc.errE {w w' : World} {r : Option Int} {bs : List Int} {e : Ending} {k : Int} (h : RetEnc w r bs e w') (hr : r = some k) : RetV w (.tuple #[.slice none 0 0, errv k]) e w' := by subst hr; exact h
theorem RetEnc.okE {w w' : World} {r : Option Int} {bs : List Int} {e : Ending} (h : RetEnc w r bs e w') (hr : r = none) : ∃ a c ob, e = .returned (.tuple #[.slice a bs.length c, .nilIface]) ∧ Ownd w'.heap 5 1 a bs.length c (ivals .u8 bs) ob ∧ Fr (fun _ => False) w w' ∧ ∀ g, ob = some g → w.heap.size ≤ g := by subst hr; exact h
theorem encD_snoc (ask : Bool) (l : List En) (k : Nat) (h : k < l.length) : encD ask (l.take (k + 1)) = encD ask (l.take k) ++ entB (nth l k) := by
  unfold encD; rw [take_succ_nth l k h, List.flatMap_append]; simp
theorem _root_.Go.Fr.put {W w1 w2 : World} {ob0 ob1 : Option Nat} (h : Fr (fun k => ob0 = some k) W w1) (hob : ob1 = ob0 ∨ ∃ g, ob1 = some g ∧ W.heap.size ≤ g) (f : Fr (fun k => ob1 = some k) w1 w2) : Fr (fun k => ob0 = some k) W w2 :=
  h.trans' f (fun i hi e => by
    rcases hob with q | ⟨g, q, q2⟩
    · rw [← q]; exact e
    · rw [q] at e; cases e; omega)
theorem ob_trans {B C : Nat} {ob0 ob1 ob2 : Option Nat} (h1 : ob1 = ob0 ∨ ∃ g, ob1 = some g ∧ B ≤ g) (h2 : ob2 = ob1 ∨ ∃ g, ob2 = some g ∧ C ≤ g) (hBC : B ≤ C) : ob2 = ob0 ∨ ∃ g, ob2 = some g ∧ B ≤ g := by
  rcases h2 with q | ⟨g, q, q2⟩
  · rw [q]; exact h1
  · exact .inr ⟨g, q, Nat.le_trans hBC q2⟩
set_option maxRecDepth 100000 in
set_option maxHeartbeats 16000000 in
theorem encode_any {M : Nat} (ask : Bool) (l : List En) (al : Option Addr) (cl : Nat) (w : World) (hL : Recs w.heap al 5 En.cells l) (hw : ∀ e ∈ l, En.wf e) (hll : l.length ≤ 9223372036854775806) (hM : M = l.length) :
    Calls Try.prog 25 #[.agg #[.bool ask, .slice al M cl]] w (RetEnc w (msgErr l) (encD ask l)) := by
  subst hM
  obtain ⟨R, hR⟩ : ∃ R, R = msgErr l := ⟨_, rfl⟩
  rw [← hR]
  have hB := Blk.made w 75 [.bool ask, .slice al l.length cl]
  have b0 := hB.cell 0
  have b1 := hB.cell 1
  have bl := hB.lt
  have hF0 := (Fr.refl (fun _ => False) w).alloc (.cells #[.bool ask, .slice al l.length cl] 75)
  simp only [List.getElem?_cons_succ, List.getElem?_cons_zero] at b0 b1
  have hck := wcheck_any (M := l.length) ask l al cl _ (hL.fr0 hF0 (fun _ _ h => h)) hw hll rfl
  rw [← hR] at hck
  have HR := Lib.hid hR
  have HL := Lib.hid hL
  have HW := Lib.hid hw
  clear hR hL hw
  go_enter Try.func25, Try.ntmps25
  go_wp2_with (fail)
  refine hck.mono ?_
  rintro e1 w1 ⟨rfl, hF1⟩
  have hF01 := hF0.trans hF1
  have hB1 := hB.fr hF1 (fun h => h)
  clear hck hF0 hF1 hB b0 b1 bl
  cases hr : R with
  | some q =>
    have HX := Lib.hid hr
    rw [show errO (some q) = errv q from rfl]
    clear hr hB1
    go_wp2
    go_ret2
    exact RetEnc.err HX.out rfl hF01
  | none =>
    have hok := msgErr_ok (HR.out.symm.trans hr)
    have HRN := Lib.hid hr
    have h25 := hok.1
    have HOK := Lib.hid hok.2
    rw [show errO none = .nilIface from rfl]
    have hB2 := hB1.alloc (.cells #[.int .u8 2, .int .u8 2, .int .u8 0, .int .u8 0] 5)
    have hO2 := Ownd.made w1 5 1 4 (ivals .u8 [2, 2, 0, 0]) rfl (by decide)
    have hF02 := hF01.alloc (.cells #[.int .u8 2, .int .u8 2, .int .u8 0, .int .u8 0] 5)
    have hw1 := hF01.size
    have b0 := hB2.cell 0
    have b1 := hB2.cell 1
    have bl := hB2.lt
    have bw := hB1.lt
    simp only [List.getElem?_cons_succ, List.getElem?_cons_zero] at b0 b1
    have hB1' := hB1
    have hF01' := hF01
    clear hr hok hF01 hB1
    -- the head
    go_upto_if 17 with (fail)
    go_cut [5] (fun s5 wx => s5 = .slice (some ⟨w1.heap.size, 0, none⟩) 4 4 ∧ Blk wx.heap w.heap.size 75 [.bool ask, .slice al l.length cl] ∧ Ownd wx.heap 5 1 (some ⟨w1.heap.size, 0, none⟩) 4 4 (ivals .u8 (encD ask [])) (some w1.heap.size) ∧ Fr (fun _ => False) w wx)
    case first =>
      cases ask with
      | true =>
        obtain ⟨_, h1, h2, h3, h4, h5⟩ := hO2.pos (by omega)
        cases h1
        have f0 := h5 0
        have e0 := h4 0 (by omega)
        have HO3 := Lib.hid (Ownd.made w1 5 1 4 (ivals .u8 [1, 2, 0, 0]) rfl (by decide))
        have HB3 := Lib.hid (hB1'.alloc (.cells #[.int .u8 1, .int .u8 2, .int .u8 0, .int .u8 0] 5))
        have HF3 := Lib.hid (hF01'.alloc (.cells #[.int .u8 1, .int .u8 2, .int .u8 0, .int .u8 0] 5))
        clear h4 h5 h2 hO2 hB2 hF02
        go_wp2
        go_meet
        case rel => exact ⟨rfl, HB3.out, HO3.out, HF3.out⟩
      | false =>
        have HO3 := Lib.hid hO2
        have HB3 := Lib.hid hB2
        have HF3 := Lib.hid hF02
        clear hO2 hB2 hF02
        go_wp2
        go_meet
        case rel => exact ⟨rfl, HB3.out, HO3.out, HF3.out⟩
    case rest =>
    obtain ⟨rfl, hB3, hO3, hF3⟩ := hcut
    clear hB2 hO2 hF02 b0 b1 bl hB1' hF01'
    have b1 := hB3.cell 1
    have bl := hB3.lt
    simp only [List.getElem?_cons_succ, List.getElem?_cons_zero] at b1
    go_wp2
    go_loopw [23, 5] (fun s23 s5 wr => ∃ (k : Nat) (N : Nat) (a' : Option Addr) (c' : Nat) (ob' : Option Nat), k ≤ l.length ∧ s23 = .int .i64 k ∧ s5 = .slice a' N c' ∧ Ownd wr.heap 5 1 a' N c' (ivals .u8 (encD ask (l.take k))) ob' ∧ Hid (N = 4 + 20 * k) ∧ (∀ g, ob' = some g → w.heap.size ≤ g) ∧ Fr (fun _ => False) w wr) (fun s _ _ => l.length - (intOf s).toNat)
    case atStart => exact ⟨0, 4, _, _, _, by omega, rfl, rfl, hO3, Lib.hid rfl, (fun g hg => by cases hg; omega), hF3⟩
    case round =>
      clear hB3 hO3 hF3 b1 bl
      obtain ⟨k, N, a', c', ob', hk, rfl, rfl, hO, hN, hob, hF⟩ := hrel
      by_cases hkl : k < l.length
      · obtain ⟨g, o, rfl, hgl, hc⟩ := Recs.pos HL.out En.cells_len (by omega) (by omega)
        have dd := fun (j : Nat) (hj : j < 5) => (hF.cell (p := ⟨g, o + (k * 5 + j), none⟩) hgl (fun h => h)).trans (hc w rfl k j hkl hj)
        have d0 := dd 0 (by omega)
        have d1 := dd 1 (by omega)
        have d2 := dd 2 (by omega)
        have d3 := dd 3 (by omega)
        have d4 := dd 4 (by omega)
        have hmem := nth_mem l k hkl
        have hx := HW.out _ hmem
        have hoke := entErr_ok (HOK.out _ hmem)
        have hES := encD_snoc ask l k hkl
        generalize nth l k = x at *
        obtain ⟨xa, xn, xt, xp, xm⟩ := x
        obtain ⟨hn1, ht1, ht2, hm1, hm2⟩ := hoke
        have hn2 := netErr_rng hn1
        simp only at hn2 ht1 ht2 hm1 hm2
        obtain ⟨kn, rfl⟩ := Int.eq_ofNat_of_zero_le hn2.1
        simp only [En.cells, List.getElem?_cons_zero, List.getElem?_cons_succ, ← Nat.add_assoc, Nat.add_zero] at d0 d1 d2 d3 d4
        have hxa := hx.1
        have hxp := hx.2
        simp only at hxa hxp
        have hkn : kn ≤ 32 := by omega
        have HES := Lib.hid hES
        have hgl' := Nat.lt_of_lt_of_le hgl hF.size
        have hNb : N ≤ 504 := by rw [hN.out]; omega
        have hobl := hO.lt
        have hwr := hF.size
        have HBX := Lib.hid (Blk.made wr 80 [.int .u32 xa, .int .i64 kn, .int .i64 xt, .int .u32 xp, .int .i64 xm])
        have hO1 := hO.alloc (.cells #[.int .u32 xa, .int .i64 kn, .int .i64 xt, .int .u32 xp, .int .i64 xm] 80)
        have hF1 := hF.alloc (.cells #[.int .u32 xa, .int .i64 kn, .int .i64 xt, .int .u32 xp, .int .i64 xm] 80)
        have c1 := HBX.out.cell 1
        have cl1 := HBX.out.lt
        simp only [List.getElem?_cons_succ, List.getElem?_cons_zero] at c1
        clear dd hc hmem hx hES hO hF hn1 hn2
        go_wp2_with (fail)
        refine (mask_ok kn _ hkn).mono ?_
        rintro e2 w2 ⟨rfl, rfl⟩
        go_wp2
        obtain ⟨W, hW⟩ : ∃ W, W = wr.alloc (.cells #[.int .u32 xa, .int .i64 kn, .int .i64 xt, .int .u32 xp, .int .i64 xm] 80) := ⟨_, rfl⟩
        have hWs : W.heap.size = wr.heap.size + 1 := by rw [hW]; simp
        rw [← hW] at hO1 hF1 HBX c1 cl1 ⊢
        clear d0 d1 d2 d3 d4 hW
        have HWS := Lib.hid hWs
        have HM := Lib.hid (maskV_bd kn)
        have HOL := Lib.hid (show ∀ k, ob' = some k → ¬ k = wr.heap.size from fun k h e => by have := hobl k h; omega)
        clear hobl
        have qb : ∀ (c : Cls (fun k => ob' = some k) W) (i : Nat), c.wo.cell? ⟨wr.heap.size, i, none⟩ = [Value.int .u32 xa, .int .i64 kn, .int .i64 xt, .int .u32 xp, .int .i64 xm][i]? := fun c i => (c.fr.cell (p := ⟨wr.heap.size, i, none⟩) (by have := HBX.out.lt; exact this) (fun h => HOL.out _ h rfl)).trans (HBX.out.cell i)
        have ql : ∀ (c : Cls (fun k => ob' = some k) W), wr.heap.size < c.wo.heap.size := fun c => Nat.lt_of_lt_of_le HBX.out.lt c.fr.size
        have q2 := fun c => qb c 2
        simp only [List.getElem?_cons_succ, List.getElem?_cons_zero] at q2
        have HQB := Lib.hid qb
        clear qb
        (refine wp_region_mix (fun w' => ∃ c : Cls (fun k => ob' = some k) W, w' = c.wo) 5 (by kernel_rfl) (by kernel_rfl) (⟨⟨_, (Fr.refl _ _).drew⟩, rfl⟩) ?_; simp only [List.take_succ_cons, List.take_zero, List.drop_succ_cons, List.drop_zero])
        (refine wpMix_earlyN 1 (by kernel_rfl) (by kernel_rfl) ?_; simp only [List.take_succ_cons, List.take_zero, List.drop_succ_cons, List.drop_zero]; (repeat (go_big_quiet_step (fail))); refine wpQuiet_nil ?_)
        refine wpMix_eff (by kernel_rfl) ?_
        go_wp2_with (fail)
        refine (put2_any (encD ask (l.take k)) 2 W.drew hO1 (by decide) (by omega)).mono ?_
        rintro e3 w3 ⟨a3, c3, ob3, rfl, hO3, hF3, hob3⟩
        have hG3 : Fr (fun k => ob' = some k) W w3 := (Fr.refl _ W).drew.trans hF3
        have hob3 : ob3 = ob' ∨ ∃ g, ob3 = some g ∧ W.heap.size ≤ g := hob3
        clear hF3 hO1
        go_wp2
        refine ⟨⟨⟨_, hG3⟩, rfl⟩, ?_⟩
        (refine wpMix_lateN 3 (⟨⟨_, (Fr.refl _ _).drew⟩, rfl⟩) (by kernel_rfl) ?_; simp only [List.take_succ_cons, List.take_zero, List.drop_succ_cons, List.drop_zero]; (repeat (go_big_quiet_step (fail))); refine wpQuiet_nil ?_)
        refine wpMix_nil ?_
        go_wp2_with (fail)
        refine (put2_any _ xt w3 hO3 (by omega) (by omega)).mono ?_
        rintro e4 w4 ⟨a4, c4, ob4, rfl, hO4, hF4, hob4⟩
        have hG4 := hG3.put hob3 hF4
        have hob4' := ob_trans hob3 hob4 hG3.size
        clear hG3 hF4 hob3 hob4 hO3 q2
        have r0 : w4.cell? ⟨wr.heap.size, 0, none⟩ = some (.int .u32 xa) := HQB.out ⟨_, hG4⟩ 0
        have rl : wr.heap.size < w4.heap.size := ql ⟨_, hG4⟩
        have HQL := Lib.hid ql
        -- the four numbers
        have q3 : ∀ c : Cls (fun k => ob4 = some k) w4, c.wo.cell? ⟨wr.heap.size, 3, none⟩ = some (.int .u32 xp) := fun c => HQB.out ⟨c.wo, hG4.put hob4' c.fr⟩ 3
        have q4 : ∀ c : Cls (fun k => ob4 = some k) w4, c.wo.cell? ⟨wr.heap.size, 4, none⟩ = some (.int .i64 xm) := fun c => HQB.out ⟨c.wo, hG4.put hob4' c.fr⟩ 4
        have q5 : ∀ c : Cls (fun k => ob4 = some k) w4, wr.heap.size < c.wo.heap.size := fun c => HQL.out ⟨c.wo, hG4.put hob4' c.fr⟩
        have HG4 := Lib.hid hG4
        have HOB4 := Lib.hid hob4'
        clear hG4 hob4' ql
        go_wp2
        (refine wp_region_mix (fun w' => ∃ c : Cls (fun k => ob4 = some k) w4, w' = c.wo) 13 (by kernel_rfl) (by kernel_rfl) (⟨⟨_, (Fr.refl _ _).drew⟩, rfl⟩) ?_; simp only [List.take_succ_cons, List.take_zero, List.drop_succ_cons, List.drop_zero])
        (refine wpMix_earlyN 4 (by kernel_rfl) (by kernel_rfl) ?_; simp only [List.take_succ_cons, List.take_zero, List.drop_succ_cons, List.drop_zero]; (repeat (go_big_quiet_step (fail))); refine wpQuiet_nil ?_)
        refine wpMix_eff (by kernel_rfl) ?_
        go_wp2_with (fail)
        refine (put4_any _ xa w4.drew (hO4.fr (Fr.refl (fun _ => False) w4).drew (fun _ _ h => h)) hxa (by omega)).mono ?_
        rintro e5 w5 ⟨a5, c5, ob5, rfl, hO5, hF5, hob5⟩
        have hG5 : Fr (fun k => ob4 = some k) w4 w5 := (Fr.refl _ w4).drew.trans hF5
        have hob5 : ob5 = ob4 ∨ ∃ g, ob5 = some g ∧ w4.heap.size ≤ g := hob5
        clear hF5 hO4 r0 rl
        go_wp2
        refine ⟨⟨⟨_, hG5⟩, rfl⟩, ?_⟩
        (refine wpMix_lateN 1 (⟨⟨_, (Fr.refl _ _).drew⟩, rfl⟩) (by kernel_rfl) ?_; simp only [List.take_succ_cons, List.take_zero, List.drop_succ_cons, List.drop_zero]; (repeat (go_big_quiet_step (fail))); refine wpQuiet_nil ?_)
        refine wpMix_eff (by kernel_rfl) ?_
        go_wp2_with (fail)
        refine (put4_any _ (maskV kn) w5 hO5 HM.out (by omega)).mono ?_
        rintro e6 w6 ⟨a6, c6, ob6, rfl, hO6, hF6, hob6⟩
        have hG6 := hG5.put hob5 hF6
        have hob6' := ob_trans hob5 hob6 hG5.size
        clear hF6 hO5 hG5 hob5 hob6
        go_wp2
        refine ⟨⟨⟨_, hG6⟩, rfl⟩, ?_⟩
        (refine wpMix_lateN 2 (⟨⟨_, (Fr.refl _ _).drew⟩, rfl⟩) (by kernel_rfl) ?_; simp only [List.take_succ_cons, List.take_zero, List.drop_succ_cons, List.drop_zero]; (repeat (go_big_quiet_step (fail))); refine wpQuiet_nil ?_)
        refine wpMix_eff (by kernel_rfl) ?_
        go_wp2_with (fail)
        refine (put4_any _ xp w6 hO6 hxp (by omega)).mono ?_
        rintro e7 w7 ⟨a7, c7, ob7, rfl, hO7, hF7, hob7⟩
        have hG7 := hG6.put hob6' hF7
        have hob7' := ob_trans hob6' hob7 hG6.size
        clear hF7 hO6 hG6 hob6' hob7
        go_wp2
        refine ⟨⟨⟨_, hG7⟩, rfl⟩, ?_⟩
        (refine wpMix_lateN 3 (⟨⟨_, (Fr.refl _ _).drew⟩, rfl⟩) (by kernel_rfl) ?_; simp only [List.take_succ_cons, List.take_zero, List.drop_succ_cons, List.drop_zero]; (repeat (go_big_quiet_step (fail))); refine wpQuiet_nil ?_)
        refine wpMix_nil ?_
        clear q3 q4 q5
        go_wp2_with (fail)
        refine (put4_any _ xm w7 hO7 (by omega) (by omega)).mono ?_
        rintro e8 w8 ⟨a8, c8, ob8, rfl, hO8, hF8, hob8⟩
        have hG8 := HG4.out.put HOB4.out (hG7.put hob7' hF8)
        have hob8' := ob_trans HOB4.out (ob_trans hob7' hob8 hG7.size) HG4.out.size
        have hF08 : Fr (fun _ => False) w w8 := hF1.trans' hG8 (fun i hi e => by have := hob i e; omega)
        have hN8 : ∀ g, ob8 = some g → w.heap.size ≤ g := fun g hg => by
          have h1 := HWS.out
          rcases hob8' with e | ⟨g', e, e2⟩
          · exact hob g (by rw [← e, hg])
          · rw [hg] at e; cases e; omega
        have hxs : ((((((encD ask (l.take k) ++ beB 2 2) ++ beB xt 2) ++ beB xa 4) ++ beB (maskV kn) 4) ++ beB xp 4) ++ beB xm 4) = encD ask (l.take (k + 1)) := by
          rw [HES.out]; unfold entB; simp only [List.append_assoc, Int.toNat_natCast]
        rw [hxs] at hO8
        have HO8 := Lib.hid hO8
        have HN' := Lib.hid (show N + 2 + 2 + 4 + 4 + 4 + 4 = 4 + 20 * (k + 1) by have := hN.out; omega)
        clear hF8 hO7 hG7 hob7' hob8 hG8 hob8' hF1 hxs hO8
        go_wp2
        go_roundw
        case rel => exact ⟨k + 1, N + 2 + 2 + 4 + 4 + 4 + 4, a8, c8, ob8, by omega, by go_num, (by first | rfl | simp), HO8.out, HN', hN8, hF08⟩
        case measure => simp [intOf]; omega
      · obtain rfl : k = l.length := by omega
        rw [List.take_length] at hO
        have hNl : N = (encD ask l).length := by rw [hN.out, encD_len]
        have HO := Lib.hid hO
        clear hO
        go_wp2
        go_ret2
        exact RetEnc.ok HRN.out rfl hNl rfl HO.out hF hob
end Go.Proofs.Ytgfbkebbnfcgkaa
end

section
namespace Go
section
variable {P : Program} {ops : Array Oper} {C : World → Prop} {w w1 : World} {E : Nat → Bool}

/-- The tail waits for all. -/
def Region.tailT (ops : Array Oper) (T : Array Nat) (n : Nat) : Bool :=
  (List.range ops.size).all fun t => !decide (n ≤ t) || (List.range t).all fun k => (T.getD t 0).testBit k
theorem tailT_spec {T : Array Nat} {n t k : Nat} (h : Region.tailT ops T n = true) (ht : t < ops.size) (hn : n ≤ t) (hk : k < t) : (T.getD t 0).testBit k = true := by
  have h1 := List.all_eq_true.1 h t (List.mem_range.2 ht)
  simp only [decide_eq_true hn, Bool.not_true, Bool.false_or] at h1
  exact List.all_eq_true.1 h1 k (List.mem_range.2 hk)

theorem wpAnyMx_firstT {T : Array Nat} {n i : Nat} {oi : Oper} {v : Value} {L : Array Bool → Act → World → Prop} (hi : ops[i]? = some oi) (hsel : ∀ (j : Nat) (o : Oper) cs b, ops[j]? = some o → o.op ≠ .select cs b)
    (hT : Region.ancOk ops T = true) (hm : Region.tailT ops T n = true) (hin : i < n)
    (hdone : ∀ listed a w, L listed a w → ∀ j ∈ Region.ready .any ops listed, n ≤ j) :
    ∀ (f : Nat) (listed : Array Bool) (a : Act) (w : World), HeadInv .any ops n listed →
      (∀ j oj, ops[j]? = some oj → j ≠ i → listed.getD j true = false → (∀ e ∈ oj.after, Region.binds .any e = true → e.on ≠ i) → oi.apart ops oj = true) →
      i ∈ Region.ready .any ops listed → YC P ops (clsOf C w1 E i) oi v a → (oi.op.quietB = true ∨ Region.wanted oi (yielded ops a.tmps) = false) →
      wpAnyMx P ops C w1 E n L f (listed.setIfInBounds i true) (a.put oi.dst v) w → wpAnyMx P ops C w1 E n L (f + 1) listed a w := by
  have his : i < ops.size := (Array.getElem?_eq_some_iff.1 hi).1
  have headOf : ∀ (listed : Array Bool), HeadInv .any ops n listed → listed.getD i true = false → ∀ j ∈ Region.ready .any ops listed, j < n := by
    intro listed inv hun j hj
    rcases Nat.lt_or_ge j n with h | h
    · exact h
    · have hjs : j < ops.size := (Array.getElem?_eq_some_iff.1 (mem_ready.1 hj).2.choose_spec.1).1
      exact absurd hj (ready_no hT inv his (tailT_spec hm hjs h (by omega)) hun)
  intro f
  induction f with
  | zero =>
    intro listed a w inv _ hr hy hq H
    have hun := (mem_ready.1 hr).1
    refine ⟨fun h => (by rw [h] at hr; cases hr), fun j hj => ?_⟩
    have hjn := headOf listed inv hun j hj
    refine ⟨hjn, ?_⟩
    by_cases hji : j = i
    · subst hji; exact mOp_of_YC hi hy hq H
    · have := hdone _ _ _ H j (ready_mono hj hji)
      omega
  | succ f ih =>
    intro listed a w inv hfree hr hy hq H
    have hun := (mem_ready.1 hr).1
    refine ⟨fun h => (by rw [h] at hr; cases hr), fun j hj => ?_⟩
    have hjn := headOf listed inv hun j hj
    refine ⟨hjn, ?_⟩
    by_cases hji : j = i
    · subst hji; exact mOp_of_YC hi hy hq H
    · have h1 := (H.2 j (ready_mono hj hji)).2
      obtain ⟨hjun, oj, hoj, hall⟩ := mem_ready.1 hj
      have hnot : ∀ e ∈ oj.after, Region.binds .any e = true → e.on ≠ i := fun e he hb heq => by
        have h1 := hall e he hb
        rw [heq, getD_both hun] at h1
        cases h1
      have hap := hfree j oj hoj hji hjun hnot
      have h2 := mOp_put hoj hap (fun cs b => hsel i oi cs b hi) (fun cs b => hsel j oj cs b hoj) hy h1
      have hfree' : ∀ k ok, ops[k]? = some ok → k ≠ i → (listed.setIfInBounds j true).getD k true = false →
          (∀ e ∈ ok.after, Region.binds .any e = true → e.on ≠ i) → oi.apart ops ok = true := fun k ok hk hki hun hno => by
        refine hfree k ok hk hki ?_ hno
        by_cases hjk : j = k
        · subst hjk; exact hjun
        · rw [getD_set_ne true hjk] at hun; exact hun
      have hqk : ∀ a', YC P ops (clsOf C w1 E i) oi v a' → oi.op.quietB = true ∨ Region.wanted oi (yielded ops a.tmps) = false → (Region.wanted oi (yielded ops a'.tmps) = Region.wanted oi (yielded ops a.tmps)) → (oi.op.quietB = true ∨ Region.wanted oi (yielded ops a'.tmps) = false) := fun a' _ h0 he => by rw [he]; exact h0
      -- the guard of 'oi' reads the same in every state that 'j' leaves
      have h2' : mOp P ops C w1 E j (fun a' w' => (YC P ops (clsOf C w1 E i) oi v a' ∧ wpAnyMx P ops C w1 E n L f ((listed.setIfInBounds i true).setIfInBounds j true) (a'.put oi.dst v) w') ∧ Region.wanted oi (yielded ops a'.tmps) = Region.wanted oi (yielded ops a.tmps)) a w := by
        obtain ⟨g1, g2, g3⟩ := Oper.apart_spec hap
        unfold mOp at h2 ⊢
        simp only [hoj] at h2 ⊢
        split
        · rename_i hqq
          simp only [hqq, if_true] at h2
          obtain ⟨u, hu, hn⟩ := h2
          exact ⟨u, hu, hn, wanted_put oi a oj.dst u g3⟩
        · rename_i hqq
          simp only [hqq, Bool.false_eq_true, if_false] at h2
          split
          · rename_i hw
            simp only [hw, if_true] at h2
            exact Oper.effUpon_mono' (fun u w' hk => ⟨hk.1, hk.2, wanted_put oi a oj.dst u g3⟩) h2
          · rename_i hw
            simp only [hw] at h2
            exact ⟨h2, wanted_put oi a oj.dst undef g3⟩
      refine mOp_mono (fun a' w' h3 => ih (listed.setIfInBounds j true) a' w' (inv.set hj hjn) hfree' (ready_mono hr (Ne.symm hji)) h3.1.1 (hqk a' h3.1.1 hq h3.2) ?_) h2'
      rw [Array.setIfInBounds_comm _ _ hji]
      exact h3.1.2


/-- A guarded operation that is wanted: its guard struck. -/
theorem wpList_struck {Q : Exit → Act → World → Prop} {o : Oper} {rest : List Oper} {a : Act} (hw : Region.wanted o (yielded ops a.tmps) = true) (h : wpList P ops Q ({ o with guard := none } :: rest) a w) : wpList P ops Q (o :: rest) a w := by
  unfold wpList at h ⊢
  rw [if_pos hw]
  have h2 : Region.wanted { o with guard := none } (yielded ops a.tmps) = true := rfl
  rw [if_pos h2] at h
  exact h
/-- An effect, as a list of one. -/
theorem effs_of_list {K : Act → World → Prop} {a : Act} {o : Oper}
    (h : wpList P ops (fun e a' w' => e = .normal ∧ a'.defers = a.defers ∧ C w' ∧ K a' w') [o] a w) :
    if Region.wanted o (yielded ops a.tmps) = true then o.effs P a w (fun a' w' => C w' ∧ K a' w') else K (a.put o.dst undef) w := by

  unfold wpList at h
  split
  · rename_i hw
    simp only [hw, if_true] at h
    rcases h with h | ⟨_, a₀, w₀, h, _⟩
    · unfold Oper.effs
      unfold Oper.wp at h
      generalize (execOp a.eval o).run P w = r at *
      cases r with
      | ok n w' =>
        cases n <;> simp only [Oper.upon] at h <;> simp only [Oper.effUpon]
        case value v => exact h.2.2
        case skip => exact h.2.2
        case defer d =>
          have := h.2.1
          generalize o.dst = dd at this
          cases dd <;> simp [Act.put] at this
        case enter f args =>
          refine h.mono fun e w'' he => ?_
          cases e with
          | returned v => exact he.2.2
          | panicked c => exact absurd he.1 (by simp)
          | outgrown => obtain ⟨_, _, h1, _⟩ := he; cases h1
        case row row args => exact Rows.mono h fun v w'' he => he.2.2
      | halt x w' =>
        cases x <;> simp only [Oper.upon] at h
        exact absurd h.1 (by simp)
    · cases h
  · rename_i hw
    simp only [hw] at h
    exact h.2.2.2

def setR (listed : Array Bool) (a : Nat) : Nat → Array Bool
  | 0 => listed
  | m + 1 => setR (listed.setIfInBounds a true) (a + 1) m
/-- What is left of the head, walked whichever order its effects take. -/
def Tr (P : Program) (ops : Array Oper) (C : World → Prop) (w1 : World) (E : Nat → Bool) (n : Nat) (Lq : Act → World → Prop) (f : Nat) (listed : Array Bool) (a : Act) (w : World) : Prop :=
  HeadInv .any ops n listed → wpAnyMx P ops C w1 E n (fun listed' a' w' => Region.seqB .any ops (ops.size - n) n listed' = true ∧ Lq a' w') f listed a w
def Region.pieceB (ops : Array Oper) (n : Nat) : Nat → Nat → Array Bool → Bool
  | _, 0, _ => true
  | a, m + 1, listed => (Region.ready .any ops listed).contains a && Region.free .any ops listed a && decide (a < n) && (match ops[a]? with | some o => o.op.quietB | none => false) && Region.pieceB ops n (a + 1) m (listed.setIfInBounds a true)
/-- What is asked of the region's text. -/
def Region.treeB (ops : Array Oper) (n : Nat) : Bool :=
  Region.noSelect ops && decide (n ≤ ops.size) && Region.ancOk ops (Region.before ops) && Region.tailT ops (Region.before ops) n
variable {n : Nat} {Lq : Act → World → Prop}

/-- A run of quiet operations, numbers k, k + 1, .. -/
theorem tr_quiet (hB : Region.treeB ops n = true) (D : World → Prop) (hD : ∀ i w, clsOf C w1 E i w → D w) : ∀ (l1 : List Oper) (k F : Nat) (listed : Array Bool) (a : Act),
    (∀ j, j < l1.length → l1[j]? = ops[k + j]?) → Region.pieceB ops n k l1.length listed = true →
    wpQuiet P ops D (fun a' => Tr P ops C w1 E n Lq F (setR listed k l1.length) a' w) l1 a → Tr P ops C w1 E n Lq (F + l1.length) listed a w
  | [], k, F, listed, a, _, _, h => h
  | o :: l1, k, F, listed, a, hl, hp, h => by
    intro inv
    have h0 : ops[k]? = some o := by simpa using (hl 0 (by simp)).symm
    simp only [List.length_cons, Region.pieceB, Bool.and_eq_true, h0, decide_eq_true_eq] at hp
    obtain ⟨⟨⟨⟨hr, hf⟩, hk⟩, hq⟩, hp'⟩ := hp
    have hr' : k ∈ Region.ready .any ops listed := by simpa using hr
    simp only [Region.treeB, Bool.and_eq_true, decide_eq_true_eq] at hB
    have hB' := hB
    obtain ⟨⟨⟨hsel, hn⟩, hT⟩, hm⟩ := hB
    have inv' := inv.set hr' hk
    have hl' : ∀ j, j < l1.length → l1[j]? = ops[k + 1 + j]? := fun j hj => by
      have := hl (j + 1) (by simpa using hj)
      simpa [Nat.add_assoc, Nat.add_comm 1] using this
    have next := fun (a' : Act) (hh : wpQuiet P ops D (fun a' => Tr P ops C w1 E n Lq F (setR (listed.setIfInBounds k true) (k + 1) l1.length) a' w) l1 a') =>
      tr_quiet (by simp only [Region.treeB, Bool.and_eq_true, decide_eq_true_eq]; exact hB') D hD l1 (k + 1) F (listed.setIfInBounds k true) a' hl' hp' hh inv'
    have hd : ∀ (listed : Array Bool) (a : Act) (w : World), (Region.seqB .any ops (ops.size - n) n listed = true ∧ Lq a w) → ∀ j ∈ Region.ready .any ops listed, n ≤ j := fun listed' a' w' hL => seqB_ready hL.1
    unfold wpQuiet at h
    rw [List.length_cons, ← Nat.add_assoc]
    by_cases hw : Region.wanted o (yielded ops a.tmps) = true
    · simp only [hw, if_true] at h
      obtain ⟨v, h1, h2⟩ := Oper.q1_of_quiet hq h
      exact wpAnyMx_firstT h0 (Region.noSelect_spec hsel) hT hm hk hd (F + l1.length) listed a w inv (Region.free_spec h0 hf) hr' (.inl ⟨hw, fun w hc => h1 w (hD k w hc)⟩) (.inl hq) (next _ h2)
    · simp only [hw] at h
      exact wpAnyMx_firstT h0 (Region.noSelect_spec hsel) hT hm hk hd (F + l1.length) listed a w inv (Region.free_spec h0 hf) hr' (.inr ⟨by simpa using hw, rfl⟩) (.inl hq) (next _ h)
end
section
variable {P : Program} {l : List Oper} {C : World → Prop} {w w1 : World} {E : Nat → Bool} {n : Nat} {Lq : Act → World → Prop} {G : Nat} {listed : Array Bool} {a : Act}

theorem tr_late (hB : Region.treeB l.toArray n = true) (hC : C w1) (k m F : Nat) (hF : G = F + m) (hm : k + m ≤ l.length) (hp : Region.pieceB l.toArray n k m listed = true)
    (h : wpQuiet P l.toArray C (fun a' => Tr P l.toArray C w1 E n Lq F (setR listed k m) a' w) ((l.drop k).take m) a) : Tr P l.toArray C w1 E n Lq G listed a w := by
  have e : ((l.drop k).take m).length = m := by simp; omega
  subst hF
  have := tr_quiet (P := P) (C := C) (w := w) (w1 := w1) (E := E) (Lq := Lq) hB C (fun i w' hc => by unfold clsOf at hc; split at hc <;> first | exact hc | (rw [hc]; exact hC)) ((l.drop k).take m) k F listed a (fun j hj => by rw [e] at hj; simp [hj]) (by rw [e]; exact hp) (by rw [e]; exact h)
  rwa [e] at this
/-- The early ones among them alone: each is told in the first world. -/
theorem tr_early (hB : Region.treeB l.toArray n = true) (k m F : Nat) (hF : G = F + m) (hm : k + m ≤ l.length) (hp : Region.pieceB l.toArray n k m listed = true) (he : ∀ j, j < m → E (k + j) = true)
    (h : wpQuiet P l.toArray (fun w' => w' = w1) (fun a' => Tr P l.toArray C w1 E n Lq F (setR listed k m) a' w) ((l.drop k).take m) a) : Tr P l.toArray C w1 E n Lq G listed a w := by
  subst hF
  induction m generalizing k listed a with
  | zero => simpa [setR, wpQuiet] using h
  | succ m ih =>
    have hkl : k < l.length := by omega
    have hd : (l.drop k).take (m + 1) = l[k] :: (l.drop (k + 1)).take m := by rw [List.drop_eq_getElem_cons hkl, List.take_succ_cons]
    rw [hd] at h
    have h0 : l.toArray[k]? = some l[k] := by simp [hkl]
    have hp0 := hp
    simp only [Region.pieceB, Bool.and_eq_true, h0, decide_eq_true_eq] at hp
    obtain ⟨⟨⟨⟨hr, hf⟩, hk⟩, hq⟩, hp'⟩ := hp
    intro inv
    have hr' : k ∈ Region.ready .any l.toArray listed := by simpa using hr
    have hB' := hB
    simp only [Region.treeB, Bool.and_eq_true, decide_eq_true_eq] at hB
    obtain ⟨⟨⟨hsel, hn⟩, hT⟩, hmt⟩ := hB
    have next := fun (a' : Act) (hh : wpQuiet P l.toArray (fun w' => w' = w1) (fun a' => Tr P l.toArray C w1 E n Lq F (setR (listed.setIfInBounds k true) (k + 1) m) a' w) ((l.drop (k + 1)).take m) a') =>
      ih (listed := listed.setIfInBounds k true) (a := a') (k + 1) (by omega) hp' (fun j hj => by have := he (j + 1) (by omega); rwa [show k + 1 + j = k + (j + 1) by omega]) hh (inv.set hr' hk)
    have hdn : ∀ (listed : Array Bool) (a : Act) (w : World), (Region.seqB .any l.toArray (l.toArray.size - n) n listed = true ∧ Lq a w) → ∀ j ∈ Region.ready .any l.toArray listed, n ≤ j := fun listed' a' w' hL => seqB_ready hL.1
    unfold wpQuiet at h
    rw [← Nat.add_assoc]
    by_cases hw : Region.wanted l[k] (yielded l.toArray a.tmps) = true
    · simp only [hw, if_true] at h
      obtain ⟨v, h1, h2⟩ := Oper.q1_of_quiet hq h
      exact wpAnyMx_firstT h0 (Region.noSelect_spec hsel) hT hmt hk hdn (F + m) listed a w inv (Region.free_spec h0 hf) hr' (.inl ⟨hw, fun w hc => h1 w (by
        unfold clsOf at hc
        have := he 0 (by omega)
        rw [Nat.add_zero] at this
        rwa [if_pos this] at hc)⟩) (.inl hq) (next _ h2)
    · simp only [hw] at h
      exact wpAnyMx_firstT h0 (Region.noSelect_spec hsel) hT hmt hk hdn (F + m) listed a w inv (Region.free_spec h0 hf) hr' (.inr ⟨by simpa using hw, rfl⟩) (.inl hq) (next _ h)
/-- One effect of those that may come now. -/
def TrE (P : Program) (l : List Oper) (C : World → Prop) (w1 : World) (E : Nat → Bool) (n : Nat) (Lq : Act → World → Prop) (F : Nat) (listed : Array Bool) (a : Act) (w : World) (i : Nat) : Prop :=
  wpList P l.toArray (fun e a' w' => e = .normal ∧ a'.defers = a.defers ∧ C w' ∧ Tr P l.toArray C w1 E n Lq F (listed.setIfInBounds i true) a' w') ((l.drop i).take 1) a w
/-- Whichever effect comes next. -/
theorem tr_eff (is : List Nat) (F : Nat) (hF : G = F + 1) (hr : Region.ready .any l.toArray listed = is) (hi : (!is.isEmpty && is.all fun i => decide (i < n) && (match l[i]? with | some o => !o.op.quietB | none => false)) = true)
    (h : ∀ i ∈ is, TrE P l C w1 E n Lq F listed a w i) : Tr P l.toArray C w1 E n Lq G listed a w := by
  subst hF
  intro inv
  simp only [Bool.and_eq_true, Bool.not_eq_true', List.isEmpty_eq_false_iff] at hi
  refine ⟨by rw [hr]; exact hi.1, fun i hir => ?_⟩
  have hii := hir
  rw [hr] at hii
  have h2 := List.all_eq_true.1 hi.2 i hii
  simp only [Bool.and_eq_true, decide_eq_true_eq] at h2
  obtain ⟨hin, h3⟩ := h2
  refine ⟨hin, ?_⟩
  have h4 := h i hii
  unfold TrE at h4
  cases ho : l[i]? with
  | none => rw [ho] at h3; cases h3
  | some o =>
    rw [ho] at h3
    have hq : o.op.quietB = false := by simpa using h3
    have hil : i < l.length := (List.getElem?_eq_some_iff.1 ho).1
    have hd : (l.drop i).take 1 = [o] := by
      rw [List.drop_eq_getElem_cons hil, List.take_succ_cons, List.take_zero]
      rw [(List.getElem?_eq_some_iff.1 ho).2]
    rw [hd] at h4
    have h5 := effs_of_list h4
    have inv' := inv.set hir hin
    unfold mOp
    simp only [List.getElem?_toArray, ho, hq, Bool.false_eq_true, if_false]
    split
    · rename_i hw
      simp only [hw, if_true] at h5
      exact Oper.effUpon_mono (fun a' w' hk => ⟨hk.1, hk.2 inv'⟩) h5
    · rename_i hw
      simp only [hw] at h5
      exact h5 inv'
theorem tr_end (hs : Region.seqB .any l.toArray (l.toArray.size - n) n listed = true) (h : Lq a w) : Tr P l.toArray C w1 E n Lq 0 listed a w := fun _ => ⟨hs, h⟩

/-- **A REGION THAT DRAWS ITS ORDER, WHOSE EFFECTS MAY COME IN SEVERAL ORDERS.** -/
theorem wp_region_tree {id : Nat} {Q : Exit → Act → World → Prop} (C : World → Prop) (n : Nat) (hm : P.follows .mixedOrders = true) (hB : Region.treeB l.toArray n = true) (hC : C w.drew)
    (h : Region.treeB l.toArray n = true → Tr P l.toArray C w.drew (Region.early l.toArray (Region.before l.toArray) n) n (fun a' w' => wpList P l.toArray Q (l.drop n) a' w') n (Array.replicate l.length false) a w.drew) : (Code.region id l.toArray true).wp P Q a w := by
  have H := h hB
  simp only [Region.treeB, Bool.and_eq_true, decide_eq_true_eq] at hB
  obtain ⟨⟨⟨hsel, hn⟩, hT⟩, hmt⟩ := hB
  have hn' : n ≤ l.length := by simpa using hn
  have hdl : (l.drop n).length = l.toArray.size - n := by simp
  have hE := early_ok l.toArray (Region.before l.toArray) n
  have inv0 : HeadInv .any l.toArray n (Array.replicate l.length false) :=
    ⟨by simp, fun j oj _ hl => (by rw [getD_replicate_false] at hl; cases hl), fun t _ ht => getD_in (by simpa using ht) (getD_replicate_false _ _)⟩
  refine wp_region_any hm ?_
  have := wpAny_of_mx (Q' := Q) (g := l.toArray.size - n) hT hE (fun listed a' w' hL => by
    have := wpAny_of_seq (md := .any) (Q' := Q) (l.drop n) n listed a' w' (fun j => by simp [List.getElem?_drop]) (by rw [hdl]; exact hL.1) hL.2
    rwa [hdl] at this) _ _ _ _ inv0 hC (.inl rfl) (H inv0)
  rw [show n + (l.toArray.size - n) = l.toArray.size by simp; omega] at this
  simpa using this
end
end Go
end

section
namespace Go.Proofs.Ytgfbkebbnfcgkaa
open Go.RowKit
theorem rd_sub {H : Array Obj} {b off n : Nat} {l : List Int} (h : Rd H (some ⟨b, off, none⟩) n 1 (ivals .u8 l)) (i m : Nat) (hi : i + m ≤ n) : Rd H (some ⟨b, off + i, none⟩) m 1 (ivals .u8 ((l.drop i).take m)) := by
  have hl : l.length = n := by have := h.len; simpa [ivals] using this
  refine ⟨by simp [ivals]; omega, ?_⟩
  rcases h.at' with h1 | ⟨b', off', h1, h2, h3⟩
  · left
    have : l = [] := by cases l with | nil => rfl | cons x l => cases h1
    subst this; simp [ivals]
  · right
    cases h1
    refine ⟨b, off + i, rfl, h2, fun w hw j hj => ?_⟩
    have hj' : j < m ∧ i + j < l.length := by simp [ivals] at hj; omega
    rw [Nat.add_assoc, h3 w hw (i + j) (by simp [ivals]; omega)]
    simp only [ivals, List.getElem?_map]
    rw [List.getElem?_take, if_pos hj'.1, List.getElem?_drop]
/-- Twenty bytes made of fewer. -/
def RetFill (w : World) (p : List Int) (e : Ending) (w' : World) : Prop :=
  ∃ g, e = .returned (.slice (some ⟨g, 0, none⟩) 20 20) ∧ Ownd w'.heap 5 1 (some ⟨g, 0, none⟩) 20 20 (ivals .u8 (filledD p)) (some g) ∧ Fr (fun _ => False) w w' ∧ w.heap.size ≤ g
theorem splice_head (L cs : List Value) : splice L 0 cs = cs ++ L.drop cs.length := by simp [splice]
set_option maxRecDepth 100000 in
set_option maxHeartbeats 4000000 in
theorem filled_any {M : Nat} (p : List Int) (a : Option Addr) (c : Nat) (w : World) (hp : Rd w.heap a M 1 (ivals .u8 p)) (h1 : 1 ≤ p.length) (h20 : p.length ≤ 20) (hM : M = p.length) :
    Calls Try.prog 48 #[.slice a M c] w (RetFill w p) := by
  subst hM
  obtain ⟨b, off, rfl, hbl, hc⟩ := Ints.pos hp (by omega)
  have hlast := hc w rfl (p.length - 1) (by omega)
  have HP := Lib.hid hp
  have hF1 := (Fr.refl (fun _ => False) w).alloc (.cells #[.int .u8 0, .int .u8 2, .int .u8 0, .int .u8 0, .int .u8 0, .int .u8 0, .int .u8 0, .int .u8 0, .int .u8 255, .int .u8 255, .int .u8 255, .int .u8 255, .int .u8 0, .int .u8 0, .int .u8 0, .int .u8 0, .int .u8 0, .int .u8 0, .int .u8 0, .int .u8 1] 5)
  have hB1 : Blk (w.alloc (.cells #[.int .u8 0, .int .u8 2, .int .u8 0, .int .u8 0, .int .u8 0, .int .u8 0, .int .u8 0, .int .u8 0, .int .u8 255, .int .u8 255, .int .u8 255, .int .u8 255, .int .u8 0, .int .u8 0, .int .u8 0, .int .u8 0, .int .u8 0, .int .u8 0, .int .u8 0, .int .u8 1] 5)).heap w.heap.size 5 (ivals .u8 [0, 2, 0, 0, 0, 0, 0, 0, 255, 255, 255, 255, 0, 0, 0, 0, 0, 0, 0, 1]) := Blk.made w 5 (ivals .u8 [0, 2, 0, 0, 0, 0, 0, 0, 255, 255, 255, 255, 0, 0, 0, 0, 0, 0, 0, 1])
  have hbl1 : b < (w.alloc (.cells #[.int .u8 0, .int .u8 2, .int .u8 0, .int .u8 0, .int .u8 0, .int .u8 0, .int .u8 0, .int .u8 0, .int .u8 255, .int .u8 255, .int .u8 255, .int .u8 255, .int .u8 0, .int .u8 0, .int .u8 0, .int .u8 0, .int .u8 0, .int .u8 0, .int .u8 0, .int .u8 1] 5)).heap.size := Nat.lt_of_lt_of_le hbl hF1.size
  clear hp hc
  go_enter Try.func48, Try.ntmps48
  -- behind the choice: the twenty bytes
  have fin : ∀ (W : World) (_ : Fr (fun _ => False) w W) (B : List Int) (_ : B.length = 20) (_ : Blk W.heap w.heap.size 5 (ivals .u8 B)), CpySide W (some ⟨w.heap.size, 0, none⟩) (some ⟨b, off, none⟩) p.length 20 1 w.heap.size 0 (ivals .u8 B) (ivals .u8 p) := fun W f B hB hBk => by
    refine ⟨by simp [ivals]; omega, fun _ => ⟨rfl, ⟨b, off, none⟩, rfl, fun j v hj => ?_⟩, by simp [ivals]; omega, ivals_one .u8 p⟩
    have hr := HP.out.fr f (fun _ _ _ h => h)
    obtain ⟨b', off', e, hb', hc'⟩ := hr.pos (by omega)
    cases e
    have hjl : j < p.length := by have := (List.getElem?_eq_some_iff.1 hj).1; simpa [ivals] using this
    rw [Addr.add_lit, hc' W rfl j (by omega)]
    exact hj
  have done : ∀ (B : List Int) (_ : B.length = 20), splice (ivals .u8 B) 0 (ivals .u8 p) = ivals .u8 (p ++ B.drop p.length) := fun B hB => by rw [splice_head]; simp [ivals]
  have FIN := Lib.hid fin
  have DONE := Lib.hid done
  clear fin done
  by_cases hmid : 8 < p.length ∧ p.length < 12 ∧ nth p (p.length - 1) ≠ 255
  · obtain ⟨m1, m2, m3⟩ := hmid
    have HX := Lib.hid (show filledD p = p ++ ([0, 2, 0, 0, 0, 0, 0, 0, 0, 0, 0, 0, 0, 0, 0, 0, 0, 0, 0, 1] : List Int).drop p.length by unfold filledD baseF; rw [if_pos ⟨m1, m2, m3⟩])
    generalize nth p (p.length - 1) = z at hlast m3
    have e3 : (z != 255) = true := by simp [m3]
    have ei : ((p.length : Int) - 1) = ((p.length - 1 : Nat) : Int) := by omega
    have hlast' : w.cell? ⟨b, off + (p.length - 1), none⟩ = some (.int .u8 z) := hlast
    clear m3
    have hBm := hB1.alloc (.cells #[.int .u8 0, .int .u8 0, .int .u8 0, .int .u8 0] 5)
    have hFm := hF1.alloc (.cells #[.int .u8 0, .int .u8 0, .int .u8 0, .int .u8 0] 5)
    have hV : Blk ((w.alloc (.cells #[.int .u8 0, .int .u8 2, .int .u8 0, .int .u8 0, .int .u8 0, .int .u8 0, .int .u8 0, .int .u8 0, .int .u8 255, .int .u8 255, .int .u8 255, .int .u8 255, .int .u8 0, .int .u8 0, .int .u8 0, .int .u8 0, .int .u8 0, .int .u8 0, .int .u8 0, .int .u8 1] 5)).alloc (.cells #[.int .u8 0, .int .u8 0, .int .u8 0, .int .u8 0] 5)).heap (w.heap.size + 1) 5 (ivals .u8 [0, 0, 0, 0]) := by
      have := Blk.made (w.alloc (.cells #[.int .u8 0, .int .u8 2, .int .u8 0, .int .u8 0, .int .u8 0, .int .u8 0, .int .u8 0, .int .u8 0, .int .u8 255, .int .u8 255, .int .u8 255, .int .u8 255, .int .u8 0, .int .u8 0, .int .u8 0, .int .u8 0, .int .u8 0, .int .u8 0, .int .u8 0, .int .u8 1] 5)) 5 (ivals .u8 [0, 0, 0, 0])
      rwa [show (w.alloc (.cells #[.int .u8 0, .int .u8 2, .int .u8 0, .int .u8 0, .int .u8 0, .int .u8 0, .int .u8 0, .int .u8 0, .int .u8 255, .int .u8 255, .int .u8 255, .int .u8 255, .int .u8 0, .int .u8 0, .int .u8 0, .int .u8 0, .int .u8 0, .int .u8 0, .int .u8 0, .int .u8 1] 5)).heap.size = w.heap.size + 1 by simp] at this
    have HV := Lib.hid hV
    have HFM := Lib.hid hFm
    clear hV hB1 hF1 hFm
    go_wp2_with (with_reducible refine wpList_cpy rfl (.tmp 23) (.tmp 24) 44 44 rfl Try.underlying44 infoU8 rfl rfl (g := w.heap.size) (off := 8) hBm (cs := ivals .u8 [0, 0, 0, 0]) ?m1 ?m2)
    case m1 =>
      unfold CpySide
      exact ⟨rfl, fun _ => ⟨rfl, _, rfl, fun j v hj => by rw [Addr.add_lit, HV.out.cell, Nat.zero_add]; exact hj⟩, by decide, ivals_one .u8 _⟩
    case m2 =>
      intro w2 hB2 hF2 hs2
      have hBk : Blk w2.heap w.heap.size 5 (ivals .u8 [0, 2, 0, 0, 0, 0, 0, 0, 0, 0, 0, 0, 0, 0, 0, 0, 0, 0, 0, 1]) := hB2
      have hFk : Fr (fun _ => False) w w2 := HFM.out.trans' hF2 (fun i hi e => by have h2 : i = w.heap.size := e; omega)
      clear hB2 hF2 hBm HFM HV
      go_wp2_with (with_reducible refine wpList_cpy rfl (.tmp 26) (.tmp 27) 44 44 rfl Try.underlying44 infoU8 rfl rfl (g := w.heap.size) (off := 0) hBk (cs := ivals .u8 p) ?b1 ?b2)
      case b1 => exact FIN.out _ hFk [0, 2, 0, 0, 0, 0, 0, 0, 0, 0, 0, 0, 0, 0, 0, 0, 0, 0, 0, 1] rfl hBk
      case b2 =>
        intro w9 hB9 hF9 hs9
        have hB9' : Blk w9.heap w.heap.size 5 (ivals .u8 (p ++ ([0, 2, 0, 0, 0, 0, 0, 0, 0, 0, 0, 0, 0, 0, 0, 0, 0, 0, 0, 1] : List Int).drop p.length)) := hB9.eq (DONE.out [0, 2, 0, 0, 0, 0, 0, 0, 0, 0, 0, 0, 0, 0, 0, 0, 0, 0, 0, 1] rfl)
        have hlen : (p ++ ([0, 2, 0, 0, 0, 0, 0, 0, 0, 0, 0, 0, 0, 0, 0, 0, 0, 0, 0, 1] : List Int).drop p.length).length = 20 := by simp; omega
        have hO9 := hB9'.own (sz := 1) (n := 20) (cap := 20) (by omega) (by decide) (by simpa [ivals] using hlen)
        rw [List.take_of_length_le (by simp only [ivals, List.length_map]; omega)] at hO9
        have hF09 : Fr (fun _ => False) w w9 := hFk.trans' hF9 (fun i hi e => by have h2 : i = w.heap.size := e; omega)
        have HO9 := Lib.hid hO9
        clear hB9 hB9' hO9 hlen hBk hFk
        go_wp2
        go_ret
        exact ⟨w.heap.size, rfl, by rw [HX.out]; exact HO9.out, hF09, Nat.le_refl _⟩
  · skip
    have HX := Lib.hid (show filledD p = p ++ ([0, 2, 0, 0, 0, 0, 0, 0, 255, 255, 255, 255, 0, 0, 0, 0, 0, 0, 0, 1] : List Int).drop p.length by unfold filledD baseF; rw [if_neg hmid])
    have hm2 : p.length ≤ 8 ∨ (8 < p.length ∧ 12 ≤ p.length) ∨ (8 < p.length ∧ p.length < 12 ∧ nth p (p.length - 1) = 255) := by
      by_cases e : nth p (p.length - 1) = 255
      · omega
      · have : ¬ (8 < p.length ∧ p.length < 12) := fun h => hmid ⟨h.1, h.2, e⟩
        omega
    have hBk := hB1
    have hFk := hF1
    clear hmid hB1
    rcases hm2 with m1 | ⟨m1, m2⟩ | ⟨m1, m2, m3⟩
    · skip
      go_wp2_with (with_reducible refine wpList_cpy rfl (.tmp 26) (.tmp 27) 44 44 rfl Try.underlying44 infoU8 rfl rfl (g := w.heap.size) (off := 0) hBk (cs := ivals .u8 p) ?b1 ?b2)
      case b1 => exact FIN.out _ hFk [0, 2, 0, 0, 0, 0, 0, 0, 255, 255, 255, 255, 0, 0, 0, 0, 0, 0, 0, 1] rfl hBk
      case b2 =>
        intro w9 hB9 hF9 hs9
        have hB9' : Blk w9.heap w.heap.size 5 (ivals .u8 (p ++ ([0, 2, 0, 0, 0, 0, 0, 0, 255, 255, 255, 255, 0, 0, 0, 0, 0, 0, 0, 1] : List Int).drop p.length)) := hB9.eq (DONE.out [0, 2, 0, 0, 0, 0, 0, 0, 255, 255, 255, 255, 0, 0, 0, 0, 0, 0, 0, 1] rfl)
        have hlen : (p ++ ([0, 2, 0, 0, 0, 0, 0, 0, 255, 255, 255, 255, 0, 0, 0, 0, 0, 0, 0, 1] : List Int).drop p.length).length = 20 := by simp; omega
        have hO9 := hB9'.own (sz := 1) (n := 20) (cap := 20) (by omega) (by decide) (by simpa [ivals] using hlen)
        rw [List.take_of_length_le (by simp only [ivals, List.length_map]; omega)] at hO9
        have hF09 : Fr (fun _ => False) w w9 := hFk.trans' hF9 (fun i hi e => by have h2 : i = w.heap.size := e; omega)
        have HO9 := Lib.hid hO9
        clear hB9 hB9' hO9 hlen hBk hFk
        go_wp2
        go_ret
        exact ⟨w.heap.size, rfl, by rw [HX.out]; exact HO9.out, hF09, Nat.le_refl _⟩
    · skip
      go_wp2_with (with_reducible refine wpList_cpy rfl (.tmp 26) (.tmp 27) 44 44 rfl Try.underlying44 infoU8 rfl rfl (g := w.heap.size) (off := 0) hBk (cs := ivals .u8 p) ?b1 ?b2)
      case b1 => exact FIN.out _ hFk [0, 2, 0, 0, 0, 0, 0, 0, 255, 255, 255, 255, 0, 0, 0, 0, 0, 0, 0, 1] rfl hBk
      case b2 =>
        intro w9 hB9 hF9 hs9
        have hB9' : Blk w9.heap w.heap.size 5 (ivals .u8 (p ++ ([0, 2, 0, 0, 0, 0, 0, 0, 255, 255, 255, 255, 0, 0, 0, 0, 0, 0, 0, 1] : List Int).drop p.length)) := hB9.eq (DONE.out [0, 2, 0, 0, 0, 0, 0, 0, 255, 255, 255, 255, 0, 0, 0, 0, 0, 0, 0, 1] rfl)
        have hlen : (p ++ ([0, 2, 0, 0, 0, 0, 0, 0, 255, 255, 255, 255, 0, 0, 0, 0, 0, 0, 0, 1] : List Int).drop p.length).length = 20 := by simp; omega
        have hO9 := hB9'.own (sz := 1) (n := 20) (cap := 20) (by omega) (by decide) (by simpa [ivals] using hlen)
        rw [List.take_of_length_le (by simp only [ivals, List.length_map]; omega)] at hO9
        have hF09 : Fr (fun _ => False) w w9 := hFk.trans' hF9 (fun i hi e => by have h2 : i = w.heap.size := e; omega)
        have HO9 := Lib.hid hO9
        clear hB9 hB9' hO9 hlen hBk hFk
        go_wp2
        go_ret
        exact ⟨w.heap.size, rfl, by rw [HX.out]; exact HO9.out, hF09, Nat.le_refl _⟩
    · rw [m3] at hlast
      go_wp2_with (with_reducible refine wpList_cpy rfl (.tmp 26) (.tmp 27) 44 44 rfl Try.underlying44 infoU8 rfl rfl (g := w.heap.size) (off := 0) hBk (cs := ivals .u8 p) ?b1 ?b2)
      case b1 => exact FIN.out _ hFk [0, 2, 0, 0, 0, 0, 0, 0, 255, 255, 255, 255, 0, 0, 0, 0, 0, 0, 0, 1] rfl hBk
      case b2 =>
        intro w9 hB9 hF9 hs9
        have hB9' : Blk w9.heap w.heap.size 5 (ivals .u8 (p ++ ([0, 2, 0, 0, 0, 0, 0, 0, 255, 255, 255, 255, 0, 0, 0, 0, 0, 0, 0, 1] : List Int).drop p.length)) := hB9.eq (DONE.out [0, 2, 0, 0, 0, 0, 0, 0, 255, 255, 255, 255, 0, 0, 0, 0, 0, 0, 0, 1] rfl)
        have hlen : (p ++ ([0, 2, 0, 0, 0, 0, 0, 0, 255, 255, 255, 255, 0, 0, 0, 0, 0, 0, 0, 1] : List Int).drop p.length).length = 20 := by simp; omega
        have hO9 := hB9'.own (sz := 1) (n := 20) (cap := 20) (by omega) (by decide) (by simpa [ivals] using hlen)
        rw [List.take_of_length_le (by simp only [ivals, List.length_map]; omega)] at hO9
        have hF09 : Fr (fun _ => False) w w9 := hFk.trans' hF9 (fun i hi e => by have h2 : i = w.heap.size := e; omega)
        have HO9 := Lib.hid hO9
        clear hB9 hB9' hO9 hlen hBk hFk
        go_wp2
        go_ret
        exact ⟨w.heap.size, rfl, by rw [HX.out]; exact HO9.out, hF09, Nat.le_refl _⟩
end Go.Proofs.Ytgfbkebbnfcgkaa
end

section
namespace Go.Proofs.Ytgfbkebbnfcgkaa
open Go.RowKit
/-- An entry of twenty bytes; is it one? -/
def RetEnt (w : World) (r : Option En) (e : Ending) (w' : World) : Prop :=
  ∃ x : En, e = .returned (.tuple #[.agg #[.int .u32 x.a, .int .i64 x.n, .int .i64 x.t, .int .u32 x.p, .int .i64 x.m], .bool r.isSome]) ∧ Fr (fun _ => False) w w' ∧ (∀ y, r = some y → y = x) ∧ En.wf x
theorem put5 {w : World} {g : Nat} {E : TypeId} {c0 c1 c2 c3 c4 : Value} (h : Blk w.heap g E [c0, c1, c2, c3, c4]) (u0 u1 u2 u3 u4 : Value) :
    Blk (((((w.setCell ⟨g, 0, none⟩ u0).setCell ⟨g, 1, none⟩ u1).setCell ⟨g, 2, none⟩ u2).setCell ⟨g, 3, none⟩ u3).setCell ⟨g, 4, none⟩ u4).heap g E [u0, u1, u2, u3, u4] ∧ Fr (fun k => k = g) w (((((w.setCell ⟨g, 0, none⟩ u0).setCell ⟨g, 1, none⟩ u1).setCell ⟨g, 2, none⟩ u2).setCell ⟨g, 3, none⟩ u3).setCell ⟨g, 4, none⟩ u4) :=
  ⟨((((h.set 0 u0).set 1 u1).set 2 u2).set 3 u3).set 4 u4, (((((Fr.refl (fun k => k = g) w).setCell (p := ⟨g, 0, none⟩) (fun _ => rfl) u0).setCell (p := ⟨g, 1, none⟩) (fun _ => rfl) u1).setCell (p := ⟨g, 2, none⟩) (fun _ => rfl) u2).setCell (p := ⟨g, 3, none⟩) (fun _ => rfl) u3).setCell (p := ⟨g, 4, none⟩) (fun _ => rfl) u4⟩
theorem entD_eq {l : List Int} : entD l = match mlenO (numB ((l.drop 8).take 4)) with
  | none => none
  | some k => if numB (l.take 2) = 2 ∧ entErr ⟨numB ((l.drop 4).take 4), k, numB ((l.drop 2).take 2), numB ((l.drop 12).take 4), numB ((l.drop 16).take 4)⟩ = none then
      some ⟨numB ((l.drop 4).take 4), k, numB ((l.drop 2).take 2), numB ((l.drop 12).take 4), numB ((l.drop 16).take 4)⟩ else none := rfl
set_option maxRecDepth 100000 in
set_option maxHeartbeats 2000000 in
theorem entry_any (l : List Int) (g : Nat) (w : World) (hL : Rd w.heap (some ⟨g, 0, none⟩) 20 1 (ivals .u8 l)) (hb : ∀ x ∈ l, 0 ≤ x ∧ x < 256) :
    Calls Try.prog 47 #[.slice (some ⟨g, 0, none⟩) 20 20] w (RetEnt w (entD l)) := by
  have hll : l.length = 20 := by have := hL.len; simpa [ivals] using this
  have num : ∀ (i m c : Nat) (_ : i + m ≤ 20) (W : World) (_ : Fr (fun _ => False) w W), Calls Try.prog 67 #[.slice (some ⟨g, i, none⟩) m c] W (RetV W (.int .u32 (numB ((l.drop i).take m)))) := fun i m c him W f => by
    have h := rd_sub (hL.fr f (fun _ _ _ h => h)) i m him
    rw [Nat.zero_add] at h
    exact (number_any ((l.drop i).take m) (some ⟨g, i, none⟩) c W h (fun x hx => hb x (List.mem_of_mem_drop (List.mem_of_mem_take hx))) (by simp; omega) (by simp; omega)).mono fun e w' hh => hh.v
  have bd : ∀ i m, 0 ≤ numB ((l.drop i).take m) ∧ numB ((l.drop i).take m) < 4294967296 := fun i m => numB_bd (fun x hx => hb x (List.mem_of_mem_drop (List.mem_of_mem_take hx)))
  have hD := entD_eq (l := l)
  rw [show l.take 2 = (l.drop 0).take 2 from rfl] at hD
  have n0 := num 0 2 20 (by omega)
  have n2 := num 2 2 18 (by omega)
  have n4 := num 4 4 16 (by omega)
  have n8 := num 8 4 12 (by omega)
  have n12 := num 12 4 8 (by omega)
  have n16 := num 16 4 4 (by omega)
  have b2 := bd 2 2
  have b4 := bd 4 4
  have b8 := bd 8 4
  have b12 := bd 12 4
  have b16 := bd 16 4
  generalize numB ((l.drop 0).take 2) = N0 at *
  generalize numB ((l.drop 2).take 2) = N2 at *
  generalize numB ((l.drop 4).take 4) = N4 at *
  generalize numB ((l.drop 8).take 4) = N8 at *
  generalize numB ((l.drop 12).take 4) = N12 at *
  generalize numB ((l.drop 16).take 4) = N16 at *
  have M0 := Lib.hid n0
  have M2 := Lib.hid n2
  have M4 := Lib.hid n4
  have M12 := Lib.hid n12
  have M16 := Lib.hid n16
  have HD := Lib.hid hD
  have hF0 := (Fr.refl (fun _ => False) w).alloc (.cells #[.int .u32 0, .int .i64 0, .int .i64 0, .int .u32 0, .int .i64 0] 80)
  have hB0 := Blk.made w 80 [.int .u32 0, .int .i64 0, .int .i64 0, .int .u32 0, .int .i64 0]
  have hs0 : (w.alloc (.cells #[.int .u32 0, .int .i64 0, .int .i64 0, .int .u32 0, .int .i64 0] 80)).heap.size = w.heap.size + 1 := by simp
  obtain ⟨R, hR⟩ : ∃ R, R = entD l := ⟨_, rfl⟩
  rw [← hR] at HD ⊢
  clear num bd hD n0 n2 n4 n12 n16 hL hR hb
  go_enter Try.func47, Try.ntmps47
  go_wp2_with (fail)
  refine (n8 _ hF0).mono ?_
  rintro e1 w1 ⟨rfl, hF1⟩
  have hF01 := hF0.trans hF1
  have hB1 := hB0.fr hF1 (fun h => h)
  clear hF0 hF1 hB0 n8
  go_wp2_with (fail)
  refine (masklen_any N8 w1 b8).mono ?_
  intro e2 w2 R2
  obtain ⟨K, er, hK, rfl, rfl, hKD⟩ : ∃ (K : Nat) (er : Value), K ≤ 32 ∧ e2 = .returned (.tuple #[.int .i64 K, er]) ∧ w2 = w1 ∧ ((er = errv 3 ∧ mlenO N8 = none) ∨ (er = .nilIface ∧ mlenO N8 = some K)) := by
    obtain ⟨h1, h2⟩ := R2
    cases hm : mlenO N8 with
    | none => rw [hm] at h1; exact ⟨0, errv 3, by omega, h1, h2, .inl ⟨rfl, rfl⟩⟩
    | some k => rw [hm] at h1; exact ⟨k, .nilIface, (mlenO_some hm).1, h1, h2, .inr ⟨rfl, rfl⟩⟩
  have HKD := Lib.hid hKD
  clear R2 hKD
  go_upto_region 2 with (fail)
  obtain ⟨W, hW⟩ : ∃ W, W = w2 := ⟨_, rfl⟩
  subst hW
  go_cut [6] (fun s6 wx => ∃ p : Nat, s6 = .pointer (some ⟨p, 0, none⟩) ∧ Blk wx.heap p 80 [.int .u32 N4, .int .i64 K, .int .i64 N2, .int .u32 N12, .int .i64 N16] ∧ Fr (fun _ => False) W wx ∧ W.heap.size ≤ p)
  case first =>
    have hFW := hF01
    (refine wp_region_tree (fun w' => ∃ c : Cls (fun _ => False) W, w' = c.wo) 18 (by kernel_rfl) (by kernel_rfl) (⟨⟨_, (Fr.refl _ _).drew⟩, rfl⟩) ?_; intro hTB)
    (refine tr_late hTB (⟨⟨_, (Fr.refl _ _).drew⟩, rfl⟩) 0 2 _ rfl (by decide) (by kernel_rfl) ?_; simp only [List.take_succ_cons, List.take_zero, List.drop_succ_cons, List.drop_zero]; (repeat (go_big_quiet_step (fail))); refine wpQuiet_nil ?_)
    (refine tr_late hTB (⟨⟨_, (Fr.refl _ _).drew⟩, rfl⟩) 3 1 _ rfl (by decide) (by kernel_rfl) ?_; simp only [List.take_succ_cons, List.take_zero, List.drop_succ_cons, List.drop_zero]; (repeat (go_big_quiet_step (fail))); refine wpQuiet_nil ?_)
    (refine tr_late hTB (⟨⟨_, (Fr.refl _ _).drew⟩, rfl⟩) 5 2 _ rfl (by decide) (by kernel_rfl) ?_; simp only [List.take_succ_cons, List.take_zero, List.drop_succ_cons, List.drop_zero]; (repeat (go_big_quiet_step (fail))); refine wpQuiet_nil ?_)
    (refine tr_late hTB (⟨⟨_, (Fr.refl _ _).drew⟩, rfl⟩) 9 2 _ rfl (by decide) (by kernel_rfl) ?_; simp only [List.take_succ_cons, List.take_zero, List.drop_succ_cons, List.drop_zero]; (repeat (go_big_quiet_step (fail))); refine wpQuiet_nil ?_)
    (refine tr_late hTB (⟨⟨_, (Fr.refl _ _).drew⟩, rfl⟩) 12 2 _ rfl (by decide) (by kernel_rfl) ?_; simp only [List.take_succ_cons, List.take_zero, List.drop_succ_cons, List.drop_zero]; (repeat (go_big_quiet_step (fail))); refine wpQuiet_nil ?_)
    (refine tr_eff [2, 17] _ rfl (by kernel_rfl) (by kernel_rfl) (List.forall_mem_cons.2 ⟨?_, List.forall_mem_cons.2 ⟨?_, fun _ h => nomatch h⟩⟩)) <;> (unfold TrE; simp only [List.take_succ_cons, List.take_zero, List.drop_succ_cons, List.drop_zero])
    · go_wp2_with (fail)
      refine (M4.out _ (hF01.trans ((Fr.refl (fun _ => False) W).drew))).mono ?_
      rintro e2 w2 ⟨rfl, hH2⟩
      have hG2 : Fr (fun _ => False) W w2 := ((Fr.refl (fun _ => False) W).drew).trans hH2
      clear hH2
      go_wp2
      refine ⟨⟨⟨_, hG2⟩, rfl⟩, ?_⟩
      (refine tr_late hTB (⟨⟨_, (Fr.refl _ _).drew⟩, rfl⟩) 4 1 _ rfl (by decide) (by kernel_rfl) ?_; simp only [List.take_succ_cons, List.take_zero, List.drop_succ_cons, List.drop_zero]; (repeat (go_big_quiet_step (fail))); refine wpQuiet_nil ?_)
      (refine tr_eff [7, 17] _ rfl (by kernel_rfl) (by kernel_rfl) (List.forall_mem_cons.2 ⟨?_, List.forall_mem_cons.2 ⟨?_, fun _ h => nomatch h⟩⟩)) <;> (unfold TrE; simp only [List.take_succ_cons, List.take_zero, List.drop_succ_cons, List.drop_zero])
      · go_wp2_with (fail)
        refine (M2.out _ (hF01.trans (hG2))).mono ?_
        rintro e7 w7 ⟨rfl, hH7⟩
        have hG7 : Fr (fun _ => False) W w7 := (hG2).trans hH7
        clear hH7
        go_wp2
        refine ⟨⟨⟨_, hG7⟩, rfl⟩, ?_⟩
        (refine tr_late hTB (⟨⟨_, (Fr.refl _ _).drew⟩, rfl⟩) 8 1 _ rfl (by decide) (by kernel_rfl) ?_; simp only [List.take_succ_cons, List.take_zero, List.drop_succ_cons, List.drop_zero]; (repeat (go_big_quiet_step (fail))); refine wpQuiet_nil ?_)
        (refine tr_eff [11, 17] _ rfl (by kernel_rfl) (by kernel_rfl) (List.forall_mem_cons.2 ⟨?_, List.forall_mem_cons.2 ⟨?_, fun _ h => nomatch h⟩⟩)) <;> (unfold TrE; simp only [List.take_succ_cons, List.take_zero, List.drop_succ_cons, List.drop_zero])
        · go_wp2_with (fail)
          refine (M12.out _ (hF01.trans (hG7))).mono ?_
          rintro e11 w11 ⟨rfl, hH11⟩
          have hG11 : Fr (fun _ => False) W w11 := (hG7).trans hH11
          clear hH11
          go_wp2
          refine ⟨⟨⟨_, hG11⟩, rfl⟩, ?_⟩
          (refine tr_eff [14, 17] _ rfl (by kernel_rfl) (by kernel_rfl) (List.forall_mem_cons.2 ⟨?_, List.forall_mem_cons.2 ⟨?_, fun _ h => nomatch h⟩⟩)) <;> (unfold TrE; simp only [List.take_succ_cons, List.take_zero, List.drop_succ_cons, List.drop_zero])
          · go_wp2_with (fail)
            refine (M16.out _ (hF01.trans (hG11))).mono ?_
            rintro e14 w14 ⟨rfl, hH14⟩
            have hG14 : Fr (fun _ => False) W w14 := (hG11).trans hH14
            clear hH14
            go_wp2
            refine ⟨⟨⟨_, hG14⟩, rfl⟩, ?_⟩
            (refine tr_late hTB (⟨⟨_, (Fr.refl _ _).drew⟩, rfl⟩) 15 2 _ rfl (by decide) (by kernel_rfl) ?_; simp only [List.take_succ_cons, List.take_zero, List.drop_succ_cons, List.drop_zero]; (repeat (go_big_quiet_step (fail))); refine wpQuiet_nil ?_)
            (refine tr_eff [17] _ rfl (by kernel_rfl) (by kernel_rfl) (List.forall_mem_cons.2 ⟨?_, fun _ h => nomatch h⟩)) <;> (unfold TrE; simp only [List.take_succ_cons, List.take_zero, List.drop_succ_cons, List.drop_zero])
            · go_wp2
              refine ⟨⟨⟨_, hG14.alloc (.cells #[.int .u32 0, .int .i64 0, .int .i64 0, .int .u32 0, .int .i64 0] 80)⟩, rfl⟩, ?_⟩
              refine tr_end (by kernel_rfl) ?_
              have HP := Lib.hid (Blk.made w14 80 [.int .u32 N4, .int .i64 K, .int .i64 N2, .int .u32 N12, .int .i64 N16])
              have HG := Lib.hid (hG14.alloc (.cells #[.int .u32 N4, .int .i64 K, .int .i64 N2, .int .u32 N12, .int .i64 N16] 80))
              have hSl := hG14.size
              clear hG14
              go_wp2
              go_meet
              case rel => exact ⟨w14.heap.size, rfl, HP.out, HG.out, hSl⟩
          · go_wp2
            refine ⟨⟨⟨_, hG11.alloc (.cells #[.int .u32 0, .int .i64 0, .int .i64 0, .int .u32 0, .int .i64 0] 80)⟩, rfl⟩, ?_⟩
            have hGz3 := hG11.alloc (.cells #[.int .u32 0, .int .i64 0, .int .i64 0, .int .u32 0, .int .i64 0] 80)
            have hPz3 := Blk.made w11 80 [.int .u32 0, .int .i64 0, .int .i64 0, .int .u32 0, .int .i64 0]
            have hSz3 := hG11.size
            generalize hXz3 : w11.alloc (.cells #[.int .u32 0, .int .i64 0, .int .i64 0, .int .u32 0, .int .i64 0] 80) = wz3 at *
            (refine tr_eff [14] _ rfl (by kernel_rfl) (by kernel_rfl) (List.forall_mem_cons.2 ⟨?_, fun _ h => nomatch h⟩)) <;> (unfold TrE; simp only [List.take_succ_cons, List.take_zero, List.drop_succ_cons, List.drop_zero])
            · go_wp2_with (fail)
              refine (M16.out _ (hF01.trans (hGz3))).mono ?_
              rintro e14z3 w14z3 ⟨rfl, hH14z3⟩
              have hG14z3 : Fr (fun _ => False) W w14z3 := (hGz3).trans hH14z3
              have hP14z3 := hPz3.fr hH14z3 (fun h => h)
              clear hH14z3
              go_wp2
              refine ⟨⟨⟨_, hG14z3⟩, rfl⟩, ?_⟩
              (refine tr_late hTB (⟨⟨_, (Fr.refl _ _).drew⟩, rfl⟩) 15 2 _ rfl (by decide) (by kernel_rfl) ?_; simp only [List.take_succ_cons, List.take_zero, List.drop_succ_cons, List.drop_zero]; (repeat (go_big_quiet_step (fail))); refine wpQuiet_nil ?_)
              refine tr_end (by kernel_rfl) ?_
              obtain ⟨q1, q2⟩ := put5 hP14z3 (.int .u32 N4) (.int .i64 K) (.int .i64 N2) (.int .u32 N12) (.int .i64 N16)
              have f0 := hP14z3.frozen 0
              have f1 := hP14z3.frozen 1
              have f2 := hP14z3.frozen 2
              have f3 := hP14z3.frozen 3
              have f4 := hP14z3.frozen 4
              have g0 := hP14z3.cell 0
              have g1 := hP14z3.cell 1
              have g2 := hP14z3.cell 2
              have g3 := hP14z3.cell 3
              have g4 := hP14z3.cell 4
              have gl := hP14z3.lt
              simp only [List.getElem?_cons_succ, List.getElem?_cons_zero] at g0 g1 g2 g3 g4
              have HQ1 := Lib.hid q1
              have HQ2 := Lib.hid (hG14z3.trans' q2 (fun i hi e => by have h2 : i = w11.heap.size := e; omega))
              have hpa : W.heap.size ≤ w11.heap.size := by first | exact Nat.le_refl _ | (have := hG11.size; omega)
              clear q1 q2 hP14z3 hG14z3
              go_wp2
              go_meet
              case rel => exact ⟨_, rfl, HQ1.out, HQ2.out, hpa⟩
        · go_wp2
          refine ⟨⟨⟨_, hG7.alloc (.cells #[.int .u32 0, .int .i64 0, .int .i64 0, .int .u32 0, .int .i64 0] 80)⟩, rfl⟩, ?_⟩
          have hGz2 := hG7.alloc (.cells #[.int .u32 0, .int .i64 0, .int .i64 0, .int .u32 0, .int .i64 0] 80)
          have hPz2 := Blk.made w7 80 [.int .u32 0, .int .i64 0, .int .i64 0, .int .u32 0, .int .i64 0]
          have hSz2 := hG7.size
          generalize hXz2 : w7.alloc (.cells #[.int .u32 0, .int .i64 0, .int .i64 0, .int .u32 0, .int .i64 0] 80) = wz2 at *
          (refine tr_eff [11] _ rfl (by kernel_rfl) (by kernel_rfl) (List.forall_mem_cons.2 ⟨?_, fun _ h => nomatch h⟩)) <;> (unfold TrE; simp only [List.take_succ_cons, List.take_zero, List.drop_succ_cons, List.drop_zero])
          · go_wp2_with (fail)
            refine (M12.out _ (hF01.trans (hGz2))).mono ?_
            rintro e11z2 w11z2 ⟨rfl, hH11z2⟩
            have hG11z2 : Fr (fun _ => False) W w11z2 := (hGz2).trans hH11z2
            have hP11z2 := hPz2.fr hH11z2 (fun h => h)
            clear hH11z2
            go_wp2
            refine ⟨⟨⟨_, hG11z2⟩, rfl⟩, ?_⟩
            (refine tr_eff [14] _ rfl (by kernel_rfl) (by kernel_rfl) (List.forall_mem_cons.2 ⟨?_, fun _ h => nomatch h⟩)) <;> (unfold TrE; simp only [List.take_succ_cons, List.take_zero, List.drop_succ_cons, List.drop_zero])
            · go_wp2_with (fail)
              refine (M16.out _ (hF01.trans (hG11z2))).mono ?_
              rintro e14z2 w14z2 ⟨rfl, hH14z2⟩
              have hG14z2 : Fr (fun _ => False) W w14z2 := (hG11z2).trans hH14z2
              have hP14z2 := hP11z2.fr hH14z2 (fun h => h)
              clear hH14z2
              go_wp2
              refine ⟨⟨⟨_, hG14z2⟩, rfl⟩, ?_⟩
              (refine tr_late hTB (⟨⟨_, (Fr.refl _ _).drew⟩, rfl⟩) 15 2 _ rfl (by decide) (by kernel_rfl) ?_; simp only [List.take_succ_cons, List.take_zero, List.drop_succ_cons, List.drop_zero]; (repeat (go_big_quiet_step (fail))); refine wpQuiet_nil ?_)
              refine tr_end (by kernel_rfl) ?_
              obtain ⟨q1, q2⟩ := put5 hP14z2 (.int .u32 N4) (.int .i64 K) (.int .i64 N2) (.int .u32 N12) (.int .i64 N16)
              have f0 := hP14z2.frozen 0
              have f1 := hP14z2.frozen 1
              have f2 := hP14z2.frozen 2
              have f3 := hP14z2.frozen 3
              have f4 := hP14z2.frozen 4
              have g0 := hP14z2.cell 0
              have g1 := hP14z2.cell 1
              have g2 := hP14z2.cell 2
              have g3 := hP14z2.cell 3
              have g4 := hP14z2.cell 4
              have gl := hP14z2.lt
              simp only [List.getElem?_cons_succ, List.getElem?_cons_zero] at g0 g1 g2 g3 g4
              have HQ1 := Lib.hid q1
              have HQ2 := Lib.hid (hG14z2.trans' q2 (fun i hi e => by have h2 : i = w7.heap.size := e; omega))
              have hpa : W.heap.size ≤ w7.heap.size := by first | exact Nat.le_refl _ | (have := hG7.size; omega)
              clear q1 q2 hP14z2 hG14z2
              go_wp2
              go_meet
              case rel => exact ⟨_, rfl, HQ1.out, HQ2.out, hpa⟩
      · go_wp2
        refine ⟨⟨⟨_, hG2.alloc (.cells #[.int .u32 0, .int .i64 0, .int .i64 0, .int .u32 0, .int .i64 0] 80)⟩, rfl⟩, ?_⟩
        have hGz1 := hG2.alloc (.cells #[.int .u32 0, .int .i64 0, .int .i64 0, .int .u32 0, .int .i64 0] 80)
        have hPz1 := Blk.made w2 80 [.int .u32 0, .int .i64 0, .int .i64 0, .int .u32 0, .int .i64 0]
        have hSz1 := hG2.size
        generalize hXz1 : w2.alloc (.cells #[.int .u32 0, .int .i64 0, .int .i64 0, .int .u32 0, .int .i64 0] 80) = wz1 at *
        (refine tr_eff [7] _ rfl (by kernel_rfl) (by kernel_rfl) (List.forall_mem_cons.2 ⟨?_, fun _ h => nomatch h⟩)) <;> (unfold TrE; simp only [List.take_succ_cons, List.take_zero, List.drop_succ_cons, List.drop_zero])
        · go_wp2_with (fail)
          refine (M2.out _ (hF01.trans (hGz1))).mono ?_
          rintro e7z1 w7z1 ⟨rfl, hH7z1⟩
          have hG7z1 : Fr (fun _ => False) W w7z1 := (hGz1).trans hH7z1
          have hP7z1 := hPz1.fr hH7z1 (fun h => h)
          clear hH7z1
          go_wp2
          refine ⟨⟨⟨_, hG7z1⟩, rfl⟩, ?_⟩
          (refine tr_late hTB (⟨⟨_, (Fr.refl _ _).drew⟩, rfl⟩) 8 1 _ rfl (by decide) (by kernel_rfl) ?_; simp only [List.take_succ_cons, List.take_zero, List.drop_succ_cons, List.drop_zero]; (repeat (go_big_quiet_step (fail))); refine wpQuiet_nil ?_)
          (refine tr_eff [11] _ rfl (by kernel_rfl) (by kernel_rfl) (List.forall_mem_cons.2 ⟨?_, fun _ h => nomatch h⟩)) <;> (unfold TrE; simp only [List.take_succ_cons, List.take_zero, List.drop_succ_cons, List.drop_zero])
          · go_wp2_with (fail)
            refine (M12.out _ (hF01.trans (hG7z1))).mono ?_
            rintro e11z1 w11z1 ⟨rfl, hH11z1⟩
            have hG11z1 : Fr (fun _ => False) W w11z1 := (hG7z1).trans hH11z1
            have hP11z1 := hP7z1.fr hH11z1 (fun h => h)
            clear hH11z1
            go_wp2
            refine ⟨⟨⟨_, hG11z1⟩, rfl⟩, ?_⟩
            (refine tr_eff [14] _ rfl (by kernel_rfl) (by kernel_rfl) (List.forall_mem_cons.2 ⟨?_, fun _ h => nomatch h⟩)) <;> (unfold TrE; simp only [List.take_succ_cons, List.take_zero, List.drop_succ_cons, List.drop_zero])
            · go_wp2_with (fail)
              refine (M16.out _ (hF01.trans (hG11z1))).mono ?_
              rintro e14z1 w14z1 ⟨rfl, hH14z1⟩
              have hG14z1 : Fr (fun _ => False) W w14z1 := (hG11z1).trans hH14z1
              have hP14z1 := hP11z1.fr hH14z1 (fun h => h)
              clear hH14z1
              go_wp2
              refine ⟨⟨⟨_, hG14z1⟩, rfl⟩, ?_⟩
              (refine tr_late hTB (⟨⟨_, (Fr.refl _ _).drew⟩, rfl⟩) 15 2 _ rfl (by decide) (by kernel_rfl) ?_; simp only [List.take_succ_cons, List.take_zero, List.drop_succ_cons, List.drop_zero]; (repeat (go_big_quiet_step (fail))); refine wpQuiet_nil ?_)
              refine tr_end (by kernel_rfl) ?_
              obtain ⟨q1, q2⟩ := put5 hP14z1 (.int .u32 N4) (.int .i64 K) (.int .i64 N2) (.int .u32 N12) (.int .i64 N16)
              have f0 := hP14z1.frozen 0
              have f1 := hP14z1.frozen 1
              have f2 := hP14z1.frozen 2
              have f3 := hP14z1.frozen 3
              have f4 := hP14z1.frozen 4
              have g0 := hP14z1.cell 0
              have g1 := hP14z1.cell 1
              have g2 := hP14z1.cell 2
              have g3 := hP14z1.cell 3
              have g4 := hP14z1.cell 4
              have gl := hP14z1.lt
              simp only [List.getElem?_cons_succ, List.getElem?_cons_zero] at g0 g1 g2 g3 g4
              have HQ1 := Lib.hid q1
              have HQ2 := Lib.hid (hG14z1.trans' q2 (fun i hi e => by have h2 : i = w2.heap.size := e; omega))
              have hpa : W.heap.size ≤ w2.heap.size := by first | exact Nat.le_refl _ | (have := hG2.size; omega)
              clear q1 q2 hP14z1 hG14z1
              go_wp2
              go_meet
              case rel => exact ⟨_, rfl, HQ1.out, HQ2.out, hpa⟩
    · go_wp2
      refine ⟨⟨⟨_, ((Fr.refl _ W).alloc (.cells #[.int .u32 0, .int .i64 0, .int .i64 0, .int .u32 0, .int .i64 0] 80)).drew⟩, rfl⟩, ?_⟩
      have hGz0 : Fr (fun _ => False) W (W.alloc (.cells #[.int .u32 0, .int .i64 0, .int .i64 0, .int .u32 0, .int .i64 0] 80)).drew := ((Fr.refl _ W).alloc (.cells #[.int .u32 0, .int .i64 0, .int .i64 0, .int .u32 0, .int .i64 0] 80)).drew
      have hPz0 : Blk (W.alloc (.cells #[.int .u32 0, .int .i64 0, .int .i64 0, .int .u32 0, .int .i64 0] 80)).drew.heap W.heap.size 80 [.int .u32 0, .int .i64 0, .int .i64 0, .int .u32 0, .int .i64 0] := Blk.made W 80 [.int .u32 0, .int .i64 0, .int .i64 0, .int .u32 0, .int .i64 0]
      generalize hXz0 : (W.alloc (.cells #[.int .u32 0, .int .i64 0, .int .i64 0, .int .u32 0, .int .i64 0] 80)).drew = wz0 at *
      (refine tr_eff [2] _ rfl (by kernel_rfl) (by kernel_rfl) (List.forall_mem_cons.2 ⟨?_, fun _ h => nomatch h⟩)) <;> (unfold TrE; simp only [List.take_succ_cons, List.take_zero, List.drop_succ_cons, List.drop_zero])
      · go_wp2_with (fail)
        refine (M4.out _ (hF01.trans (hGz0))).mono ?_
        rintro e2z0 w2z0 ⟨rfl, hH2z0⟩
        have hG2z0 : Fr (fun _ => False) W w2z0 := (hGz0).trans hH2z0
        have hP2z0 := hPz0.fr hH2z0 (fun h => h)
        clear hH2z0
        go_wp2
        refine ⟨⟨⟨_, hG2z0⟩, rfl⟩, ?_⟩
        (refine tr_late hTB (⟨⟨_, (Fr.refl _ _).drew⟩, rfl⟩) 4 1 _ rfl (by decide) (by kernel_rfl) ?_; simp only [List.take_succ_cons, List.take_zero, List.drop_succ_cons, List.drop_zero]; (repeat (go_big_quiet_step (fail))); refine wpQuiet_nil ?_)
        (refine tr_eff [7] _ rfl (by kernel_rfl) (by kernel_rfl) (List.forall_mem_cons.2 ⟨?_, fun _ h => nomatch h⟩)) <;> (unfold TrE; simp only [List.take_succ_cons, List.take_zero, List.drop_succ_cons, List.drop_zero])
        · go_wp2_with (fail)
          refine (M2.out _ (hF01.trans (hG2z0))).mono ?_
          rintro e7z0 w7z0 ⟨rfl, hH7z0⟩
          have hG7z0 : Fr (fun _ => False) W w7z0 := (hG2z0).trans hH7z0
          have hP7z0 := hP2z0.fr hH7z0 (fun h => h)
          clear hH7z0
          go_wp2
          refine ⟨⟨⟨_, hG7z0⟩, rfl⟩, ?_⟩
          (refine tr_late hTB (⟨⟨_, (Fr.refl _ _).drew⟩, rfl⟩) 8 1 _ rfl (by decide) (by kernel_rfl) ?_; simp only [List.take_succ_cons, List.take_zero, List.drop_succ_cons, List.drop_zero]; (repeat (go_big_quiet_step (fail))); refine wpQuiet_nil ?_)
          (refine tr_eff [11] _ rfl (by kernel_rfl) (by kernel_rfl) (List.forall_mem_cons.2 ⟨?_, fun _ h => nomatch h⟩)) <;> (unfold TrE; simp only [List.take_succ_cons, List.take_zero, List.drop_succ_cons, List.drop_zero])
          · go_wp2_with (fail)
            refine (M12.out _ (hF01.trans (hG7z0))).mono ?_
            rintro e11z0 w11z0 ⟨rfl, hH11z0⟩
            have hG11z0 : Fr (fun _ => False) W w11z0 := (hG7z0).trans hH11z0
            have hP11z0 := hP7z0.fr hH11z0 (fun h => h)
            clear hH11z0
            go_wp2
            refine ⟨⟨⟨_, hG11z0⟩, rfl⟩, ?_⟩
            (refine tr_eff [14] _ rfl (by kernel_rfl) (by kernel_rfl) (List.forall_mem_cons.2 ⟨?_, fun _ h => nomatch h⟩)) <;> (unfold TrE; simp only [List.take_succ_cons, List.take_zero, List.drop_succ_cons, List.drop_zero])
            · go_wp2_with (fail)
              refine (M16.out _ (hF01.trans (hG11z0))).mono ?_
              rintro e14z0 w14z0 ⟨rfl, hH14z0⟩
              have hG14z0 : Fr (fun _ => False) W w14z0 := (hG11z0).trans hH14z0
              have hP14z0 := hP11z0.fr hH14z0 (fun h => h)
              clear hH14z0
              go_wp2
              refine ⟨⟨⟨_, hG14z0⟩, rfl⟩, ?_⟩
              (refine tr_late hTB (⟨⟨_, (Fr.refl _ _).drew⟩, rfl⟩) 15 2 _ rfl (by decide) (by kernel_rfl) ?_; simp only [List.take_succ_cons, List.take_zero, List.drop_succ_cons, List.drop_zero]; (repeat (go_big_quiet_step (fail))); refine wpQuiet_nil ?_)
              refine tr_end (by kernel_rfl) ?_
              obtain ⟨q1, q2⟩ := put5 hP14z0 (.int .u32 N4) (.int .i64 K) (.int .i64 N2) (.int .u32 N12) (.int .i64 N16)
              have f0 := hP14z0.frozen 0
              have f1 := hP14z0.frozen 1
              have f2 := hP14z0.frozen 2
              have f3 := hP14z0.frozen 3
              have f4 := hP14z0.frozen 4
              have g0 := hP14z0.cell 0
              have g1 := hP14z0.cell 1
              have g2 := hP14z0.cell 2
              have g3 := hP14z0.cell 3
              have g4 := hP14z0.cell 4
              have gl := hP14z0.lt
              simp only [List.getElem?_cons_succ, List.getElem?_cons_zero] at g0 g1 g2 g3 g4
              have HQ1 := Lib.hid q1
              have HQ2 := Lib.hid (hG14z0.trans' q2 (fun i hi e => by have h2 : i = W.heap.size := e; omega))
              have hpa : W.heap.size ≤ W.heap.size := by first | exact Nat.le_refl _ | (have := hG14z0.size; omega)
              clear q1 q2 hP14z0 hG14z0
              go_wp2
              go_meet
              case rel => exact ⟨_, rfl, HQ1.out, HQ2.out, hpa⟩
  case rest =>
  obtain ⟨p, rfl, hBp, hFp, hpw⟩ := hcut
  have hBr1 := hB1.fr hFp (fun h => h)
  have hW1 := hB1.lt
  have e0 := hBp.cell 0
  have e1 := hBp.cell 1
  have e2 := hBp.cell 2
  have e3 := hBp.cell 3
  have e4 := hBp.cell 4
  have el := hBp.lt
  simp only [List.getElem?_cons_succ, List.getElem?_cons_zero] at e0 e1 e2 e3 e4
  go_upto_region 4 with (fail)
  obtain ⟨wd, hwd⟩ : ∃ wd, wd = (wc.alloc (.cells #[.int .u32 N4, .int .i64 K, .int .i64 N2, .int .u32 N12, .int .i64 N16] 80)).alloc (.cells #[.bool false, .slice (some ⟨wc.heap.size, 0, none⟩) 1 1] 75) := ⟨_, rfl⟩
  have hFd : Fr (fun _ => False) wc wd := by rw [hwd]; exact ((Fr.refl _ wc).alloc (.cells #[.int .u32 N4, .int .i64 K, .int .i64 N2, .int .u32 N12, .int .i64 N16] 80)).alloc (.cells #[.bool false, .slice (some ⟨wc.heap.size, 0, none⟩) 1 1] 75)
  have hBm : Blk wd.heap (wc.heap.size + 1) 75 [.bool false, .slice (some ⟨wc.heap.size, 0, none⟩) 1 1] := by
    rw [hwd]
    have := Blk.made (wc.alloc (.cells #[.int .u32 N4, .int .i64 K, .int .i64 N2, .int .u32 N12, .int .i64 N16] 80)) 75 [.bool false, .slice (some ⟨wc.heap.size, 0, none⟩) 1 1]
    rwa [show (wc.alloc (.cells #[.int .u32 N4, .int .i64 K, .int .i64 N2, .int .u32 N12, .int .i64 N16] 80)).heap.size = wc.heap.size + 1 by simp] at this
  have hRe : Rd wd.heap (some ⟨wc.heap.size, 0, none⟩) 1 5 [.int .u32 N4, .int .i64 K, .int .i64 N2, .int .u32 N12, .int .i64 N16] := by
    rw [hwd]
    exact (rd_lit wc 80 [.int .u32 N4, .int .i64 K, .int .i64 N2, .int .u32 N12, .int .i64 N16]).fr ((Fr.refl (fun _ => False) _).alloc (.cells #[.bool false, .slice (some ⟨wc.heap.size, 0, none⟩) 1 1] 75)) (fun _ _ _ h => h)
  rw [← hwd]
  have hBr0 := hBr1.fr hFd (fun h => h)
  have hBpd := hBp.fr hFd (fun h => h)
  have hWd := (hF01.trans hFp).trans hFd
  clear hwd e0 e1 e2 e3 e4 el hBr1 hB1
  have qe : ∀ (c : Cls (fun k => k = w.heap.size) wd) (i : Nat), c.wo.cell? ⟨p, i, none⟩ = [Value.int .u32 N4, .int .i64 K, .int .i64 N2, .int .u32 N12, .int .i64 N16][i]? := fun c i => (c.fr.cell (p := ⟨p, i, none⟩) hBpd.lt (fun h => by have h2 : p = w.heap.size := h; omega)).trans (hBpd.cell i)
  have ql : ∀ c : Cls (fun k => k = w.heap.size) wd, p < c.wo.heap.size := fun c => Nat.lt_of_lt_of_le hBpd.lt c.fr.size
  have qm : ∀ (c : Cls (fun k => k = w.heap.size) wd) (i : Nat), c.wo.cell? ⟨wc.heap.size + 1, i, none⟩ = [Value.bool false, .slice (some ⟨wc.heap.size, 0, none⟩) 1 1][i]? := fun c i => (c.fr.cell (p := ⟨wc.heap.size + 1, i, none⟩) hBm.lt (fun h => by have h2 : wc.heap.size + 1 = w.heap.size := h; have := hFp.size; omega)).trans (hBm.cell i)
  have qml : ∀ c : Cls (fun k => k = w.heap.size) wd, wc.heap.size + 1 < c.wo.heap.size := fun c => Nat.lt_of_lt_of_le hBm.lt c.fr.size
  have q0 := fun c => qe c 0
  have q1 := fun c => qe c 1
  have q2 := fun c => qe c 2
  have q3 := fun c => qe c 3
  have q4 := fun c => qe c 4
  have r0 := fun c => qm c 0
  have r1 := fun c => qm c 1
  simp only [List.getElem?_cons_succ, List.getElem?_cons_zero] at q0 q1 q2 q3 q4 r0 r1
  clear qe qm hBpd hBm hBp
  rcases HKD.out with ⟨rfl, hm⟩ | ⟨rfl, hm⟩
  · have HX := Lib.hid (show R = none by rw [HD.out, hm])
    clear hm
    (refine wp_region_mix (fun w' => ∃ c : Cls (fun k => k = w.heap.size) wd, w' = c.wo) 15 (by kernel_rfl) (by kernel_rfl) (⟨⟨_, (Fr.refl _ _).drew⟩, rfl⟩) ?_; simp only [List.take_succ_cons, List.take_zero, List.drop_succ_cons, List.drop_zero])
    (refine wpMix_lateN 1 (⟨⟨_, (Fr.refl _ _).drew⟩, rfl⟩) (by kernel_rfl) ?_; simp only [List.take_succ_cons, List.take_zero, List.drop_succ_cons, List.drop_zero]; (repeat (go_big_quiet_step (fail))); refine wpQuiet_nil ?_)
    (refine wpMix_earlyN 5 (by kernel_rfl) (by kernel_rfl) ?_; simp only [List.take_succ_cons, List.take_zero, List.drop_succ_cons, List.drop_zero]; (repeat (go_big_quiet_step (fail))); refine wpQuiet_nil ?_)
    refine wpMix_eff (by kernel_rfl) ?_
    go_wp2
    refine ⟨⟨⟨_, (Fr.refl _ _).drew⟩, rfl⟩, ?_⟩
    (refine wpMix_lateN 4 (⟨⟨_, (Fr.refl _ _).drew⟩, rfl⟩) (by kernel_rfl) ?_; simp only [List.take_succ_cons, List.take_zero, List.drop_succ_cons, List.drop_zero]; (repeat (go_big_quiet_step (fail))); refine wpQuiet_nil ?_)
    refine wpMix_eff (by kernel_rfl) ?_
    go_wp2
    refine ⟨⟨⟨_, (Fr.refl _ _).drew⟩, rfl⟩, ?_⟩
    (refine wpMix_lateN 2 (⟨⟨_, (Fr.refl _ _).drew⟩, rfl⟩) (by kernel_rfl) ?_; simp only [List.take_succ_cons, List.take_zero, List.drop_succ_cons, List.drop_zero]; (repeat (go_big_quiet_step (fail))); refine wpQuiet_nil ?_)
    refine wpMix_eff (by kernel_rfl) ?_
    have hFe0 : Fr (fun _ => False) wd wd := Fr.refl _ wd
    clear q0 q1 q2 q3 q4 r0 r1 ql qml
    have hBr := hBr0.fr hFe0 (fun h => h)
    obtain ⟨q1, q2⟩ := put5 hBr (.int .u32 N4) (.int .i64 K) (.int .i64 N2) (.int .u32 N12) (.int .i64 N16)
    have f0 := hBr.frozen 0
    have f1 := hBr.frozen 1
    have f2 := hBr.frozen 2
    have f3 := hBr.frozen 3
    have f4 := hBr.frozen 4
    have g0 := hBr.cell 0
    have g1 := hBr.cell 1
    have g2 := hBr.cell 2
    have g3 := hBr.cell 3
    have g4 := hBr.cell 4
    have gl := hBr.lt
    have y0 := q1.cell 0
    have y1 := q1.cell 1
    have y2 := q1.cell 2
    have y3 := q1.cell 3
    have y4 := q1.cell 4
    simp only [List.getElem?_cons_succ, List.getElem?_cons_zero] at g0 g1 g2 g3 g4 y0 y1 y2 y3 y4
    have HQ2 := Lib.hid q2
    have HFF := Lib.hid (((hWd.trans hFe0).trans' q2 (fun i hi e => by have h2 : i = w.heap.size := e; omega)).drew)
    clear q1 q2 hBr
    go_wp2
    refine ⟨⟨⟨_, (HQ2.out).drew⟩, rfl⟩, ?_⟩
    refine wpMix_nil ?_
    go_wp2
    refine bodyPost_ret (v := .tuple #[.agg #[.int .u32 N4, .int .i64 K, .int .i64 N2, .int .u32 N12, .int .i64 N16], .bool false]) (by simp [results, Try.results47, go_sem, y0, y1, y2, y3, y4]) rfl ?_
    exact ⟨⟨N4, K, N2, N12, N16⟩, by rw [HX.out]; rfl, HFF.out, (by rw [HX.out]; exact fun y hy => by cases hy; try rfl), ⟨b4, b12⟩⟩
  · by_cases hn0 : N0 = 2
    · have en0 : (N0 == 2) = true := by simp [hn0]
      have HX2 := Lib.hid (show R = if entErr ⟨N4, K, N2, N12, N16⟩ = none then some ⟨N4, K, N2, N12, N16⟩ else none by
        rw [HD.out, hm]
        simp only [hn0, true_and])
      clear hm hn0
      (refine wp_region_mix (fun w' => ∃ c : Cls (fun k => k = w.heap.size) wd, w' = c.wo) 15 (by kernel_rfl) (by kernel_rfl) (⟨⟨_, (Fr.refl _ _).drew⟩, rfl⟩) ?_; simp only [List.take_succ_cons, List.take_zero, List.drop_succ_cons, List.drop_zero])
      (refine wpMix_lateN 1 (⟨⟨_, (Fr.refl _ _).drew⟩, rfl⟩) (by kernel_rfl) ?_; simp only [List.take_succ_cons, List.take_zero, List.drop_succ_cons, List.drop_zero]; (repeat (go_big_quiet_step (fail))); refine wpQuiet_nil ?_)
      (refine wpMix_earlyN 5 (by kernel_rfl) (by kernel_rfl) ?_; simp only [List.take_succ_cons, List.take_zero, List.drop_succ_cons, List.drop_zero]; (repeat (go_big_quiet_step (fail))); refine wpQuiet_nil ?_)
      refine wpMix_eff (by kernel_rfl) ?_
      go_wp2_with (fail)
      refine (M0.out _ hWd.drew).mono ?_
      rintro e5 w5 ⟨rfl, hF5⟩
      have hFe0 : Fr (fun _ => False) wd w5 := (Fr.refl _ wd).drew.trans hF5
      have hFe : Fr (fun k => k = w.heap.size) wd w5 := hFe0.none _
      clear hF5
      go_wp2
      refine ⟨⟨⟨_, hFe⟩, rfl⟩, ?_⟩
      (refine wpMix_lateN 4 (⟨⟨_, (Fr.refl _ _).drew⟩, rfl⟩) (by kernel_rfl) ?_; simp only [List.take_succ_cons, List.take_zero, List.drop_succ_cons, List.drop_zero]; (repeat (go_big_quiet_step (fail))); refine wpQuiet_nil ?_)
      refine wpMix_eff (by kernel_rfl) ?_
      go_wp2_with (fail)
      refine (wcheck_any (M := 1) false [⟨N4, K, N2, N12, N16⟩] (some ⟨wc.heap.size, 0, none⟩) 1 w5 (hRe.fr hFe0 (fun _ _ _ h => h)) (fun x hx => by rw [List.mem_singleton.1 hx]; exact ⟨b4, b12⟩) (by simp) rfl).mono ?_
      rintro e6 w6 ⟨rfl, hF6⟩
      have hFg0 : Fr (fun _ => False) wd w6 := hFe0.trans hF6
      have hFg : Fr (fun k => k = w.heap.size) wd w6 := hFg0.none _
      have hme : msgErr [(⟨N4, K, N2, N12, N16⟩ : En)] = entErr ⟨N4, K, N2, N12, N16⟩ := by
        unfold msgErr
        rw [if_neg (by simp)]
        unfold entsErr entsErr
        cases entErr (⟨N4, K, N2, N12, N16⟩ : En) <;> rfl
      rw [hme]
      clear hme hF6
      cases hee : entErr (⟨N4, K, N2, N12, N16⟩ : En) with
      | some q =>
        have HX := Lib.hid (show R = none by rw [HX2.out, hee]; rfl)
        rw [show errO (some q) = errv q from rfl]
        clear hee
        go_wp2
        refine ⟨⟨⟨_, hFg⟩, rfl⟩, ?_⟩
        (refine wpMix_lateN 2 (⟨⟨_, (Fr.refl _ _).drew⟩, rfl⟩) (by kernel_rfl) ?_; simp only [List.take_succ_cons, List.take_zero, List.drop_succ_cons, List.drop_zero]; (repeat (go_big_quiet_step (fail))); refine wpQuiet_nil ?_)
        refine wpMix_eff (by kernel_rfl) ?_
        clear q0 q1 q2 q3 q4 r0 r1 ql qml
        have hBr := hBr0.fr hFg0 (fun h => h)
        obtain ⟨q1, q2⟩ := put5 hBr (.int .u32 N4) (.int .i64 K) (.int .i64 N2) (.int .u32 N12) (.int .i64 N16)
        have f0 := hBr.frozen 0
        have f1 := hBr.frozen 1
        have f2 := hBr.frozen 2
        have f3 := hBr.frozen 3
        have f4 := hBr.frozen 4
        have g0 := hBr.cell 0
        have g1 := hBr.cell 1
        have g2 := hBr.cell 2
        have g3 := hBr.cell 3
        have g4 := hBr.cell 4
        have gl := hBr.lt
        have y0 := q1.cell 0
        have y1 := q1.cell 1
        have y2 := q1.cell 2
        have y3 := q1.cell 3
        have y4 := q1.cell 4
        simp only [List.getElem?_cons_succ, List.getElem?_cons_zero] at g0 g1 g2 g3 g4 y0 y1 y2 y3 y4
        have HQ2 := Lib.hid q2
        have HFF := Lib.hid (((hWd.trans hFg0).trans' q2 (fun i hi e => by have h2 : i = w.heap.size := e; omega)))
        clear q1 q2 hBr
        go_wp2
        refine ⟨⟨⟨_, (hFg).trans HQ2.out⟩, rfl⟩, ?_⟩
        refine wpMix_nil ?_
        go_wp2
        refine bodyPost_ret (v := .tuple #[.agg #[.int .u32 N4, .int .i64 K, .int .i64 N2, .int .u32 N12, .int .i64 N16], .bool false]) (by simp [results, Try.results47, go_sem, y0, y1, y2, y3, y4]) rfl ?_
        exact ⟨⟨N4, K, N2, N12, N16⟩, by rw [HX.out]; rfl, HFF.out, (by rw [HX.out]; exact fun y hy => by cases hy; try rfl), ⟨b4, b12⟩⟩
      | none =>
        have HX := Lib.hid (show R = some ⟨N4, K, N2, N12, N16⟩ by rw [HX2.out, if_pos hee])
        rw [show errO none = .nilIface from rfl]
        clear hee
        go_wp2
        refine ⟨⟨⟨_, hFg⟩, rfl⟩, ?_⟩
        (refine wpMix_lateN 2 (⟨⟨_, (Fr.refl _ _).drew⟩, rfl⟩) (by kernel_rfl) ?_; simp only [List.take_succ_cons, List.take_zero, List.drop_succ_cons, List.drop_zero]; (repeat (go_big_quiet_step (fail))); refine wpQuiet_nil ?_)
        refine wpMix_eff (by kernel_rfl) ?_
        clear q0 q1 q2 q3 q4 r0 r1 ql qml
        have hBr := hBr0.fr hFg0 (fun h => h)
        obtain ⟨q1, q2⟩ := put5 hBr (.int .u32 N4) (.int .i64 K) (.int .i64 N2) (.int .u32 N12) (.int .i64 N16)
        have f0 := hBr.frozen 0
        have f1 := hBr.frozen 1
        have f2 := hBr.frozen 2
        have f3 := hBr.frozen 3
        have f4 := hBr.frozen 4
        have g0 := hBr.cell 0
        have g1 := hBr.cell 1
        have g2 := hBr.cell 2
        have g3 := hBr.cell 3
        have g4 := hBr.cell 4
        have gl := hBr.lt
        have y0 := q1.cell 0
        have y1 := q1.cell 1
        have y2 := q1.cell 2
        have y3 := q1.cell 3
        have y4 := q1.cell 4
        simp only [List.getElem?_cons_succ, List.getElem?_cons_zero] at g0 g1 g2 g3 g4 y0 y1 y2 y3 y4
        have HQ2 := Lib.hid q2
        have HFF := Lib.hid (((hWd.trans hFg0).trans' q2 (fun i hi e => by have h2 : i = w.heap.size := e; omega)))
        clear q1 q2 hBr
        go_wp2
        refine ⟨⟨⟨_, (hFg).trans HQ2.out⟩, rfl⟩, ?_⟩
        refine wpMix_nil ?_
        go_wp2
        refine bodyPost_ret (v := .tuple #[.agg #[.int .u32 N4, .int .i64 K, .int .i64 N2, .int .u32 N12, .int .i64 N16], .bool true]) (by simp [results, Try.results47, go_sem, y0, y1, y2, y3, y4]) rfl ?_
        exact ⟨⟨N4, K, N2, N12, N16⟩, by rw [HX.out]; rfl, HFF.out, (by rw [HX.out]; exact fun y hy => by cases hy; try rfl), ⟨b4, b12⟩⟩
    · have en0 : (N0 == 2) = false := by simp [hn0]
      have HX := Lib.hid (show R = none by
        rw [HD.out, hm]
        simp only [hn0, false_and, if_false])
      clear hm hn0
      (refine wp_region_mix (fun w' => ∃ c : Cls (fun k => k = w.heap.size) wd, w' = c.wo) 15 (by kernel_rfl) (by kernel_rfl) (⟨⟨_, (Fr.refl _ _).drew⟩, rfl⟩) ?_; simp only [List.take_succ_cons, List.take_zero, List.drop_succ_cons, List.drop_zero])
      (refine wpMix_lateN 1 (⟨⟨_, (Fr.refl _ _).drew⟩, rfl⟩) (by kernel_rfl) ?_; simp only [List.take_succ_cons, List.take_zero, List.drop_succ_cons, List.drop_zero]; (repeat (go_big_quiet_step (fail))); refine wpQuiet_nil ?_)
      (refine wpMix_earlyN 5 (by kernel_rfl) (by kernel_rfl) ?_; simp only [List.take_succ_cons, List.take_zero, List.drop_succ_cons, List.drop_zero]; (repeat (go_big_quiet_step (fail))); refine wpQuiet_nil ?_)
      refine wpMix_eff (by kernel_rfl) ?_
      go_wp2_with (fail)
      refine (M0.out _ hWd.drew).mono ?_
      rintro e5 w5 ⟨rfl, hF5⟩
      have hFe0 : Fr (fun _ => False) wd w5 := (Fr.refl _ wd).drew.trans hF5
      have hFe : Fr (fun k => k = w.heap.size) wd w5 := hFe0.none _
      clear hF5
      go_wp2
      refine ⟨⟨⟨_, hFe⟩, rfl⟩, ?_⟩
      (refine wpMix_lateN 4 (⟨⟨_, (Fr.refl _ _).drew⟩, rfl⟩) (by kernel_rfl) ?_; simp only [List.take_succ_cons, List.take_zero, List.drop_succ_cons, List.drop_zero]; (repeat (go_big_quiet_step (fail))); refine wpQuiet_nil ?_)
      refine wpMix_eff (by kernel_rfl) ?_
      go_wp2
      refine ⟨⟨⟨_, hFe⟩, rfl⟩, ?_⟩
      (refine wpMix_lateN 2 (⟨⟨_, (Fr.refl _ _).drew⟩, rfl⟩) (by kernel_rfl) ?_; simp only [List.take_succ_cons, List.take_zero, List.drop_succ_cons, List.drop_zero]; (repeat (go_big_quiet_step (fail))); refine wpQuiet_nil ?_)
      refine wpMix_eff (by kernel_rfl) ?_
      clear q0 q1 q2 q3 q4 r0 r1 ql qml
      have hBr := hBr0.fr hFe0 (fun h => h)
      obtain ⟨q1, q2⟩ := put5 hBr (.int .u32 N4) (.int .i64 K) (.int .i64 N2) (.int .u32 N12) (.int .i64 N16)
      have f0 := hBr.frozen 0
      have f1 := hBr.frozen 1
      have f2 := hBr.frozen 2
      have f3 := hBr.frozen 3
      have f4 := hBr.frozen 4
      have g0 := hBr.cell 0
      have g1 := hBr.cell 1
      have g2 := hBr.cell 2
      have g3 := hBr.cell 3
      have g4 := hBr.cell 4
      have gl := hBr.lt
      have y0 := q1.cell 0
      have y1 := q1.cell 1
      have y2 := q1.cell 2
      have y3 := q1.cell 3
      have y4 := q1.cell 4
      simp only [List.getElem?_cons_succ, List.getElem?_cons_zero] at g0 g1 g2 g3 g4 y0 y1 y2 y3 y4
      have HQ2 := Lib.hid q2
      have HFF := Lib.hid (((hWd.trans hFe0).trans' q2 (fun i hi e => by have h2 : i = w.heap.size := e; omega)))
      clear q1 q2 hBr
      go_wp2
      refine ⟨⟨⟨_, (hFe).trans HQ2.out⟩, rfl⟩, ?_⟩
      refine wpMix_nil ?_
      go_wp2
      refine bodyPost_ret (v := .tuple #[.agg #[.int .u32 N4, .int .i64 K, .int .i64 N2, .int .u32 N12, .int .i64 N16], .bool false]) (by simp [results, Try.results47, go_sem, y0, y1, y2, y3, y4]) rfl ?_
      exact ⟨⟨N4, K, N2, N12, N16⟩, by rw [HX.out]; rfl, HFF.out, (by rw [HX.out]; exact fun y hy => by cases hy; try rfl), ⟨b4, b12⟩⟩
end Go.Proofs.Ytgfbkebbnfcgkaa
end

section
namespace Go.Proofs.Ytgfbkebbnfcgkaa
open Go.RowKit
theorem filledD_bd {p : List Int} (h : ∀ x ∈ p, 0 ≤ x ∧ x < 256) : ∀ x ∈ filledD p, 0 ≤ x ∧ x < 256 := by
  intro x hx
  unfold filledD at hx
  rcases List.mem_append.1 hx with hx | hx
  · exact h x hx
  · have hx := List.mem_of_mem_drop hx
    have hd : ∀ y ∈ baseF p, 0 ≤ y ∧ y < 256 := by
      unfold baseF
      split <;> decide
    exact hd x hx
/-- The message of bytes, or what is wrong. -/
def RetDec (w : World) (r : Except Int (Bool × List En)) (e : Ending) (w' : World) : Prop := match r with
  | .error k => RetV w (.tuple #[.agg #[.bool false, .slice none 0 0], errv k]) e w'
  | .ok (ask, l) => ∃ a c ob, e = .returned (.tuple #[.agg #[.bool ask, .slice a l.length c], .nilIface]) ∧ Ownd w'.heap 80 5 a l.length c (l.flatMap En.cells) ob ∧ Fr (fun _ => False) w w' ∧ (∀ g, ob = some g → w.heap.size ≤ g) ∧ (∀ x ∈ l, En.wf x) ∧ l.length ≤ 25
theorem RetDec.err {w w' : World} {r : Except Int (Bool × List En)} {e : Ending} {k : Int} (hr : r = .error k) (he : e = .returned (.tuple #[.agg #[.bool false, .slice none 0 0], errv k])) (hF : Fr (fun _ => False) w w') : RetDec w r e w' := by subst hr; exact ⟨he, hF⟩
theorem RetDec.ok {w w' : World} {r : Except Int (Bool × List En)} {e : Ending} {ask : Bool} {l : List En} {a : Option Addr} {c : Nat} {ob : Option Nat} (hr : r = .ok (ask, l)) (he : e = .returned (.tuple #[.agg #[.bool ask, .slice a l.length c], .nilIface])) (hO : Ownd w'.heap 80 5 a l.length c (l.flatMap En.cells) ob) (hF : Fr (fun _ => False) w w') (hN : ∀ g, ob = some g → w.heap.size ≤ g) (hw : ∀ x ∈ l, En.wf x) (hl : l.length ≤ 25) : RetDec w r e w' := by
  subst hr; exact ⟨a, c, ob, he, hO, hF, hN, hw, hl⟩
theorem headD_len (b : List Int) : 4 ≤ (headD b).length ∧ (b.length < 4 → (headD b).length = 4) ∧ (4 ≤ b.length → headD b = b) := by
  unfold headD
  by_cases h : b.length < 4
  · rw [if_pos h]
    have : (b ++ [2, 2, 0, 0].drop b.length : List Int).length = 4 := by simp; omega
    exact ⟨by omega, fun _ => this, fun h2 => by omega⟩
  · rw [if_neg h]; exact ⟨by omega, fun h2 => absurd h2 h, fun _ => rfl⟩
theorem headD_bd {b : List Int} (h : ∀ x ∈ b, 0 ≤ x ∧ x < 256) : ∀ x ∈ headD b, 0 ≤ x ∧ x < 256 := by
  unfold headD
  split
  · intro x hx
    rcases List.mem_append.1 hx with hx | hx
    · exact h x hx
    · have hd : ∀ y ∈ ([2, 2, 0, 0] : List Int), 0 ≤ y ∧ y < 256 := by decide
      exact hd x (List.mem_of_mem_drop hx)
  · exact h
/-- What comes of the entries. -/
def outD (b : List Int) (ask : Bool) (P0 : Option (List En)) : Except Int (Bool × List En) := match P0 with
  | none => .error 3
  | some l => if shortD b then .error 6 else .ok (ask, l)
def sliceLen : Value → Nat
  | .slice _ n _ => n
  | _ => 0
/-- What a message's bytes hold still. -/
structure Rest (b rs : List Int) (sh : Bool) (acc : List En) (P0 : Option (List En)) : Prop where
  parts : ∃ k, rs.length ≤ k ∧ P0 = partsD k rs acc
  some' : rs ≠ [] → (b.length - 4) % 20 = rs.length % 20 ∧ 4 ≤ b.length
  none' : rs = [] → (sh = true ↔ shortD b)
  bd : ∀ x ∈ rs, 0 ≤ x ∧ x < 256
theorem Rest.done {b : List Int} {sh : Bool} {acc : List En} {P0 : Option (List En)} (h : Rest b [] sh acc P0) : P0 = some acc ∧ (sh = true ↔ shortD b) := by
  obtain ⟨k, -, hp⟩ := h.parts
  refine ⟨?_, h.none' rfl⟩
  rw [hp]
  cases k with
  | zero => rfl
  | succ k => unfold partsD; rw [if_pos rfl]
theorem Rest.unfold {b rs : List Int} {sh : Bool} {acc : List En} {P0 : Option (List En)} (h : Rest b rs sh acc P0) (hne : rs ≠ []) : ∃ k, (rs.drop 20).length ≤ k ∧ P0 = match entD (filledD (rs.take 20)) with
    | none => none
    | some e => if acc.length = 25 then none else partsD k (rs.drop 20) (acc ++ [e]) := by
  obtain ⟨k, hk, hp⟩ := h.parts
  have hl : 0 < rs.length := List.length_pos_iff.2 hne
  obtain ⟨j, rfl⟩ : ∃ j, k = j + 1 := ⟨k - 1, by omega⟩
  refine ⟨j, by simp; omega, ?_⟩
  rw [hp]
  conv => lhs; unfold partsD
  rw [if_neg hne]
  cases entD (filledD (rs.take 20)) <;> rfl
theorem Rest.next {b rs : List Int} {sh : Bool} {acc : List En} {P0 : Option (List En)} (h : Rest b rs sh acc P0) (hne : rs ≠ []) {x : En} (hx : entD (filledD (rs.take 20)) = some x) (ha : acc.length ≠ 25) : Rest b (rs.drop 20) (decide ((rs.take 20).length < 20)) (acc ++ [x]) P0 := by
  obtain ⟨k, hk, hp⟩ := h.unfold hne
  obtain ⟨h1, h2⟩ := h.some' hne
  have hl : 0 < rs.length := List.length_pos_iff.2 hne
  refine ⟨⟨k, hk, by rw [hp, hx]; simp only; rw [if_neg ha]⟩, fun hd => ?_, fun hd => ?_, fun y hy => h.bd y (List.mem_of_mem_drop hy)⟩
  · have : 0 < (rs.drop 20).length := List.length_pos_iff.2 hd
    rw [List.length_drop] at this ⊢
    exact ⟨by omega, h2⟩
  · have h3 := congrArg List.length hd
    rw [List.length_drop] at h3
    simp only [List.length_nil] at h3
    rw [decide_eq_true_eq, List.length_take]
    unfold shortD
    omega
end Go.Proofs.Ytgfbkebbnfcgkaa
end

section
namespace Go.Proofs.Ytgfbkebbnfcgkaa
open Go.RowKit
set_option maxRecDepth 100000 in
set_option maxHeartbeats 4000000 in
theorem decode_any {N : Nat} (b : List Int) (a : Option Addr) (c : Nat) (w : World) (hL : Rd w.heap a N 1 (ivals .u8 b)) (hb : ∀ x ∈ b, 0 ≤ x ∧ x < 256) (hc : b.length ≤ c) (hll : b.length ≤ 9223372036854775000) (hN : N = b.length) :
    Calls Try.prog 27 #[.slice a N c] w (RetDec w (decD b)) := by
  subst hN
  obtain ⟨R, hR⟩ : ∃ R, R = decD b := ⟨_, rfl⟩
  rw [← hR]
  have HR := Lib.hid hR
  have HL := Lib.hid hL
  have HB := Lib.hid hb
  have hF0 := (Fr.refl (fun _ => False) w).alloc (.cells #[.bool false, .slice none 0 0] 75)
  have hB0 := Blk.made w 75 [.bool false, .slice none 0 0]
  have hF1 := hF0.alloc (.cells #[.int .u8 2, .int .u8 2, .int .u8 0, .int .u8 0] 5)
  have hB1 := hB0.alloc (.cells #[.int .u8 2, .int .u8 2, .int .u8 0, .int .u8 0] 5)
  have hW1 : Blk ((w.alloc (.cells #[.bool false, .slice none 0 0] 75)).alloc (.cells #[.int .u8 2, .int .u8 2, .int .u8 0, .int .u8 0] 5)).heap (w.heap.size + 1) 5 (ivals .u8 [2, 2, 0, 0]) := by
    have := Blk.made (w.alloc (.cells #[.bool false, .slice none 0 0] 75)) 5 (ivals .u8 [2, 2, 0, 0])
    rwa [show (w.alloc (.cells #[.bool false, .slice none 0 0] 75)).heap.size = w.heap.size + 1 by simp] at this
  have hcs : (b.take 4).length = min b.length 4 := by rw [List.length_take, Nat.min_comm]
  have hrd := hL.fr hF1 (fun _ _ _ h => h)
  have hside : CpySide ((w.alloc (.cells #[.bool false, .slice none 0 0] 75)).alloc (.cells #[.int .u8 2, .int .u8 2, .int .u8 0, .int .u8 0] 5)) (some ⟨w.heap.size + 1, 0, none⟩) a b.length 4 1 (w.heap.size + 1) 0 (ivals .u8 [2, 2, 0, 0]) (ivals .u8 (b.take 4)) := by
    refine ⟨by simp [ivals]; omega, fun hp => ?_, by simp [ivals]; omega, ivals_one .u8 _⟩
    obtain ⟨g, off, rfl, hgl, hcc⟩ := hrd.pos (by simp [ivals] at hp; omega)
    refine ⟨rfl, ⟨g, off, none⟩, rfl, fun j v hj => ?_⟩
    have hjl : j < (b.take 4).length := by have := (List.getElem?_eq_some_iff.1 hj).1; simpa [ivals] using this
    rw [List.length_take] at hjl
    rw [Addr.add_lit, hcc _ rfl j (by omega)]
    rw [← hj]
    simp only [ivals, List.getElem?_map]
    rw [List.getElem?_take, if_pos (by omega)]
  have HSD := Lib.hid hside
  have hspl : splice (ivals .u8 [2, 2, 0, 0]) 0 (ivals .u8 (b.take 4)) = ivals .u8 (b.take 4 ++ ([2, 2, 0, 0] : List Int).drop (b.take 4).length) := by rw [splice_head]; simp [ivals]
  have HSP := Lib.hid hspl
  have HF1 := Lib.hid hF1
  have HB1 := Lib.hid hB1
  clear hL hb hR hF0 hB0 hrd hside hspl hcs hF1 hB1
  go_enter Try.func27, Try.ntmps27
  go_wp2_with (with_reducible refine wpList_cpy rfl (.tmp 15) (.tmp 16) 44 44 rfl Try.underlying44 infoU8 rfl rfl (g := w.heap.size + 1) (off := 0) hW1 (cs := ivals .u8 (b.take 4)) ?b1 ?b2)
  case b1 => exact HSD.out
  case b2 =>
  intro w2 hW2 hF2 hs2
  have hW2 : Blk w2.heap (w.heap.size + 1) 5 (ivals .u8 (b.take 4 ++ ([2, 2, 0, 0] : List Int).drop (b.take 4).length)) := hW2.eq ((congrArg (splice (ivals .u8 [2, 2, 0, 0]) 0) (show List.take 4 (List.map (Value.int .u8) b) = ivals .u8 (b.take 4) by simp [ivals])).trans HSP.out)
  have hB2 := HB1.out.fr hF2 (fun e => by have h2 : w.heap.size = w.heap.size + 1 := e; omega)
  have hF02 : Fr (fun _ => False) w w2 := HF1.out.trans' hF2 (fun i hi e => by have h2 : i = w.heap.size + 1 := e; omega)
  clear hF2 hs2 hW1
  go_upto_if 18 with (fail)
  go_cut [0] (fun s0 wx => ∃ (g1 o1 c1 : Nat), s0 = .slice (some ⟨g1, o1, none⟩) (headD b).length c1 ∧ Rd wx.heap (some ⟨g1, o1, none⟩) (headD b).length 1 (ivals .u8 (headD b)) ∧ (headD b).length ≤ c1 ∧ Fr (fun _ => False) w wx ∧ Blk wx.heap w.heap.size 75 [.bool false, .slice none 0 0])
  case first =>
    by_cases h4 : b.length < 4
    · have hh : b.take 4 ++ ([2, 2, 0, 0] : List Int).drop (b.take 4).length = headD b := by
        unfold headD; rw [if_pos h4, List.take_of_length_le (by omega)]
      rw [hh] at hW2
      have h4l := (headD_len b).2.1 h4
      have hrd := hW2.rd (sz := 1) (n := 4) (off := 0) (by simp [ivals]; omega)
      rw [List.drop_zero, List.take_of_length_le (by simp [ivals]; omega)] at hrd
      have HRD := Lib.hid hrd
      clear hh hW2 hrd
      go_wp2
      go_meet
      case rel => exact ⟨w.heap.size + 1, 0, 4, by rw [h4l], by rw [h4l]; exact HRD.out, by omega, hF02, hB2⟩
    · have hh := (headD_len b).2.2 (by omega)
      have hrd := HL.out.fr hF02 (fun _ _ _ h => h)
      obtain ⟨g, off, rfl, -⟩ := hrd.pos (by omega)
      have HRD := Lib.hid hrd
      clear hW2 hrd
      go_wp2
      go_meet
      case rel => exact ⟨g, off, c, by rw [hh], by rw [hh]; exact HRD.out, by rw [hh]; exact hc, hF02, hB2⟩
  case rest =>
  obtain ⟨g1, o1, c1, rfl, hRd, hc1, hF3, hB3⟩ := hcut
  clear hW2 hB2 hF02
  obtain ⟨w3, hnm⟩ : ∃ z, z = wc := ⟨wc, rfl⟩
  subst hnm
  obtain ⟨hb, hhb⟩ : ∃ hb, hb = headD b := ⟨_, rfl⟩
  rw [← hhb] at hRd hc1 ⊢
  have hl4 : 4 ≤ hb.length := by rw [hhb]; exact (headD_len b).1
  have hlu : hb.length ≤ 9223372036854775000 := by
    rw [hhb]
    by_cases h4 : b.length < 4
    · have := (headD_len b).2.1 h4; omega
    · rw [(headD_len b).2.2 (by omega)]; exact hll
  have HHB := Lib.hid hhb
  obtain ⟨_, _, he, hgl, hcc⟩ := Ints.pos hRd (by omega)
  cases he
  have x0 := hcc w3 rfl 0 (by omega)
  have x1 := hcc w3 rfl 1 (by omega)
  have x2 := hcc w3 rfl 2 (by omega)
  have x3 := hcc w3 rfl 3 (by omega)
  obtain ⟨X0, hX0⟩ : ∃ X, X = nth hb 0 := ⟨_, rfl⟩
  obtain ⟨X1, hX1⟩ : ∃ X, X = nth hb 1 := ⟨_, rfl⟩
  obtain ⟨X2, hX2⟩ : ∃ X, X = nth hb 2 := ⟨_, rfl⟩
  obtain ⟨X3, hX3⟩ : ∃ X, X = nth hb 3 := ⟨_, rfl⟩
  rw [← hX0] at x0
  rw [← hX1] at x1
  rw [← hX2] at x2
  rw [← hX3] at x3
  simp only [Nat.add_zero] at x0 x1 x2 x3
  obtain ⟨V, hV⟩ : ∃ V : Bool, V = decide ((X0 ≠ 1 ∧ X0 ≠ 2) ∨ X1 ≠ 2 ∨ X2 ≠ 0 ∨ X3 ≠ 0) := ⟨_, rfl⟩
  have HV := Lib.hid hV
  have HVB := Lib.hid (show V = decide (headBad hb) by rw [hV, hX0, hX1, hX2, hX3]; rfl)
  have HX0 := Lib.hid hX0
  clear hhb hV hX0 hX1 hX2 hX3 hcc
  go_upto_region 6 with (fail)
  go_cut [47] (fun s47 wx => s47 = .bool V ∧ Fr (fun _ => False) w3 wx)
  case first =>
    have cs : (X0 ≠ 1 ∧ X0 ≠ 2) ∨ ((X0 = 1 ∨ (X0 ≠ 1 ∧ X0 = 2)) ∧ (X1 ≠ 2 ∨ (X1 = 2 ∧ (X2 ≠ 0 ∨ (X2 = 0 ∧ (X3 ≠ 0 ∨ X3 = 0)))))) := by omega
    have vt : ∀ (h : (X0 ≠ 1 ∧ X0 ≠ 2) ∨ X1 ≠ 2 ∨ X2 ≠ 0 ∨ X3 ≠ 0), V = true := fun h => by rw [HV.out]; exact decide_eq_true h
    have vf : ∀ (h : ¬ ((X0 ≠ 1 ∧ X0 ≠ 2) ∨ X1 ≠ 2 ∨ X2 ≠ 0 ∨ X3 ≠ 0)), V = false := fun h => by rw [HV.out]; exact decide_eq_false h
    have VT := Lib.hid vt
    have VF := Lib.hid vf
    clear vt vf
    rcases cs with ⟨k1, k2⟩ | ⟨k1 | ⟨k1, k2⟩, k3 | ⟨k3, k4 | ⟨k4, k5 | k5⟩⟩⟩
    · have q0 : (X0 != 1) = true := by simp; omega
      have q1 : (X0 != 2) = true := by simp; omega
      obtain rfl : V = true := VT.out (by omega)
      clear VT VF
      go_wp2
      go_meet
      case rel => exact ⟨rfl, Fr.refl _ _⟩
    · have q0 : (X0 != 1) = false := by simp; omega
      have q1 : (X1 != 2) = true := by simp; omega
      obtain rfl : V = true := VT.out (by omega)
      clear VT VF
      go_wp2
      go_meet
      case rel => exact ⟨rfl, Fr.refl _ _⟩
    · have q0 : (X0 != 1) = false := by simp; omega
      have q1 : (X1 != 2) = false := by simp; omega
      have q2 : (X2 != 0) = true := by simp; omega
      obtain rfl : V = true := VT.out (by omega)
      clear VT VF
      go_wp2
      go_meet
      case rel => exact ⟨rfl, Fr.refl _ _⟩
    · have q0 : (X0 != 1) = false := by simp; omega
      have q1 : (X1 != 2) = false := by simp; omega
      have q2 : (X2 != 0) = false := by simp; omega
      have q3 : (X3 != 0) = true := by simp; omega
      obtain rfl : V = true := VT.out (by omega)
      clear VT VF
      go_wp2
      go_meet
      case rel => exact ⟨rfl, Fr.refl _ _⟩
    · have q0 : (X0 != 1) = false := by simp; omega
      have q1 : (X1 != 2) = false := by simp; omega
      have q2 : (X2 != 0) = false := by simp; omega
      have q3 : (X3 != 0) = false := by simp; omega
      obtain rfl : V = false := VF.out (by omega)
      clear VT VF
      go_wp2
      go_meet
      case rel => exact ⟨rfl, Fr.refl _ _⟩
    · have q0 : (X0 != 1) = true := by simp; omega
      have q1 : (X0 != 2) = false := by simp; omega
      have q2 : (X1 != 2) = true := by simp; omega
      obtain rfl : V = true := VT.out (by omega)
      clear VT VF
      go_wp2
      go_meet
      case rel => exact ⟨rfl, Fr.refl _ _⟩
    · have q0 : (X0 != 1) = true := by simp; omega
      have q1 : (X0 != 2) = false := by simp; omega
      have q2 : (X1 != 2) = false := by simp; omega
      have q3 : (X2 != 0) = true := by simp; omega
      obtain rfl : V = true := VT.out (by omega)
      clear VT VF
      go_wp2
      go_meet
      case rel => exact ⟨rfl, Fr.refl _ _⟩
    · have q0 : (X0 != 1) = true := by simp; omega
      have q1 : (X0 != 2) = false := by simp; omega
      have q2 : (X1 != 2) = false := by simp; omega
      have q3 : (X2 != 0) = false := by simp; omega
      have q4 : (X3 != 0) = true := by simp; omega
      obtain rfl : V = true := VT.out (by omega)
      clear VT VF
      go_wp2
      go_meet
      case rel => exact ⟨rfl, Fr.refl _ _⟩
    · have q0 : (X0 != 1) = true := by simp; omega
      have q1 : (X0 != 2) = false := by simp; omega
      have q2 : (X1 != 2) = false := by simp; omega
      have q3 : (X2 != 0) = false := by simp; omega
      have q4 : (X3 != 0) = false := by simp; omega
      obtain rfl : V = false := VF.out (by omega)
      clear VT VF
      go_wp2
      go_meet
      case rel => exact ⟨rfl, Fr.refl _ _⟩
  case rest =>
  obtain ⟨rfl, hF4⟩ := hcut
  have hF := hF3.trans hF4
  have hBr := hB3.fr hF4 (fun h => h)
  have hRd4 := hRd.fr hF4 (fun _ _ _ h => h)
  have x0' := (hF4.cell (p := ⟨g1, o1, none⟩) hgl (fun h => h)).trans x0
  have hgl4 := Nat.lt_of_lt_of_le hgl hF4.size
  clear x0 x1 x2 x3 hRd hF3 hB3 hF4 hgl HV
  obtain ⟨w4, hnm⟩ : ∃ z, z = wc := ⟨wc, rfl⟩
  subst hnm
  by_cases hVt : V = true
  · have HX := Lib.hid (show R = .error 3 by rw [HR.out]; unfold decD; rw [← HHB.out, if_pos (of_decide_eq_true (HVB.out.symm.trans hVt))])
    subst hVt
    have y0 := hBr.cell 0
    have y1 := hBr.cell 1
    have z0 := hBr.frozen 0
    have z1 := hBr.frozen 1
    have yl := hBr.lt
    have hq := (hBr.set 0 (.bool false)).set 1 (.slice none 0 0)
    have v0 := hq.cell 0
    have v1 := hq.cell 1
    have HFQ := Lib.hid ((hF.setCell (p := ⟨w.heap.size, 0, none⟩) (fun h => by simp at h) (.bool false)).setCell (p := ⟨w.heap.size, 1, none⟩) (fun h => by simp at h) (.slice none 0 0))
    simp only [List.getElem?_cons_succ, List.getElem?_cons_zero, List.set_cons_succ, List.set_cons_zero] at y0 y1 v0 v1
    clear hq hBr hF
    go_wp2
    refine bodyPost_ret (v := .tuple #[.agg #[.bool false, .slice none 0 0], errv 3]) (by simp [results, Try.results27, go_sem, v0, v1]) rfl ?_
    exact RetDec.err HX.out rfl HFQ.out
  · have hVf : V = false := by simpa using hVt
    have HNB := Lib.hid (show ¬ headBad hb from of_decide_eq_false (HVB.out.symm.trans hVf))
    subst hVf
    obtain ⟨ask, hask⟩ : ∃ ask : Bool, ask = (X0 == 1) := ⟨_, rfl⟩
    obtain ⟨P0, hP0⟩ : ∃ P0, P0 = partsD b.length (hb.drop 4) [] := ⟨_, rfl⟩
    have HRP := Lib.hid (show R = outD b ask P0 by
      rw [HR.out, hP0, hask, HX0.out]
      have : (nth hb 0 == 1) = decide (nth hb 0 = 1) := by by_cases h : nth hb 0 = 1 <;> simp [h]
      rw [this]
      unfold decD outD; rw [← HHB.out, if_neg HNB.out]
      cases partsD b.length (List.drop 4 hb) [] <;> rfl)
    have hbl : hb.length = if b.length < 4 then 4 else b.length := by
      rw [HHB.out]
      by_cases h4 : b.length < 4
      · rw [if_pos h4]; exact (headD_len b).2.1 h4
      · rw [if_neg h4, (headD_len b).2.2 (by omega)]
    have hRest : Rest b (hb.drop 4) (decide (b.length < 4)) [] P0 := by
      refine ⟨⟨b.length, by rw [List.length_drop, hbl]; split <;> omega, hP0⟩, fun hne => ?_, fun he => ?_, fun x hx => ?_⟩
      · have h1 : 0 < (hb.drop 4).length := List.length_pos_iff.2 hne
        rw [List.length_drop, hbl] at h1 ⊢
        split at h1
        · omega
        · rename_i h4; rw [if_neg h4]; omega
      · have h1 := congrArg List.length he
        rw [List.length_drop, hbl] at h1
        simp only [List.length_nil] at h1
        rw [decide_eq_true_eq]; unfold shortD
        split at h1 <;> omega
      · have := List.mem_of_mem_drop hx
        rw [HHB.out] at this
        exact headD_bd HB.out x this
    go_upto_region 8 with (fail)
    go_cut [6] (fun s6 wx => s6 = .pointer (some ⟨w4.heap.size, 0, none⟩) ∧ Blk wx.heap w4.heap.size 75 [.bool ask, .slice none 0 0] ∧ Fr (fun _ => False) w4 wx)
    case first =>
      have hBa := Blk.made w4 75 [.bool ask, .slice none 0 0]
      have hFa := (Fr.refl (fun _ => False) w4).alloc (.cells #[.bool ask, .slice none 0 0] 75)
      have HBa := Lib.hid hBa
      have HFa := Lib.hid hFa
      clear hBa hFa hRest
      cases hX : (X0 == 1) with
      | true =>
        obtain rfl : ask = true := hask.trans hX
        clear hask
        go_wp2
        go_meet
        case rel => exact ⟨rfl, HBa.out, HFa.out⟩
      | false =>
        obtain rfl : ask = false := hask.trans hX
        clear hask
        go_wp2
        go_meet
        case rel => exact ⟨rfl, HBa.out, HFa.out⟩
    case rest =>
    obtain ⟨rfl, hM5, hFm⟩ := hcut
    obtain ⟨w5, hnm⟩ : ∃ z, z = wc := ⟨wc, rfl⟩
    subst hnm
    have HM := Lib.hid hM5
    have hRr : Rd w5.heap (some ⟨g1, o1 + 4, none⟩) (hb.drop 4).length 1 (ivals .u8 (hb.drop 4)) := by
      have h := (rd_sub hRd4 4 (hb.length - 4) (by omega)).fr hFm (fun _ _ _ h => h)
      rw [List.take_of_length_le (by simp)] at h
      rwa [List.length_drop]
    have hdl : (hb.drop 4).length = hb.length - 4 := List.length_drop
    obtain ⟨r0, hr0⟩ : ∃ r0, r0 = hb.drop 4 := ⟨_, rfl⟩
    rw [← hr0] at hRest hRr hdl
    have hsl : hb.length - 4 = r0.length := hdl.symm
    have HDL := Lib.hid hdl
    have hFw := hF.trans hFm
    have hBw := hBr.fr hFm (fun h => h)
    have HASK := Lib.hid hask
    have hwl := hF.size
    have HBLT := Lib.hid (show w.heap.size < w4.heap.size from hBr.lt)
    have hcr : r0.length ≤ c1 - 4 := by omega
    have hr0u : r0.length ≤ 9223372036854775000 := by omega
    clear hRd4 hbl hP0 hr0 hF hBr hFm hdl hVt hM5 hask
    have hcast : ((hb.length - 4 : Nat) : Int) = (r0.length : Int) := by rw [hsl]
    have hw5s : w4.heap.size < w5.heap.size := HM.out.lt
    have HG4 := Lib.hid hgl4
    clear x0' hgl4
    go_upto_region 9 with (fail)
    go_cut [7] (fun s7 wx => ∃ (aR : Option Addr) (cR : Nat), s7 = .slice aR r0.length cR ∧ Rd wx.heap aR r0.length 1 (ivals .u8 r0) ∧ r0.length ≤ cR ∧ Fr (fun _ => False) w5 wx ∧ Hid (∀ bq oq, aR = some ⟨bq, oq, none⟩ → bq < w4.heap.size))
    case first =>
      have HRr := Lib.hid hRr
      by_cases hc4 : c1 = 4
      · have hz : r0.length = 0 := by omega
        have hr0 : r0 = [] := List.eq_nil_of_length_eq_zero hz
        subst hr0
        have hb4 := Lib.hid (show hb.length - 4 = 0 by omega)
        subst hc4
        clear hRr hsl hcast hz
        go_wp2
        go_meet
        case rel => exact ⟨some ⟨g1, o1, none⟩, 0, (by first | rfl | (rw [hb4.out]; rfl)), Rd.nil _ _ _, Nat.zero_le _, Fr.refl _ _, Lib.hid (fun bq oq e => by simp only [Option.some.injEq, Addr.mk.injEq] at e; rw [← e.1]; exact HG4.out)⟩
      · clear hRr
        go_wp2
        go_meet
        case rel => exact ⟨_, _, (by first | rfl | rw [hsl]), HRr.out, hcr, Fr.refl _ _, Lib.hid (fun bq oq e => by simp only [Option.some.injEq, Addr.mk.injEq] at e; rw [← e.1]; exact HG4.out)⟩
    case rest =>
    obtain ⟨aR, cR, rfl, hRr, hcr, hF6, HAB⟩ := hcut
    have hM6 := HM.out.fr hF6 (fun h => h)
    have hF06 := hFw.trans hF6
    have hB6 := hBw.fr hF6 (fun h => h)
    have HREST := Lib.hid hRest
    clear hRest HM hFw hBw hF6 hsl hcast
    go_wp2
    go_loopw [7, 4] (fun s7 s4 wr => ∃ (rs : List Int) (aR : Option Addr) (cR : Nat) (sh : Bool) (acc : List En) (aE : Option Addr) (cE : Nat) (obE : Option Nat), s7 = .slice aR rs.length cR ∧ s4 = .bool sh ∧ Rd wr.heap aR rs.length 1 (ivals .u8 rs) ∧ rs.length ≤ cR ∧ Hid (Rest b rs sh acc P0) ∧ rs.length ≤ 9223372036854775000 ∧ Blk wr.heap w4.heap.size 75 [.bool ask, .slice aE acc.length cE] ∧ Ownd wr.heap 80 5 aE acc.length cE (acc.flatMap En.cells) obE ∧ (∀ g, obE = some g → w4.heap.size < g) ∧ Fr (fun _ => False) w wr ∧ Blk wr.heap w.heap.size 75 [.bool false, .slice none 0 0] ∧ Hid (∀ x ∈ acc, En.wf x) ∧ acc.length ≤ 25 ∧ Hid (∀ bq oq, aR = some ⟨bq, oq, none⟩ → bq < w4.heap.size)) (fun s _ _ => sliceLen s)
    case atStart => exact ⟨r0, aR, cR, decide (b.length < 4), [], none, 0, none, rfl, congrArg Value.bool (decide_eq_decide.2 (by omega)), hRr, hcr, HREST, hr0u, hM6, Ownd.nil _ _ _, (fun _ h => nomatch h), hF06, hB6, Lib.hid (fun _ h => nomatch h), Nat.zero_le _, HAB⟩
    case round =>
      clear hRr hcr HREST hr0u hM6 hF06 hB6
      obtain ⟨rs, aR, cR, sh, acc, aE, cE, obE, rfl, rfl, hRr, hcr, hRS, hru, hM, hO, hN, hF, hBr, hW, h25, HAR⟩ := hrel
      by_cases hpos : 0 < rs.length
      · have hne : rs ≠ [] := List.length_pos_iff.1 hpos
        obtain ⟨gR, oR, rfl, hgR, -⟩ := hRr.pos (by omega)
        obtain ⟨p, hp⟩ : ∃ p, p = rs.take 20 := ⟨_, rfl⟩
        obtain ⟨m, hm⟩ : ∃ m, m = p.length := ⟨_, rfl⟩
        have hm1 : m = min 20 rs.length := by rw [hm, hp, List.length_take]
        have hpb : ∀ x ∈ p, 0 ≤ x ∧ x < 256 := fun x hx => hRS.out.bd x (by rw [hp] at hx; exact List.mem_of_mem_take hx)
        have hRp : Rd wr.heap (some ⟨gR, oR, none⟩) m 1 (ivals .u8 p) := by
          have := rd_sub hRr 0 m (by omega)
          rw [List.drop_zero, Nat.add_zero] at this
          rw [hp, show rs.take 20 = rs.take m by rw [hm1]; rcases Nat.le_total 20 rs.length with h | h <;> first | rw [Nat.min_eq_left h] | rw [Nat.min_eq_right h, List.take_length, List.take_of_length_le h]]
          exact this
        have hRq : Rd wr.heap (some ⟨gR, oR + m, none⟩) (rs.length - m) 1 (ivals .u8 (rs.drop 20)) := by
          have := rd_sub hRr m (rs.length - m) (by omega)
          rw [List.take_of_length_le (by simp)] at this
          rw [show rs.drop 20 = rs.drop m by rw [hm1]; rcases Nat.le_total 20 rs.length with h | h <;> first | rw [Nat.min_eq_left h] | rw [Nat.min_eq_right h, List.drop_length, List.drop_of_length_le h]]
          exact this
        have hql : (rs.drop 20).length = rs.length - m := by rw [List.length_drop]; omega
        have hmin : min (20 : Int) (rs.length : Int) = (m : Int) := by omega
        have hmp : 1 ≤ m ∧ m ≤ 20 ∧ m ≤ rs.length := by omega
        have HRQ := Lib.hid hRq
        have HPP := Lib.hid hp
        have HMP := Lib.hid hm
        have HPB := Lib.hid hpb
        have HQL := Lib.hid hql
        have hsh : Hid (decide ((m : Int) < 20) = decide (p.length < 20)) := Lib.hid (by
          have : ((m : Int) < 20) ↔ p.length < 20 := by rw [← hm]; omega
          simp only [this])
        clear hRr hp hm hRq hpb hql hm1
        go_upto_region 12 with (fail)
        go_cut [7] from 57 to 93 (fun s7 wx => ∃ (aQ : Option Addr) (cQ : Nat), s7 = .slice aQ (rs.drop 20).length cQ ∧ Rd wx.heap aQ (rs.drop 20).length 1 (ivals .u8 (rs.drop 20)) ∧ (rs.drop 20).length ≤ cQ ∧ Fr (fun _ => False) wr wx ∧ Hid (∀ bq oq, aQ = some ⟨bq, oq, none⟩ → bq < w4.heap.size))
        case first =>
          by_cases hcm : cR = m
          · have hz : (rs.drop 20).length = 0 := by rw [HQL.out]; omega
            have hz2 : rs.drop 20 = [] := List.eq_nil_of_length_eq_zero hz
            have hz3 : rs.length = m := by omega
            have HZ2 := Lib.hid hz2
            have hne2 : ¬ rs = [] := hne
            subst hcm
            clear hz hz2
            go_wp2
            go_meet
            case rel => rw [HZ2.out]; exact ⟨some ⟨gR, oR, none⟩, 0, (by simp [hz3]), Rd.nil _ _ _, Nat.zero_le _, Fr.refl _ _, Lib.hid (fun bq oq e => by simp only [Option.some.injEq, Addr.mk.injEq] at e; rw [← e.1]; exact HAR.out _ _ rfl)⟩
          · go_wp2
            go_meet
            case rel => exact ⟨_, _, (by rw [HQL.out]), by rw [HQL.out]; exact HRQ.out, by rw [HQL.out]; omega, Fr.refl _ _, Lib.hid (fun bq oq e => by simp only [Option.some.injEq, Addr.mk.injEq] at e; rw [← e.1]; exact HAR.out _ _ rfl)⟩
        case rest =>
        obtain ⟨aQ, cQ, rfl, hRQ, hcQ, hF7, HAQ0⟩ := hcut
        have hRp7 := hRp.fr hF7 (fun _ _ _ h => h)
        have hM7 := hM.fr hF7 (fun h => h)
        have hO7 := hO.fr hF7 (fun _ _ h => h)
        have hBr7 := hBr.fr hF7 (fun h => h)
        have hF07 := hF.trans hF7
        have hwr := hF.size
        clear hRp hM hO hBr hF hF7 HRQ hcr hmin
        obtain ⟨w7, hnm⟩ : ∃ z, z = wc := ⟨wc, rfl⟩
        subst hnm
        have hfi := filled_any (M := m) p (some ⟨gR, oR, none⟩) cR w7 hRp7 (by rw [← HMP.out]; omega) (by rw [← HMP.out]; omega) HMP.out
        go_wp2_with (fail)
        refine hfi.mono ?_
        rintro e8 w8 ⟨g8, rfl, hO8, hF8, hg8⟩
        obtain ⟨D8, hD8⟩ : ∃ D, D = entD (filledD p) := ⟨_, rfl⟩
        have hen := entry_any (filledD p) g8 w8 hO8.rd (filledD_bd HPB.out)
        rw [← hD8] at hen
        have HD8 := Lib.hid hD8
        clear hfi hRp7 hO8 hD8
        go_wp2_with (fail)
        refine hen.mono ?_
        rintro e9 w9 ⟨x, rfl, hF9, hx, hxw⟩
        obtain ⟨xa, xn, xt, xp, xm⟩ := x
        simp only
        have hF89 := hF8.trans hF9
        have hFx : Fr (fun _ => False) w7 (w9.alloc (.cells #[.int .u32 xa, .int .i64 xn, .int .i64 xt, .int .u32 xp, .int .i64 xm] 80)) := hF89.alloc _
        have hBx := Blk.made w9 80 [.int .u32 xa, .int .i64 xn, .int .i64 xt, .int .u32 xp, .int .i64 xm]
        have hM9 := hM7.fr hFx (fun h => h)
        have hO9 := hO7.fr hFx (fun _ _ h => h)
        have hBr9 := hBr7.fr hFx (fun h => h)
        have hRQ9 := hRQ.fr hFx (fun _ _ _ h => h)
        have hF := hF07.trans hFx
        have c0 := hBx.cell 0
        have c1' := hBx.cell 1
        have c2 := hBx.cell 2
        have c3 := hBx.cell 3
        have c4 := hBx.cell 4
        have cl := hBx.lt
        have m1 := hM9.cell 1
        have mf := hM9.frozen 1
        have ml := hM9.lt
        have hs9 := hF89.size
        have hw47 := hM7.lt
        have hwF := hF07.size
        simp only [List.getElem?_cons_succ, List.getElem?_cons_zero] at c0 c1' c2 c3 c4 m1
        have HUN := Lib.hid (hRS.out.unfold hne)
        clear hen hF8 hF9 hM7 hO7 hBr7 hRQ hF07 hBx hFx hF89
        cases hDD : D8 with
        | none =>
          have HX := Lib.hid (show R = .error 3 by
            obtain ⟨kk, -, h⟩ := HUN.out
            rw [HRP.out, h, ← HPP.out, ← HD8.out, hDD]; rfl)
          rw [show (none : Option En).isSome = false from rfl]
          have hBr := hBr9
          clear hDD hM9 hO9 hBr9 hRQ9 hx
          have y0 := hBr.cell 0
          have y1 := hBr.cell 1
          have z0 := hBr.frozen 0
          have z1 := hBr.frozen 1
          have yl := hBr.lt
          have hq := (hBr.set 0 (.bool false)).set 1 (.slice none 0 0)
          have v0 := hq.cell 0
          have v1 := hq.cell 1
          have HFQ := Lib.hid ((hF.setCell (p := ⟨w.heap.size, 0, none⟩) (fun h => by simp at h) (.bool false)).setCell (p := ⟨w.heap.size, 1, none⟩) (fun h => by simp at h) (.slice none 0 0))
          simp only [List.getElem?_cons_succ, List.getElem?_cons_zero, List.set_cons_succ, List.set_cons_zero] at y0 y1 v0 v1
          clear hq hBr hF
          go_wp2
          refine bodyPost_ret (v := .tuple #[.agg #[.bool false, .slice none 0 0], errv 3]) (by simp [results, Try.results27, go_sem, v0, v1]) rfl ?_
          exact RetDec.err HX.out rfl HFQ.out
        | some y =>
          have hyx := hx y hDD
          subst hyx
          rw [show (some (⟨xa, xn, xt, xp, xm⟩ : En)).isSome = true from rfl]
          by_cases h25' : acc.length = 25
          · have HX := Lib.hid (show R = .error 3 by
              obtain ⟨kk, -, h⟩ := HUN.out
              rw [HRP.out, h, ← HPP.out, ← HD8.out, hDD]; simp only; rw [if_pos h25']; rfl)
            have e25 : ((acc.length : Int) == 25) = true := by simp [h25']
            have hBr := hBr9
            clear hDD hM9 hO9 hBr9 hRQ9 hx h25'
            have y0 := hBr.cell 0
            have y1 := hBr.cell 1
            have z0 := hBr.frozen 0
            have z1 := hBr.frozen 1
            have yl := hBr.lt
            have hq := (hBr.set 0 (.bool false)).set 1 (.slice none 0 0)
            have v0 := hq.cell 0
            have v1 := hq.cell 1
            have HFQ := Lib.hid ((hF.setCell (p := ⟨w.heap.size, 0, none⟩) (fun h => by simp at h) (.bool false)).setCell (p := ⟨w.heap.size, 1, none⟩) (fun h => by simp at h) (.slice none 0 0))
            simp only [List.getElem?_cons_succ, List.getElem?_cons_zero, List.set_cons_succ, List.set_cons_zero] at y0 y1 v0 v1
            clear hq hBr hF
            go_wp2
            refine bodyPost_ret (v := .tuple #[.agg #[.bool false, .slice none 0 0], errv 3]) (by simp [results, Try.results27, go_sem, v0, v1]) rfl ?_
            exact RetDec.err HX.out rfl HFQ.out
          · have e25 : ((acc.length : Int) == 25) = false := by simp; omega
            have HNX := Lib.hid (hRS.out.next hne (x := ⟨xa, xn, xt, xp, xm⟩) (by rw [← HPP.out, ← HD8.out, hDD]) h25')
            have hrd := rd_lit1 w9 (.cells #[.int .u32 xa, .int .i64 xn, .int .i64 xt, .int .u32 xp, .int .i64 xm] 80) 80 [.int .u32 xa, .int .i64 xn, .int .i64 xt, .int .u32 xp, .int .i64 xm]
            have hFl := (Fr.refl (fun _ => False) (w9.alloc (.cells #[.int .u32 xa, .int .i64 xn, .int .i64 xt, .int .u32 xp, .int .i64 xm] 80))).alloc (.cells #[.int .u32 xa, .int .i64 xn, .int .i64 xt, .int .u32 xp, .int .i64 xm] 80)
            have hOa := hO9.fr hFl (fun _ _ h => h)
            have HMl := Lib.hid (hM9.fr hFl (fun h => h))
            have HBl := Lib.hid (hBr9.fr hFl (fun h => h))
            have HRl := Lib.hid (hRQ9.fr hFl (fun _ _ _ h => h))
            have HFl := Lib.hid (hF.trans hFl)
            have hacl : acc.length ≤ 24 := by omega
            have hs10 := hFl.size
            have HW := Lib.hid (show ∀ z ∈ acc ++ [(⟨xa, xn, xt, xp, xm⟩ : En)], En.wf z from fun z hz => by
              rcases List.mem_append.1 hz with hz | hz
              · exact hW.out z hz
              · rw [List.mem_singleton.1 hz]; exact hxw)
            clear hDD hx h25' hM9 hO9 hBr9 hRQ9 hFl hF HUN
            go_upto_region 17 with (fail)
            go_wp2_with (go_loud (at_builtin; refine wpList_app rfl _ _ 70 rfl Try.underlying70 infoEn rfl (by decide) rfl rfl hOa hrd (by simp [Value.oneCell']) (by omega) (by omega) ?_))
            intro a8 c8 w8' ob8 v1 v2 v3
            have HAP := Lib.hid (show ∀ bq oq, aQ = some ⟨bq, oq, none⟩ → ¬ obE = some bq from fun bq oq e h => by have h1 := HAQ0.out bq oq e; have := hN bq h; omega)
            have HAQ := Lib.hid (show ∀ bq oq, aQ = some ⟨bq, oq, none⟩ → ¬ bq = w4.heap.size from fun bq oq e h => by have h1 := HAQ0.out bq oq e; omega)
            have hnB : ∀ g, obE = some g → ¬ g = w4.heap.size ∧ ¬ g = w.heap.size ∧ w.heap.size ≤ g := fun g hg => by have := hN g hg; omega
            have hM8 := HMl.out.fr v2 (fun e => (hnB _ e).1 rfl)
            have hB8 := HBl.out.fr v2 (fun e => (hnB _ e).2.1 rfl)
            have hR8 := HRl.out.fr v2 (fun bq oq e s => HAP.out bq oq e s)
            have hF8' := HFl.out.trans' v2 (fun i hi e => by have := (hnB _ e).2.2; omega)
            have hN8 : ∀ g, ob8 = some g → w4.heap.size < g := app_new hN v3 (by have h1 := hs10; simp at h1; omega)
            have y1 := hM8.cell 1
            have yf := hM8.frozen 1
            have yl := hM8.lt
            simp only [List.getElem?_cons_succ, List.getElem?_cons_zero] at y1
            have HM9 := Lib.hid (hM8.set 1 (.slice a8 (acc.length + 1) c8))
            have HO9 := Lib.hid (v1.other (p := ⟨w4.heap.size, 1, none⟩) (fun e => by have h2 : ob8 = some w4.heap.size := e; have := hN8 _ h2; omega) (.slice a8 (acc.length + 1) c8))
            have hS9 : Fr (fun k => k = w4.heap.size) w8' (w8'.setCell ⟨w4.heap.size, 1, none⟩ (.slice a8 (acc.length + 1) c8)) := (Fr.refl (fun k => k = w4.heap.size) w8').setCell (p := ⟨w4.heap.size, 1, none⟩) (fun _ => rfl) _
            have HF9 := Lib.hid (hF8'.trans' hS9 (fun i hi e => by have h2 : i = w4.heap.size := e; omega))
            have HB9 := Lib.hid (hB8.fr hS9 (fun e => by have h2 : w.heap.size = w4.heap.size := e; have := HBLT.out; omega))
            have HR9 := Lib.hid (hR8.fr hS9 (fun bq oq e s => HAQ.out bq oq e s))
            have hqu : (rs.drop 20).length ≤ 9223372036854775000 := by rw [HQL.out]; omega
            have hcc' : acc.length + 1 ≤ 25 := by omega
            have HO9' := Lib.hid (show Ownd (w8'.setCell ⟨w4.heap.size, 1, none⟩ (.slice a8 (acc.length + 1) c8)).heap 80 5 a8 (acc ++ [(⟨xa, xn, xt, xp, xm⟩ : En)]).length c8 ((acc ++ [(⟨xa, xn, xt, xp, xm⟩ : En)]).flatMap En.cells) ob8 by
              rw [List.length_append, List.flatMap_append]; simpa using HO9.out)
            clear v1 v2 v3 hOa hrd hM8 hB8 hR8 hF8' hS9 c0 c1' c2 c3 c4 m1 mf
            go_wp2
            go_roundw
            case rel => exact ⟨rs.drop 20, aQ, cQ, decide (p.length < 20), acc ++ [⟨xa, xn, xt, xp, xm⟩], a8, c8, ob8, (by simp), (by first | rw [hsh.out] | simp [hsh.out]), HR9.out, hcQ, (by rw [HPP.out]; exact HNX), hqu, (by simpa using HM9.out), HO9'.out, hN8, HF9.out, HB9.out, HW, (by simpa using hcc'), HAQ0⟩
            case measure => simp [sliceLen]; omega
      · have hrs : rs = [] := by cases rs with | nil => rfl | cons x l => exact absurd (Nat.succ_pos _) hpos
        subst hrs
        obtain ⟨hP, hS⟩ := hRS.out.done
        have HPS := Lib.hid hP
        cases hsh : sh with
        | true =>
          have HX := Lib.hid (show R = .error 6 by rw [HRP.out, HPS.out]; unfold outD; simp only; rw [if_pos (hS.1 hsh)])
          clear hsh hS hP hRr hM hO
          have y0 := hBr.cell 0
          have y1 := hBr.cell 1
          have z0 := hBr.frozen 0
          have z1 := hBr.frozen 1
          have yl := hBr.lt
          have hq := (hBr.set 0 (.bool false)).set 1 (.slice none 0 0)
          have v0 := hq.cell 0
          have v1 := hq.cell 1
          have HFQ := Lib.hid ((hF.setCell (p := ⟨w.heap.size, 0, none⟩) (fun h => by simp at h) (.bool false)).setCell (p := ⟨w.heap.size, 1, none⟩) (fun h => by simp at h) (.slice none 0 0))
          simp only [List.getElem?_cons_succ, List.getElem?_cons_zero, List.set_cons_succ, List.set_cons_zero] at y0 y1 v0 v1
          clear hq hBr hF
          go_wp2
          refine bodyPost_ret (v := .tuple #[.agg #[.bool false, .slice none 0 0], errv 6]) (by simp [results, Try.results27, go_sem, v0, v1]) rfl ?_
          exact RetDec.err HX.out rfl HFQ.out
        | false =>
          have hns : ¬ shortD b := fun h => by have := hS.2 h; rw [hsh] at this; cases this
          have HX := Lib.hid (show R = .ok (ask, acc) by rw [HRP.out, HPS.out]; unfold outD; simp only; rw [if_neg hns])
          have hm0 := hM.cell 0
          have hm1 := hM.cell 1
          have hml := hM.lt
          have y0 := hBr.cell 0
          have y1 := hBr.cell 1
          have z0 := hBr.frozen 0
          have z1 := hBr.frozen 1
          have yl := hBr.lt
          have hq := (hBr.set 0 (.bool ask)).set 1 (.slice aE acc.length cE)
          have v0 := hq.cell 0
          have v1 := hq.cell 1
          have hFs : Fr (fun k => k = w.heap.size) wr ((wr.setCell ⟨w.heap.size, 0, none⟩ (.bool ask)).setCell ⟨w.heap.size, 1, none⟩ (.slice aE acc.length cE)) := ((Fr.refl (fun k => k = w.heap.size) wr).setCell (p := ⟨w.heap.size, 0, none⟩) (fun _ => rfl) _).setCell (p := ⟨w.heap.size, 1, none⟩) (fun _ => rfl) _
          have HFQ := Lib.hid (hF.trans' hFs (fun i hi e => by have h2 : i = w.heap.size := e; omega))
          have HOQ := Lib.hid (hO.fr hFs (fun g hg e => by have h2 : g = w.heap.size := e; have := hN g hg; omega))
          have HN' := Lib.hid (show ∀ g, obE = some g → w.heap.size ≤ g from fun g hg => by have := hN g hg; omega)
          simp only [List.getElem?_cons_succ, List.getElem?_cons_zero, List.set_cons_succ, List.set_cons_zero] at y0 y1 v0 v1 hm0 hm1
          clear hq hBr hF hFs hM hO hRr hsh hS hP hns
          go_wp2
          refine bodyPost_ret (v := .tuple #[.agg #[.bool ask, .slice aE acc.length cE], .nilIface]) (by simp [results, Try.results27, go_sem, v0, v1]) rfl ?_
          exact RetDec.ok HX.out rfl HOQ.out HFQ.out HN'.out hW.out h25
end Go.Proofs.Ytgfbkebbnfcgkaa
end

section
namespace Go.Proofs.Ytgfbkebbnfcgkaa
open Go.RowKit

/-! What a router comes to. -/
structure HR where
  err : Option Int
  now : Int
  l : List Td
  bad : Int
/-- One entry heard. -/
def hear1 (D : DC) (f t : Int) (l : List Td) (e : En) : List Td := if (⟨e.a, e.n⟩ : Nt) ∈ D.own then l else match learnE t l f e.a e.n e.m t with
  | .ok l' => l'
  | .error _ => l
def hearL (D : DC) (f t : Int) (l : List Td) (es : List En) : List Td := es.foldl (hear1 D f t) l
def timeErr (D : DC) (now f t : Int) : Prop := t < now ∨ 1099511627776 < t ∨ f < 0 ∨ (D.costs.length : Int) ≤ f
instance (D : DC) (now f t : Int) : Decidable (timeErr D now f t) := by unfold timeErr; infer_instance
def hearM (D : DC) (now : Int) (l : List Td) (bad : Int) (b : List Int) (f t : Int) : HR :=
  if timeErr D now f t then ⟨some 1, now, l, bad⟩
  else match decD b with
    | .error k => ⟨some k, now, l, bad + 1⟩
    | .ok (true, _) => ⟨some 3, now, l, bad + 1⟩
    | .ok (false, es) => ⟨none, t, hearL D f t (rAged t l) es, bad⟩
def downM (D : DC) (now : Int) (l : List Td) (bad : Int) (f t : Int) : HR := if timeErr D now f t then ⟨some 1, now, l, bad⟩ else ⟨none, t, rLost f t l, bad⟩
def tickM (now : Int) (l : List Td) (bad : Int) (t : Int) : HR := if t < now ∨ 1099511627776 < t then ⟨some 1, now, l, bad⟩ else ⟨none, t, rAged t l, bad⟩
def RetH (w : World) (base : Nat) (D : DC) (r : HR) (e : Ending) (w' : World) : Prop := e = .returned (errO r.err) ∧ Dmn w' base D r.now r.l r.bad ∧ Fr (fun k => k = D.bd ∨ k = D.br) w w'
theorem RetH.mk {w w' : World} {base : Nat} {D : DC} {r : HR} {e : Ending} {v : Value} {o : Option Int} {now : Int} {l : List Td} {bad : Int} (hr : r = ⟨o, now, l, bad⟩) (he : e = .returned v) (hD : Dmn w' base D now l bad) (hF : Fr (fun k => k = D.bd ∨ k = D.br) w w') (hv : v = errO o := by rfl) : RetH w base D r e w' := by
  subst hr; subst hv; exact ⟨he, hD, hF⟩
namespace Dmn
variable {w w' : World} {base : Nat} {D : DC} {now : Int} {l : List Td} {bad : Int}
theorem time (h : Dmn w base D now l bad) : 0 ≤ now ∧ now ≤ 1099511627776 := ⟨h.ok.n0, h.ok.n1⟩
theorem aged {t : Int} (h : Dmn w base D now l bad) (ht : ¬ (t < now ∨ 1099511627776 < t)) (f : Fr (fun k => k = D.br) w w') (hR : IsRib w'.heap base D.br t (rAged t l)) : Dmn w' base D t (rAged t l) bad :=
  h.put f hR (rAged_ok h.ok (by omega) (by omega)) (fun x hx => by obtain ⟨y, hy, h1, h2, h3⟩ := age1_mem hx; rw [← h1, ← h2, ← h3]; exact h.by' y hy) (fun x hx => by obtain ⟨y, hy, h1, h2, h3⟩ := age1_mem hx; rw [← h2, ← h3]; exact h.out y hy)
theorem lost {f t : Int} (h : Dmn w base D now l bad) (ht : ¬ (t < now ∨ 1099511627776 < t)) (fr : Fr (fun k => k = D.br) w w') (hR : IsRib w'.heap base D.br t (rLost f t l)) : Dmn w' base D t (rLost f t l) bad :=
  h.put fr hR (lose_ok h.ok (by omega) (by omega)) (fun x hx => by obtain ⟨y, hy, h1, h2, h3⟩ := lost_mem hx; rw [← h1, ← h2, ← h3]; exact h.by' y hy) (fun x hx => by obtain ⟨y, hy, h1, h2, h3⟩ := lost_mem hx; rw [← h2, ← h3]; exact h.out y hy)
theorem learnt {f t a n m : Int} {l' : List Td} (h : Dmn w base D now l bad) (hp : learnE now l f a n m t = .ok l') (hf : f < D.costs.length) (ha : 0 ≤ a ∧ a < 4294967296) (ho : (⟨a, n⟩ : Nt) ∉ D.own) (fr : Fr (fun k => k = D.br) w w') (hR : IsRib w'.heap base D.br t l') : Dmn w' base D t l' bad := by
  obtain ⟨q1, q2, q3, q4, q5, q6, q7, q8, q9⟩ := learn_ok h.ok ha hp
  refine h.put fr hR q1 (fun x hx => ?_) (fun x hx => ?_)
  · rcases rPut_mem q9 hx with ⟨e1, e2, e3⟩ | hx
    · rw [e1, e2, e3]; exact ⟨hf, q6⟩
    · obtain ⟨y, hy, h1, h2, h3⟩ := age1_mem hx; rw [← h1, ← h2, ← h3]; exact h.by' y hy
  · rcases rPut_mem q9 hx with ⟨e1, e2, e3⟩ | hx
    · rw [e2, e3]; exact ho
    · obtain ⟨y, hy, h1, h2, h3⟩ := age1_mem hx; rw [← h2, ← h3]; exact h.out y hy
end Dmn
/-- What is decoded is right. -/
theorem entD_ok {b : List Int} {e : En} (hb : ∀ x ∈ b, 0 ≤ x ∧ x < 256) (h : entD b = some e) : entErr e = none ∧ En.wf e := by
  unfold entD at h
  split at h
  · cases h
  · split at h
    · rename_i hc
      cases h
      exact ⟨hc.2, numB_bd (fun x hx => hb x (List.mem_of_mem_drop (List.mem_of_mem_take hx))), numB_bd (fun x hx => hb x (List.mem_of_mem_drop (List.mem_of_mem_take hx)))⟩
    · cases h
theorem partsD_ok : ∀ (k : Nat) (b : List Int) (acc es : List En), (∀ x ∈ b, 0 ≤ x ∧ x < 256) → partsD k b acc = some es → (∀ e ∈ acc, entErr e = none ∧ En.wf e) → ∀ e ∈ es, entErr e = none ∧ En.wf e := by
  intro k
  induction k with
  | zero => intro b acc es _ h ha; cases h; exact ha
  | succ k ih =>
    intro b acc es hb h ha
    unfold partsD at h
    split at h
    · cases h; exact ha
    · split at h
      · cases h
      · rename_i e he
        split at h
        · cases h
        · refine ih _ _ _ (fun x hx => hb x (List.mem_of_mem_drop hx)) h (fun y hy => ?_)
          rcases List.mem_append.1 hy with hy | hy
          · exact ha y hy
          · rw [List.mem_singleton.1 hy]
            exact entD_ok (filledD_bd (fun x hx => hb x (List.mem_of_mem_take hx))) he
theorem decD_ok {b : List Int} {q : Bool} {es : List En} (hb : ∀ x ∈ b, 0 ≤ x ∧ x < 256) (h : decD b = .ok (q, es)) : ∀ e ∈ es, entErr e = none ∧ En.wf e := by
  unfold decD at h
  split at h
  · cases h
  · split at h
    · cases h
    · rename_i l hl
      split at h
      · cases h
      · cases h
        refine partsD_ok _ _ _ _ (fun x hx => ?_) hl (fun _ h => nomatch h)
        have hx := List.mem_of_mem_drop hx
        unfold headD at hx
        split at hx
        · rcases List.mem_append.1 hx with hx | hx
          · exact hb x hx
          · have := List.mem_of_mem_drop hx
            simp only [List.mem_cons, List.not_mem_nil, or_false] at this
            omega
        · exact hb x hx
theorem learn_four {now f a n m t q : Int} {l : List Td} (h : learnE now l f a n m t = .error q) (hc : ¬ ckErr now f t) (hn : netErr a n = none) (hm : 1 ≤ m ∧ m ≤ 16) : q = 4 := by
  unfold learnE at h
  rw [if_neg hc, hn] at h
  simp only at h
  rw [if_neg (by omega)] at h
  unfold rPut at h
  split at h
  · split at h <;> cases h
  · split at h
    · cases h
    · split at h
      · cases h; rfl
      · cases h
theorem hearL_step (D : DC) (f t : Int) (l : List Td) (es : List En) {k : Nat} (h : k < es.length) : hearL D f t l (es.take (k + 1)) = hear1 D f t (hearL D f t l (es.take k)) (nth es k) := by
  unfold hearL
  rw [take_succ_nth es k h, List.foldl_append]
  rfl
theorem hear1_own {D : DC} {f t : Int} {l : List Td} {e : En} (h : (⟨e.a, e.n⟩ : Nt) ∈ D.own) : hear1 D f t l e = l := if_pos h
theorem hear1_ok {D : DC} {f t : Int} {l l' : List Td} {e : En} (h : (⟨e.a, e.n⟩ : Nt) ∉ D.own) (hl : learnE t l f e.a e.n e.m t = .ok l') : hear1 D f t l e = l' := by unfold hear1; rw [if_neg h, hl]
theorem hear1_err {D : DC} {f t q : Int} {l : List Td} {e : En} (h : (⟨e.a, e.n⟩ : Nt) ∉ D.own) (hl : learnE t l f e.a e.n e.m t = .error q) : hear1 D f t l e = l := by unfold hear1; rw [if_neg h, hl]

set_option maxRecDepth 100000 in
theorem dtime_yes {base : Nat} {D : DC} {now : Int} {l : List Td} {bad : Int} (t : Int) (w : World) (hD : Dmn w base D now l bad) (ht : ¬ (t < now ∨ 1099511627776 < t)) : Calls Try.prog 26 #[.pointer (some ⟨D.bd, 0, none⟩), .int .i64 t] w (RetS w (.bool true)) := by
  obtain ⟨c0, -, -, -, -, cl⟩ := hD.cells
  have g0 : decide (now ≤ t) = true := decide_eq_true (by omega)
  have g1 : decide (t ≤ 1099511627776) = true := decide_eq_true (by omega)
  go_enter Try.func26, Try.ntmps26
  go_wp2_with (fail)
  refine (ribNow_any w hD.rib).mono ?_
  rintro e1 w1 ⟨rfl, rfl⟩
  go_wp2
  go_ret
  exact RetS.mk rfl rfl rfl
set_option maxRecDepth 100000 in
theorem dtime_no {base : Nat} {D : DC} {now : Int} {l : List Td} {bad : Int} (t : Int) (w : World) (hD : Dmn w base D now l bad) (ht : t < now ∨ 1099511627776 < t) : Calls Try.prog 26 #[.pointer (some ⟨D.bd, 0, none⟩), .int .i64 t] w (RetS w (.bool false)) := by
  obtain ⟨c0, -, -, -, -, cl⟩ := hD.cells
  have hq : decide (now ≤ t) = false ∨ (decide (now ≤ t) = true ∧ decide (t ≤ 1099511627776) = false) := by
    by_cases h : now ≤ t
    · exact .inr ⟨decide_eq_true h, decide_eq_false (by omega)⟩
    · exact .inl (decide_eq_false h)
  rcases hq with g0 | ⟨g0, g1⟩
  all_goals
    go_enter Try.func26, Try.ntmps26
    go_wp2_with (fail)
    refine (ribNow_any w hD.rib).mono ?_
    rintro e1 w1 ⟨rfl, rfl⟩
    go_wp2
    go_ret
    exact RetS.mk rfl rfl rfl
set_option maxRecDepth 100000 in
theorem dnear_yes {base : Nat} {D : DC} {now : Int} {l : List Td} {bad : Int} (f : Int) (w : World) (hD : Dmn w base D now l bad) (hf : ¬ (f < 0 ∨ (D.costs.length : Int) ≤ f)) : Calls Try.prog 23 #[.pointer (some ⟨D.bd, 0, none⟩), .int .i64 f] w (RetS w (.bool true)) := by
  obtain ⟨-, c1, -, -, -, cl⟩ := hD.cells
  have g0 : decide (0 ≤ f) = true := decide_eq_true (by omega)
  have g1 : decide (f < (D.costs.length : Int)) = true := decide_eq_true (by omega)
  go_enter Try.func23, Try.ntmps23
  go_wp2
  go_ret
  exact RetS.mk rfl rfl rfl
set_option maxRecDepth 100000 in
theorem dnear_no {base : Nat} {D : DC} {now : Int} {l : List Td} {bad : Int} (f : Int) (w : World) (hD : Dmn w base D now l bad) (hf : f < 0 ∨ (D.costs.length : Int) ≤ f) : Calls Try.prog 23 #[.pointer (some ⟨D.bd, 0, none⟩), .int .i64 f] w (RetS w (.bool false)) := by
  obtain ⟨-, c1, -, -, -, cl⟩ := hD.cells
  have hq : decide (0 ≤ f) = false ∨ (decide (0 ≤ f) = true ∧ decide (f < (D.costs.length : Int)) = false) := by
    by_cases h : 0 ≤ f
    · exact .inr ⟨decide_eq_true h, decide_eq_false (by omega)⟩
    · exact .inl (decide_eq_false h)
  rcases hq with g0 | ⟨g0, g1⟩
  all_goals
    go_enter Try.func23, Try.ntmps23
    go_wp2
    go_ret
    exact RetS.mk rfl rfl rfl


/-- A message that is none. -/
theorem hearM_time {D : DC} {now : Int} {l : List Td} {bad : Int} {b : List Int} {f t : Int} (h : timeErr D now f t) : hearM D now l bad b f t = ⟨some 1, now, l, bad⟩ := if_pos h
theorem hearM_bad {D : DC} {now : Int} {l : List Td} {bad : Int} {b : List Int} {f t k : Int} (h : ¬ timeErr D now f t) (hd : decD b = .error k) : hearM D now l bad b f t = ⟨some k, now, l, bad + 1⟩ := by unfold hearM; rw [if_neg h, hd]
theorem hearM_ask {D : DC} {now : Int} {l : List Td} {bad : Int} {b : List Int} {f t : Int} {es : List En} (h : ¬ timeErr D now f t) (hd : decD b = .ok (true, es)) : hearM D now l bad b f t = ⟨some 3, now, l, bad + 1⟩ := by unfold hearM; rw [if_neg h, hd]
theorem hearM_ok {D : DC} {now : Int} {l : List Td} {bad : Int} {b : List Int} {f t : Int} {es : List En} (h : ¬ timeErr D now f t) (hd : decD b = .ok (false, es)) : hearM D now l bad b f t = ⟨none, t, hearL D f t (rAged t l) es, bad⟩ := by unfold hearM; rw [if_neg h, hd]
theorem Dmn.bad' {w w' : World} {base : Nat} {D : DC} {now : Int} {l : List Td} {bad : Int} (h : Dmn w base D now l bad) (f : Fr (fun _ => False) w w') (o : Obj) : Dmn ((w'.setCell ⟨D.bd, 3, none⟩ (.int .i64 (bad + 1))).alloc o) base D now l (bad + 1) ∧ Fr (fun k => k = D.bd ∨ k = D.br) w ((w'.setCell ⟨D.bd, 3, none⟩ (.int .i64 (bad + 1))).alloc o) :=
  ⟨((h.fr0 f).worse).fr0 ((Fr.refl _ _).alloc _), ((f.none _).setCell (p := ⟨D.bd, 3, none⟩) (fun _ => .inl rfl) _).alloc _⟩

set_option maxRecDepth 100000 in
set_option maxHeartbeats 8000000 in
theorem dhear_any {N base : Nat} {D : DC} {now : Int} {l : List Td} {bad : Int} (b : List Int) (a : Option Addr) (c : Nat) (f t : Int) (w : World) (hD : Dmn w base D now l bad) (hbase : base ≤ w.heap.size) (hbad : 0 ≤ bad ∧ bad ≤ 9223372036854775000) (hL : Rd w.heap a N 1 (ivals .u8 b)) (hb : ∀ x ∈ b, 0 ≤ x ∧ x < 256) (hc : b.length ≤ c) (hll : b.length ≤ 9223372036854775000) (hN : N = b.length) :
    Calls Try.prog 10 #[.pointer (some ⟨D.bd, 0, none⟩), .slice a N c, .int .i64 f, .int .i64 t] w (RetH w base D (hearM D now l bad b f t)) := by
  obtain ⟨M, hM⟩ : ∃ M, M = hearM D now l bad b f t := ⟨_, rfl⟩
  rw [← hM]
  have HMM := Lib.hid hM
  have HD := Lib.hid hD
  have HB := Lib.hid hb
  have hc8 := hD.c8
  have hnt := hD.time
  subst hN
  clear hM
  go_enter Try.func10, Try.ntmps10
  by_cases ht : t < now ∨ 1099511627776 < t
  · have HX := Lib.hid (HMM.out.trans (hearM_time (by unfold timeErr; omega)))
    go_wp2_with (fail)
    refine (dtime_no t w hD ht).mono ?_
    rintro e1 w1 ⟨rfl, rfl⟩
    go_wp2
    go_ret
    exact RetH.mk HX.out rfl hD (Fr.refl _ _)
  · go_wp2_with (fail)
    refine (dtime_yes t w hD ht).mono ?_
    rintro e1 w1 ⟨rfl, rfl⟩
    by_cases hf : f < 0 ∨ (D.costs.length : Int) ≤ f
    · have HX := Lib.hid (HMM.out.trans (hearM_time (.inr (.inr hf))))
      go_wp2_with (fail)
      refine (dnear_no f w hD hf).mono ?_
      rintro e2 w2 ⟨rfl, rfl⟩
      go_wp2
      go_ret
      exact RetH.mk HX.out rfl hD (Fr.refl _ _)
    · have HT := Lib.hid (show ¬ timeErr D now f t by unfold timeErr; omega)
      go_wp2_with (fail)
      refine (dnear_yes f w hD hf).mono ?_
      rintro e2 w2 ⟨rfl, rfl⟩
      go_wp2_with (fail)
      refine (decode_any b a c w hL hb hc (by omega) rfl).mono ?_
      intro e3 w3 R3
      obtain ⟨r, hr⟩ : ∃ r, r = decD b := ⟨_, rfl⟩
      rw [← hr] at R3
      have HR := Lib.hid hr.symm
      clear hr hL hb
      cases r with
      | error k =>
        obtain ⟨rfl, hF3⟩ := R3
        have HX := Lib.hid (HMM.out.trans (hearM_bad HT.out HR.out))
        obtain ⟨q1, q2⟩ := HD.out.bad' hF3 (.cells #[.bool false, .slice none 0 0] 75)
        have HQ1 := Lib.hid q1
        have HQ2 := Lib.hid q2
        obtain ⟨c0, -, -, c3, cf, cl⟩ := (HD.out.fr0 hF3).cells
        clear q1 q2 hD
        go_wp2
        go_ret
        exact RetH.mk HX.out rfl HQ1.out HQ2.out
      | ok p =>
        obtain ⟨ask, es⟩ := p
        obtain ⟨aE, cE, obE, rfl, hOE, hF3, hNE, -, h25⟩ := R3
        cases ask with
        | true =>
          have HX := Lib.hid (HMM.out.trans (hearM_ask HT.out HR.out))
          obtain ⟨q1, q2⟩ := HD.out.bad' hF3 (.cells #[.bool true, .slice aE es.length cE] 75)
          have HQ1 := Lib.hid q1
          have HQ2 := Lib.hid q2
          obtain ⟨c0, -, -, c3, cf, cl⟩ := (HD.out.fr0 hF3).cells
          clear q1 q2 hD hOE hNE
          go_wp2
          go_ret
          exact RetH.mk HX.out rfl HQ1.out HQ2.out
        | false =>
          have HX := Lib.hid (HMM.out.trans (hearM_ok HT.out HR.out))
          have HES := Lib.hid (decD_ok HB.out HR.out)
          have hFm := hF3.alloc (.cells #[.bool false, .slice aE es.length cE] 75)
          have hDm := HD.out.fr0 hFm
          have hOm := hOE.alloc (.cells #[.bool false, .slice aE es.length cE] 75)
          have hBm := Blk.made w3 75 [.bool false, .slice aE es.length cE]
          have hs3 := hF3.size
          obtain ⟨c0, -, -, -, -, cl⟩ := hDm.cells
          have hbr := HD.out.lt.2
          have hEt : ageE now l t = .ok (rAged t l) := if_neg (by unfold ckErr; omega)
          have hage := age_E (w3.alloc (.cells #[.bool false, .slice aE es.length cE] 75)) hDm.rib hDm.ok (by simp; omega) t
          rw [hEt] at hage
          clear hOE hD
          go_wp2_with (fail)
          refine hage.mono ?_
          rintro e4 w4 ⟨rfl, hR4, hF4⟩
          have hD4 := hDm.aged ht hF4 hR4
          have hOB := hOm.fr hF4 (fun g hg e => by have := hNE g hg; omega)
          have hB4 := hBm.fr hF4 (fun e => by omega)
          have hF04 : Fr (fun k => k = D.bd ∨ k = D.br) w w4 := (hFm.none _).trans' hF4 (fun _ _ h => .inr h)
          have m1 := hB4.cell 1
          have ml := hB4.lt
          simp only [List.getElem?_cons_succ, List.getElem?_cons_zero] at m1
          have HOB := Lib.hid hOB
          have HNE := Lib.hid hNE
          clear hage hEt hR4 hF4 hDm hOm hBm hFm c0 cl hF3 hOB hNE hB4
          go_wp2
          go_loopw [60] (fun s60 wr => ∃ (k : Nat) (l' : List Td), k ≤ es.length ∧ s60 = .int .i64 k ∧ Dmn wr base D t l' bad ∧ Hid (l' = hearL D f t (rAged t l) (es.take k)) ∧ Fr (fun k => k = D.bd ∨ k = D.br) w wr ∧ Fr (fun k => k = D.br) w4 wr) (fun s _ => es.length - (intOf s).toNat)
          case atStart => exact ⟨0, _, by omega, rfl, hD4, Lib.hid rfl, hF04, Fr.refl _ _⟩
          case round =>
            clear hD4 hF04 m1 ml
            obtain ⟨k, l', hk, rfl, hDr, hl', hF, hF4⟩ := hrel
            have hsr := hF.size
            by_cases hke : k < es.length
            · obtain ⟨g, hga, hgo, hgl, hgc, -⟩ := (HOB.out.fr hF4 (fun g hg e => by have := HNE.out g hg; omega)).pos (by omega)
              have dd := fun (j : Nat) (hj : j < 5) => (hgc (k * 5 + j) (by omega)).trans (flat_get En.cells 5 En.cells_len es k j hke hj)
              have d0 := dd 0 (by omega)
              have d1 := dd 1 (by omega)
              have d2 := dd 2 (by omega)
              have d3 := dd 3 (by omega)
              have d4 := dd 4 (by omega)
              have hstep := hearL_step D f t (rAged t l) es hke
              rw [← hl'.out] at hstep
              obtain ⟨hxe, hxw⟩ := HES.out _ (nth_mem es k hke)
              generalize nth es k = x at *
              obtain ⟨hx1, -, -, hx4⟩ := entErr_ok hxe
              have hxw2 := hxw.1
              obtain ⟨xa, xn, xt, xp, xm⟩ := x
              simp only at hx1 hx4 hxw2
              simp only [En.cells, List.getElem?_cons_zero, List.getElem?_cons_succ, Nat.add_zero] at d0 d1 d2 d3 d4
              have HGA := Lib.hid hga
              subst hga
              have HST := Lib.hid hstep
              have HX1 := Lib.hid hx1
              have hBx := Blk.made wr 80 [.int .u32 xa, .int .i64 xn, .int .i64 xt, .int .u32 xp, .int .i64 xm]
              have hFx := (Fr.refl (fun _ => False) wr).alloc (.cells #[.int .u32 xa, .int .i64 xn, .int .i64 xt, .int .u32 xp, .int .i64 xm] 80)
              have hDx := hDr.fr0 hFx
              obtain ⟨c0, -, c2, -, -, cl⟩ := hDx.cells
              have b0 := hBx.cell 0
              have b1 := hBx.cell 1
              have bl := hBx.lt
              simp only [List.getElem?_cons_succ, List.getElem?_cons_zero] at b0 b1
              clear dd hgc hstep hxe hxw hx1
              go_wp2
              (refine wp_region_mix (fun _ => True) 6 (by kernel_rfl) (by kernel_rfl) (trivial) ?_; simp only [List.take_succ_cons, List.take_zero, List.drop_succ_cons, List.drop_zero])
              (refine wpMix_earlyN 6 (by kernel_rfl) (by kernel_rfl) ?_; simp only [List.take_succ_cons, List.take_zero, List.drop_succ_cons, List.drop_zero]; (repeat (go_big_quiet_step (fail))); refine wpQuiet_nil ?_)
              refine wpMix_nil ?_
              go_wp2_with (fail)
              refine (netIn_any D.own ⟨xa, xn⟩ D.ao D.co _ (hDx.owns.fr (S := fun _ => False) ((Fr.refl _ _).drew) (fun _ _ _ h => h)) (by have := HD.out.o25; omega) rfl).mono ?_
              rintro e5 w5 ⟨rfl, hF5⟩
              have hFx5 := hFx.drew.trans hF5
              have hFx5' := ((Fr.refl (fun _ => False) (wr.alloc (.cells #[.int .u32 xa, .int .i64 xn, .int .i64 xt, .int .u32 xp, .int .i64 xm] 80))).drew.trans hF5)
              have hD5 := hDr.fr0 hFx5
              have hB5 := hBx.fr hFx5' (fun h => h)
              have hF05 := hF.trans (hFx5.none _)
              have hF45 := hF4.trans (hFx5.none _)
              clear hDx hDr hBx hFx hF hF4 c0 c2 cl b0 b1 bl hFx5 hFx5' hF5
              by_cases hm : (⟨xa, xn⟩ : Nt) ∈ D.own
              · rw [decide_eq_true hm]
                have HL2 := Lib.hid (show l' = hearL D f t (rAged t l) (es.take (k + 1)) by rw [HST.out, hear1_own hm])
                clear hm
                go_wp2
                go_roundw
                case rel => exact ⟨k + 1, l', by omega, by go_num, hD5, HL2, hF05, hF45⟩
                case measure => simp [intOf]; omega
              · rw [decide_eq_false hm]
                have HM := Lib.hid hm
                obtain ⟨c0, -, -, -, -, cl⟩ := hD5.cells
                have b0 := hB5.cell 0
                have b1 := hB5.cell 1
                have b4 := hB5.cell 4
                have bl := hB5.lt
                simp only [List.getElem?_cons_succ, List.getElem?_cons_zero] at b0 b1 b4
                have hs5 := hF05.size
                have hck : ¬ ckErr t f t := by unfold ckErr; omega
                clear hm
                go_wp2
                (refine wp_region_mix (fun _ => True) 10 (by kernel_rfl) (by kernel_rfl) (trivial) ?_; simp only [List.take_succ_cons, List.take_zero, List.drop_succ_cons, List.drop_zero])
                (refine wpMix_earlyN 10 (by kernel_rfl) (by kernel_rfl) ?_; simp only [List.take_succ_cons, List.take_zero, List.drop_succ_cons, List.drop_zero]; (repeat (go_big_quiet_step (fail))); refine wpQuiet_nil ?_)
                refine wpMix_nil ?_
                have hDd := hD5.fr0 (Fr.refl (fun _ => False) w5).drew
                have hlearn := learn_any w5.drew hDd.rib hDd.ok (by show base ≤ w5.heap.size; omega) f xa xn xm t hxw2
                go_wp2_with (fail)
                refine hlearn.mono ?_
                intro e6 w6 R6
                cases hle : learnE t l' f xa xn xm t with
                | error q =>
                  rw [hle] at R6
                  obtain ⟨rfl, hF6⟩ := R6
                  obtain rfl := learn_four hle hck HX1.out hx4
                  have HL2 := Lib.hid (show l' = hearL D f t (rAged t l) (es.take (k + 1)) by rw [HST.out, hear1_err HM.out hle])
                  have hFq := (Fr.refl (fun _ => False) w5).drew.trans hF6
                  have hD6 := hD5.fr0 hFq
                  have hF06 := hF05.trans (hFq.none _)
                  have hF46 := hF45.trans (hFq.none _)
                  clear hle hlearn hDd hD5 hB5 hF05 hF45 hF6 c0 cl b0 b1 b4 bl
                  have e44 : ∀ w : World, (binOp .neq 25 (.iface 60 (.int .i64 4)) (.iface 60 (.int .i64 4))).run Try.prog w = .ok (.bool false) w := fun w => by kernel_rfl
                  go_wp2
                  go_roundw
                  case rel => exact ⟨k + 1, l', by omega, by go_num, hD6, HL2, hF06, hF46⟩
                  case measure => simp [intOf]; omega
                | ok l2 =>
                  rw [hle] at R6
                  obtain ⟨rfl, hR6, hF6⟩ := R6
                  have HL2 := Lib.hid (show l2 = hearL D f t (rAged t l) (es.take (k + 1)) by rw [HST.out, hear1_ok HM.out hle])
                  have hD6 := hDd.learnt hle (by omega) hxw2 HM.out hF6 hR6
                  have hF06 := (hF05.drew).trans' hF6 (fun _ _ h => .inr h)
                  have hF46 := (hF45.drew).trans hF6
                  clear hle hlearn hDd hD5 hB5 hF05 hF45 hF6 hR6 c0 cl b0 b1 b4 bl
                  go_wp2
                  go_roundw
                  case rel => exact ⟨k + 1, l2, by omega, by go_num, hD6, HL2, hF06, hF46⟩
                  case measure => simp [intOf]; omega
            · have hke2 : k = es.length := by omega
              have HX2 := Lib.hid (show M = ⟨none, t, l', bad⟩ by rw [HX.out, hl'.out, hke2, List.take_length])
              clear hke2 hl'
              go_wp2
              go_ret
              exact RetH.mk HX2.out rfl hDr hF
end Go.Proofs.Ytgfbkebbnfcgkaa
end
