import Derived.Test.YtfglidaicjjpfaaGreatDoorQTel25
import Derived.Test.YtfglidaicjjpfaaGreatDoorQTel23
section
namespace Go.Proofs.YtfglidaicjjpfaaGreatDoor
open Go.RowKit

/-- What the document's answer tells of a view. -/
def RetVO (w : World) (tq : Int) (poison : Bool) (l : List BestR) (r : Option Int) (e : Ending) (w' : World) : Prop :=
  match r with
  | some k => RetV w (.tuple #[.slice none 0 0, .int .i64 k]) e w'
  | none => ∃ a c ob, e = .returned (.tuple #[.slice a (viewOut tq poison l).length c, .int .i64 0]) ∧ Ownd w'.heap 87 5 a (viewOut tq poison l).length c ((viewOut tq poison l).flatMap En.cells) ob ∧ Fr (fun _ => False) w w' ∧ (∀ g, ob = some g → w.heap.size ≤ g)
theorem RetVO.err {w w' : World} {tq : Int} {poison : Bool} {l : List BestR} {r : Option Int} {k : Int} {e : Ending} (h : r = some k) (he : e = .returned (.tuple #[.slice none 0 0, .int .i64 k])) (hF : Fr (fun _ => False) w w') : RetVO w tq poison l r e w' := by subst h; exact ⟨he, hF⟩
theorem RetVO.ok {w w' : World} {tq : Int} {poison : Bool} {l : List BestR} {r : Option Int} {a : Option Addr} {m c : Nat} {ob : Option Nat} {xs : List Value} {e : Ending} (h : r = none) (he : e = .returned (.tuple #[.slice a m c, .int .i64 0])) (hm : m = (viewOut tq poison l).length) (hx : xs = (viewOut tq poison l).flatMap En.cells)
    (hO : Ownd w'.heap 87 5 a m c xs ob) (hF : Fr (fun _ => False) w w') (hN : ∀ g, ob = some g → w.heap.size ≤ g) : RetVO w tq poison l r e w' := by
  subst h; subst hm; subst hx; exact ⟨a, c, ob, he, hO, hF, hN⟩

set_option maxRecDepth 100000 in
set_option maxHeartbeats 4000000 in
theorem viewOf_any (l : List BestR) (al : Option Addr) (c : Nat) (tq : Int) (poison : Bool) (w : World) (hL : Bests w.heap al l) (hl : l.length * 48 ≤ 140737488351232) :
    Calls Tryz.prog 25 #[.slice al l.length c, .int .i64 tq, .bool poison] w (RetVO w tq poison l (viewErr tq l)) := by
  obtain ⟨E, hE⟩ : ∃ E, E = viewErr tq l := ⟨_, rfl⟩
  rw [← hE]
  have HE := Lib.hid hE
  clear hE
  by_cases hto : tq < 0 ∨ 8 ≤ tq
  · have hX := Lib.hid (HE.out.trans (if_pos hto))
    go_enter Tryz.func25, Tryz.ntmps25
    go_wp2
    all_goals go_ret2
    all_goals exact RetVO.err hX.out rfl (Fr.refl _ _)
  · have hX := Lib.hid (HE.out.trans (if_neg hto))
    have t1 : 0 ≤ tq := by omega
    have t2 : tq < 8 := by omega
    have HL := Lib.hid hL
    clear hto
    go_enter Tryz.func25, Tryz.ntmps25
    go_wp2
    go_loopw [10, 8, 9] (fun s10 s8 s9 wr => ∃ (k m : Nat) (seen : List Nt) (ao as' : Option Addr) (co cs : Nat) (ob os : Option Nat) (xs : List Value), k ≤ l.length ∧ s10 = .int .i64 k ∧ s8 = .slice ao m co ∧ s9 = .slice as' k cs ∧ m ≤ k ∧ seen.length = k ∧ Ownd wr.heap 87 5 ao m co xs ob ∧ (∀ g, ob = some g → w.heap.size ≤ g) ∧ Ownd wr.heap 52 2 as' k cs (seen.flatMap Nt.cells) os ∧ (∀ g, os = some g → w.heap.size ≤ g) ∧ (∀ g, ob = some g → os ≠ some g) ∧ Fr (fun _ => False) w wr ∧ Hid (∃ sn, E = viewErrL sn (l.drop k) ∧ ∀ q, q ∈ sn ↔ q ∈ seen) ∧ Hid (m = (viewOut tq poison (l.take k)).length ∧ xs = (viewOut tq poison (l.take k)).flatMap En.cells)) (fun s _ _ _ => l.length - (intOf s).toNat)
    case atStart => exact ⟨0, 0, [], none, none, 0, 0, none, none, [], by omega, rfl, rfl, rfl, by omega, rfl, Ownd.nil _ _ _, (fun g h => nomatch h), Ownd.nil _ _ _, (fun g h => nomatch h), (fun g h => nomatch h), Fr.refl _ _, Lib.hid ⟨[], hX.out, fun q => Iff.rfl⟩, Lib.hid ⟨rfl, rfl⟩⟩
    case round =>
      obtain ⟨k, m, seen, ao, as', co, cs, ob, os, xs, hk, rfl, rfl, rfl, hmk, hsl, hO, hN, hOs, hNs, hne, hF, hEk, hOut⟩ := hrel
      by_cases hkl : k < l.length
      · have hLr := HL.out.fr0 hF (fun _ _ h => h)
        obtain ⟨b, off, rfl, hbb, hc⟩ := Recs.pos hLr.top BestR.cells_len (by omega) (by omega)
        have dd := fun (j : Nat) (hj : j < 4) => hc wr rfl k j hkl hj
        have d0 := dd 0 (by omega)
        have d1 := dd 1 (by omega)
        have d2 := dd 2 (by omega)
        have d3 := dd 3 (by omega)
        have hxm := nth_mem l k hkl
        have hwf := hLr.wf _ hxm
        have hrow := HL.out.row _ hxm
        have hdr := drop_nth l k hkl
        have htk := take_succ_nth l k hkl
        obtain ⟨x, hx⟩ : ∃ x, x = nth l k := ⟨_, rfl⟩
        rw [← hx] at d0 d1 d2 d3 hwf hrow hdr htk
        obtain ⟨sn, hEk1, hsn⟩ := hEk.out
        have hE1 : E = match viewErr1 sn x with | some k => some k | none => viewErrL (x.net :: sn) (l.drop (k + 1)) := by rw [hEk1, hdr]; rfl
        have hO1 : viewOut tq poison (l.take (k + 1)) = viewOut tq poison (l.take k) ++ viewStep tq poison x := by rw [htk]; unfold viewOut; rw [List.flatMap_append]; simp
        have HO1 := Lib.hid hO1
        have HWF := Lib.hid hwf
        have HSL := Lib.hid hsl
        obtain ⟨xa, xn, xm, xh, xA, xC⟩ := x
        simp only [BestR.cells, List.getElem?_cons_zero, List.getElem?_cons_succ, ← Nat.add_assoc, Nat.add_zero] at d0 d1 d2 d3
        have hna : 0 ≤ xa ∧ xa < 4294967296 := ⟨hwf.1.1, hwf.1.2.1⟩
        have hxl : xh.length ≤ 9223372036854775807 := by
          have h1 : xh.length ≤ xC := hwf.2.2.1
          have h2 : xC ≤ 9223372036854775807 := hwf.2.2.2.1
          omega
        have hsz := hF.size
        clear hc dd hxm hwf hdr htk hx hO1 hLr hEk hEk1 hsl
        have hFb := (Fr.refl (fun _ => False) wr).alloc (.cells #[.int .u32 xa, .int .i64 xn, .int .i64 xm, .slice xA xh.length xC] 66)
        have hF0b := hF.alloc (.cells #[.int .u32 xa, .int .i64 xn, .int .i64 xm, .slice xA xh.length xC] 66)
        have hBb := Blk.made wr 66 [.int .u32 xa, .int .i64 xn, .int .i64 xm, .slice xA xh.length xC]
        cases hnet : netErr xa xn with
        | some e =>
          have hX2 := Lib.hid (hE1.trans (show _ = some e by unfold viewErr1; simp only [hnet]))
          have HNE := Lib.hid hnet
          have he0 : (e != 0) = true := by simpa using netErr_pos hnet
          clear hnet hO hOs hE1
          go_wp2_with (fail)
          refine (netFault_any xa xn _ hna).mono ?_
          rintro e1 w1 ⟨rfl, hF1⟩
          rw [HNE.out, show numO (some e) = e from rfl]
          have hF01 := hF0b.trans hF1
          have hB := hBb.fr hF1 (fun h => h)
          have c0 := hB.cell 0
          have c1 := hB.cell 1
          simp only [List.getElem?_cons_succ, List.getElem?_cons_zero] at c0 c1
          go_wp2_with (fail)
          refine (netFault_any xa xn _ hna).mono ?_
          rintro e2 w2 ⟨rfl, hF2⟩
          rw [HNE.out, show numO (some e) = e from rfl]
          have hF02 := hF01.trans hF2
          go_wp2
          go_ret2
          exact RetVO.err hX2.out rfl hF02
        | none =>
          have HNE := Lib.hid hnet
          have hE2 : E = if xm < 1 ∨ 16 < xm then some 1 else match (if (⟨xa, xn⟩ : Nt) ∈ sn then some 5 else none : Option Int) with | some k => some k | none => viewErrL (⟨xa, xn⟩ :: sn) (l.drop (k + 1)) := by
            rw [hE1]
            unfold viewErr1
            simp only [hnet]
            by_cases hm : xm < 1 ∨ 16 < xm
            · rw [if_pos hm, if_pos hm]
            · rw [if_neg hm, if_neg hm]
              rfl
          clear hnet hE1
          go_wp2_with (fail)
          refine (netFault_any xa xn _ hna).mono ?_
          rintro e1 w1 ⟨rfl, hF1⟩
          rw [HNE.out, show numO none = 0 from rfl]
          have hFr1 := hFb.trans hF1
          have hF01 := hF0b.trans hF1
          have hB := hBb.fr hF1 (fun h => h)
          have c0 := hB.cell 0
          have c1 := hB.cell 1
          have c2 := hB.cell 2
          have c3 := hB.cell 3
          have hbl := hB.lt
          simp only [List.getElem?_cons_succ, List.getElem?_cons_zero] at c0 c1 c2 c3
          have hO1 := hO.fr hFr1 (fun _ _ h => h)
          have hOs1 := hOs.fr hFr1 (fun _ _ h => h)
          have hosw := hOs.lt
          clear hO hOs hFb hF0b hBb hF1
          by_cases hm : xm < 1 ∨ 16 < xm
          · have hX2 := Lib.hid (hE2.trans (if_pos hm))
            clear hE2 hO1 hOs1
            go_wp2
            all_goals go_ret2
            all_goals exact RetVO.err hX2.out rfl hF01
          · have hE3 := hE2.trans (if_neg hm)
            have m1 : 1 ≤ xm := by omega
            have m2 : xm ≤ 16 := by omega
            clear hm hE2
            go_wp2_with (fail)
            refine (placesB_any seen ⟨xa, xn⟩ as' cs w1 (by unfold Recs; rw [HSL.out]; exact hOs1.rd) (by rw [HSL.out]; omega) HSL.out.symm).mono ?_
            rintro e2 w2 ⟨p, rfl, hF2, hp, -, -, -⟩
            by_cases hin : (⟨xa, xn⟩ : Nt) ∈ sn
            · have hX2 := Lib.hid (hE3.trans (by rw [if_pos hin]))
              rw [decide_eq_true ((hsn _).1 hin)] at hp
              have hp0 : decide (p ≥ 0) = true := hp
              have hF02 := hF01.trans hF2
              clear hE3 hin hp hO1 hOs1
              go_wp2
              go_ret2
              exact RetVO.err hX2.out rfl hF02
            · have hX2 := Lib.hid (hE3.trans (by rw [if_neg hin]))
              rw [decide_eq_false (fun h => hin ((hsn _).2 h))] at hp
              have hp0 : decide (p ≥ 0) = false := hp
              have hEn : Hid (∃ sn', E = viewErrL sn' (l.drop (k + 1)) ∧ ∀ q, q ∈ sn' ↔ q ∈ seen ++ [⟨xa, xn⟩]) := Lib.hid ⟨_, hX2.out, fun q => by
                rw [List.mem_cons, List.mem_append, List.mem_singleton, hsn q]
                exact Or.comm⟩
              have hF02 := hF01.trans hF2
              have hB2 := hB.fr hF2 (fun h => h)
              have c0' := hB2.cell 0
              have c1' := hB2.cell 1
              have c2' := hB2.cell 2
              have c3' := hB2.cell 3
              have hbl2 := hB2.lt
              simp only [List.getElem?_cons_succ, List.getElem?_cons_zero] at c0' c1' c2' c3'
              have hO2 := hO1.fr hF2 (fun _ _ h => h)
              have hOs2 := hOs1.fr hF2 (fun _ _ h => h)
              have hcat : Hid ((seen ++ [(⟨xa, xn⟩ : Nt)]).flatMap Nt.cells = seen.flatMap Nt.cells ++ [.int .u32 xa, .int .i64 xn]) := Lib.hid (by rw [List.flatMap_append]; rfl)
              have hrd := (Ownd.made w2 52 2 1 [.int .u32 xa, .int .i64 xn] rfl (by decide)).rd
              have HO2 := Lib.hid (hO2.alloc (.cells #[.int .u32 xa, .int .i64 xn] 52))
              have hol := hO2.lt
              have hcap := hO2.cap
              clear hE3 hin hp hO1 hOs1 c0 c1 c2 c3 hbl hB hO2
              go_wp2_with (at_builtin; refine wpList_app rfl _ _ 23 rfl Tryz.underlying23 infoNt rfl (by decide) rfl rfl (hOs2.alloc _) hrd (by simp [Value.oneCell']) (by omega) (by omega) ?_)
              intro a3 c3 w3 os3 z1 z2 z3
              have hF23 := ((Fr.refl (fun k => os = some k) w2).alloc (.cells #[.int .u32 xa, .int .i64 xn] 52)).trans z2
              have hF03 := Fr.app (hF02.alloc _) z2 hNs
              have hO3 := HO2.out.fr z2 (fun g hg h => hne g hg h)
              have hN3s : ∀ g, os3 = some g → w.heap.size ≤ g := app_new hNs z3 (by have := hF02.size; simp; omega)
              have hne3 : ∀ g, ob = some g → os3 ≠ some g := fun g hg h => by
                rcases z3 with z3 | ⟨g', z3, z4⟩
                · exact hne g hg (by rw [← z3, h])
                · rw [z3] at h
                  cases h
                  have h1 := hol g hg
                  have h2 : (w2.alloc (.cells #[.int .u32 xa, .int .i64 xn] 52)).heap.size = w2.heap.size + 1 := by simp
                  omega
              have hB3 := hB2.fr hF23 (fun h => by have := hosw _ h; omega)
              have e0 := hB3.cell 0
              have e1 := hB3.cell 1
              have e2 := hB3.cell 2
              have e3 := hB3.cell 3
              have hbl3 := hB3.lt
              simp only [List.getElem?_cons_succ, List.getElem?_cons_zero] at e0 e1 e2 e3
              have hOs3 : Ownd w3.heap 52 2 a3 (k + 1) c3 ((seen ++ [(⟨xa, xn⟩ : Nt)]).flatMap Nt.cells) os3 := by rw [hcat.out]; exact z1
              have HOS3 := Lib.hid hOs3
              have HO3 := Lib.hid hO3
              have HROW := Lib.hid hrow
              clear z1 z2 z3 hrd hOs2 hOs3 hO3 hB2 hB3 hrow c0' c1' c2' c3' hbl2 HO2
              have hxs : (seen ++ [(⟨xa, xn⟩ : Nt)]).length = k + 1 := by rw [List.length_append, HSL.out]; rfl
              have HXS := Lib.hid hxs
              clear hxs
              go_wp2_with (fail)
              refine (in2_any xh xA xC tq _ (HROW.out.fr0 hF03 (fun _ _ h => h)) rfl hxl).mono ?_
              rintro e4 w4 ⟨rfl, hw4⟩
              obtain rfl : w3 = w4 := hw4.symm
              by_cases hmem : tq ∈ xh
              · rw [decide_eq_true hmem]
                cases poison with
                | false =>
                  have hst : Hid (viewOut tq false (l.take (k + 1)) = viewOut tq false (l.take k)) := Lib.hid (by rw [HO1.out]; unfold viewStep; simp only; rw [if_pos hmem]; simp)
                  have hdm := decide_eq_true hmem
                  have HDM := Lib.hid hdm
                  clear hmem hdm
                  go_wp2_with (fail)
                  refine (in2_any xh xA xC tq _ (HROW.out.fr0 hF03 (fun _ _ h => h)) rfl hxl).mono ?_
                  rintro e5 w5 ⟨rfl, hw5⟩
                  obtain rfl : w3 = w5 := hw5.symm
                  rw [HDM.out]
                  go_wp2
                  go_roundw
                  case rel => exact ⟨k + 1, m, _, ao, a3, co, c3, ob, os3, xs, by omega, by go_num, rfl, rfl, by omega, HXS.out, HO3.out, hN, HOS3.out, hN3s, hne3, hF03, hEn, Lib.hid (by rw [hst.out]; exact hOut.out)⟩
                  case measure => simp [intOf]; omega
                | true =>
                  have hst : Hid (viewOut tq true (l.take (k + 1)) = viewOut tq true (l.take k) ++ [⟨xa, xn, 0, 0, 16⟩]) := Lib.hid (by rw [HO1.out]; unfold viewStep; simp only; rw [if_pos hmem]; rfl)
                  clear hmem
                  have hcs : (viewOut tq true (l.take (k + 1))).flatMap En.cells = (viewOut tq true (l.take k)).flatMap En.cells ++ [.int .u32 xa, .int .i64 xn, .int .i64 0, .int .u32 0, .int .i64 16] := by rw [hst.out, List.flatMap_append]; simp
                  have HCS := Lib.hid hcs
                  clear hcs
                  have hrd := (Ownd.made w3 87 5 1 [.int .u32 xa, .int .i64 xn, .int .i64 0, .int .u32 0, .int .i64 16] rfl (by decide)).rd
                  have hO5 := HO3.out.alloc (.cells #[.int .u32 xa, .int .i64 xn, .int .i64 0, .int .u32 0, .int .i64 16] 87)
                  have hF5 := hF03.alloc (.cells #[.int .u32 xa, .int .i64 xn, .int .i64 0, .int .u32 0, .int .i64 16] 87)
                  have hOs5 := Lib.hid (HOS3.out.alloc (.cells #[.int .u32 xa, .int .i64 xn, .int .i64 0, .int .u32 0, .int .i64 16] 87))
                  have hosl := HOS3.out.lt
                  go_wp2_with (at_builtin; refine wpList_app rfl _ _ 24 rfl Tryz.underlying24 infoEn rfl (by decide) rfl rfl hO5 hrd (by simp [Value.oneCell']) (by omega) (by omega) ?_)
                  intro a' c' w6 ob' z1 z2 z3
                  have hF6 := Fr.app hF5 z2 hN
                  have hN6 : ∀ g, ob' = some g → w.heap.size ≤ g := app_new hN z3 (by have := hF03.size; omega)
                  have hOs6 := hOs5.out.fr z2 (fun g hg h => hne3 g h hg)
                  have hne6 : ∀ g, ob' = some g → os3 ≠ some g := fun g hg h => by
                    rcases z3 with z3 | ⟨g', z3, z4⟩
                    · exact hne3 g (by rw [← z3, hg]) h
                    · rw [z3] at hg
                      cases hg
                      have h1 := hosl _ h
                      have h2 : (w3.alloc (.cells #[.int .u32 xa, .int .i64 xn, .int .i64 0, .int .u32 0, .int .i64 16] 87)).heap.size = w3.heap.size + 1 := by simp
                      omega
                  have hOut' : Hid (m + 1 = (viewOut tq true (l.take (k + 1))).length ∧ xs ++ [.int .u32 xa, .int .i64 xn, .int .i64 0, .int .u32 0, .int .i64 16] = (viewOut tq true (l.take (k + 1))).flatMap En.cells) := Lib.hid (by
                    rw [HCS.out, hst.out, ← hOut.out.2]
                    exact ⟨by rw [List.length_append, ← hOut.out.1]; rfl, rfl⟩)
                  have HO7 := Lib.hid z1
                  have HOS7 := Lib.hid hOs6
                  clear z1 z2 z3 hrd hO5 hOs6
                  go_wp2
                  go_roundw
                  case rel => exact ⟨k + 1, m + 1, _, a', a3, c', c3, ob', os3, _, by omega, by go_num, rfl, rfl, by omega, HXS.out, HO7.out, hN6, HOS7.out, hN3s, hne6, hF6, hEn, hOut'⟩
                  case measure => simp [intOf]; omega
              · rw [decide_eq_false hmem]
                have hst : Hid (viewOut tq poison (l.take (k + 1)) = viewOut tq poison (l.take k) ++ [⟨xa, xn, 0, 0, xm⟩]) := Lib.hid (by rw [HO1.out]; unfold viewStep; simp only; rw [if_neg hmem])
                cases poison with
                | false =>
                  have hdm := decide_eq_false hmem
                  have HDM := Lib.hid hdm
                  clear hmem hdm
                  go_wp2_with (fail)
                  refine (in2_any xh xA xC tq _ (HROW.out.fr0 hF03 (fun _ _ h => h)) rfl hxl).mono ?_
                  rintro e5 w5 ⟨rfl, hw5⟩
                  obtain rfl : w3 = w5 := hw5.symm
                  rw [HDM.out]
                  have hcs : (viewOut tq false (l.take (k + 1))).flatMap En.cells = (viewOut tq false (l.take k)).flatMap En.cells ++ [.int .u32 xa, .int .i64 xn, .int .i64 0, .int .u32 0, .int .i64 xm] := by rw [hst.out, List.flatMap_append]; simp
                  have HCS := Lib.hid hcs
                  clear hcs
                  have hrd := (Ownd.made w3 87 5 1 [.int .u32 xa, .int .i64 xn, .int .i64 0, .int .u32 0, .int .i64 xm] rfl (by decide)).rd
                  have hO5 := HO3.out.alloc (.cells #[.int .u32 xa, .int .i64 xn, .int .i64 0, .int .u32 0, .int .i64 xm] 87)
                  have hF5 := hF03.alloc (.cells #[.int .u32 xa, .int .i64 xn, .int .i64 0, .int .u32 0, .int .i64 xm] 87)
                  have hOs5 := Lib.hid (HOS3.out.alloc (.cells #[.int .u32 xa, .int .i64 xn, .int .i64 0, .int .u32 0, .int .i64 xm] 87))
                  have hosl := HOS3.out.lt
                  go_wp2_with (at_builtin; refine wpList_app rfl _ _ 24 rfl Tryz.underlying24 infoEn rfl (by decide) rfl rfl hO5 hrd (by simp [Value.oneCell']) (by omega) (by omega) ?_)
                  intro a' c' w6 ob' z1 z2 z3
                  have hF6 := Fr.app hF5 z2 hN
                  have hN6 : ∀ g, ob' = some g → w.heap.size ≤ g := app_new hN z3 (by have := hF03.size; omega)
                  have hOs6 := hOs5.out.fr z2 (fun g hg h => hne3 g h hg)
                  have hne6 : ∀ g, ob' = some g → os3 ≠ some g := fun g hg h => by
                    rcases z3 with z3 | ⟨g', z3, z4⟩
                    · exact hne3 g (by rw [← z3, hg]) h
                    · rw [z3] at hg
                      cases hg
                      have h1 := hosl _ h
                      have h2 : (w3.alloc (.cells #[.int .u32 xa, .int .i64 xn, .int .i64 0, .int .u32 0, .int .i64 xm] 87)).heap.size = w3.heap.size + 1 := by simp
                      omega
                  have hOut' : Hid (m + 1 = (viewOut tq false (l.take (k + 1))).length ∧ xs ++ [.int .u32 xa, .int .i64 xn, .int .i64 0, .int .u32 0, .int .i64 xm] = (viewOut tq false (l.take (k + 1))).flatMap En.cells) := Lib.hid (by
                    rw [HCS.out, hst.out, ← hOut.out.2]
                    exact ⟨by rw [List.length_append, ← hOut.out.1]; rfl, rfl⟩)
                  have HO7 := Lib.hid z1
                  have HOS7 := Lib.hid hOs6
                  clear z1 z2 z3 hrd hO5 hOs6
                  go_wp2
                  go_roundw
                  case rel => exact ⟨k + 1, m + 1, _, a', a3, c', c3, ob', os3, _, by omega, by go_num, rfl, rfl, by omega, HXS.out, HO7.out, hN6, HOS7.out, hN3s, hne6, hF6, hEn, hOut'⟩
                  case measure => simp [intOf]; omega
                | true =>
                  clear hmem
                  have hcs : (viewOut tq true (l.take (k + 1))).flatMap En.cells = (viewOut tq true (l.take k)).flatMap En.cells ++ [.int .u32 xa, .int .i64 xn, .int .i64 0, .int .u32 0, .int .i64 xm] := by rw [hst.out, List.flatMap_append]; simp
                  have HCS := Lib.hid hcs
                  clear hcs
                  have hrd := (Ownd.made w3 87 5 1 [.int .u32 xa, .int .i64 xn, .int .i64 0, .int .u32 0, .int .i64 xm] rfl (by decide)).rd
                  have hO5 := HO3.out.alloc (.cells #[.int .u32 xa, .int .i64 xn, .int .i64 0, .int .u32 0, .int .i64 xm] 87)
                  have hF5 := hF03.alloc (.cells #[.int .u32 xa, .int .i64 xn, .int .i64 0, .int .u32 0, .int .i64 xm] 87)
                  have hOs5 := Lib.hid (HOS3.out.alloc (.cells #[.int .u32 xa, .int .i64 xn, .int .i64 0, .int .u32 0, .int .i64 xm] 87))
                  have hosl := HOS3.out.lt
                  go_wp2_with (at_builtin; refine wpList_app rfl _ _ 24 rfl Tryz.underlying24 infoEn rfl (by decide) rfl rfl hO5 hrd (by simp [Value.oneCell']) (by omega) (by omega) ?_)
                  intro a' c' w6 ob' z1 z2 z3
                  have hF6 := Fr.app hF5 z2 hN
                  have hN6 : ∀ g, ob' = some g → w.heap.size ≤ g := app_new hN z3 (by have := hF03.size; omega)
                  have hOs6 := hOs5.out.fr z2 (fun g hg h => hne3 g h hg)
                  have hne6 : ∀ g, ob' = some g → os3 ≠ some g := fun g hg h => by
                    rcases z3 with z3 | ⟨g', z3, z4⟩
                    · exact hne3 g (by rw [← z3, hg]) h
                    · rw [z3] at hg
                      cases hg
                      have h1 := hosl _ h
                      have h2 : (w3.alloc (.cells #[.int .u32 xa, .int .i64 xn, .int .i64 0, .int .u32 0, .int .i64 xm] 87)).heap.size = w3.heap.size + 1 := by simp
                      omega
                  have hOut' : Hid (m + 1 = (viewOut tq true (l.take (k + 1))).length ∧ xs ++ [.int .u32 xa, .int .i64 xn, .int .i64 0, .int .u32 0, .int .i64 xm] = (viewOut tq true (l.take (k + 1))).flatMap En.cells) := Lib.hid (by
                    rw [HCS.out, hst.out, ← hOut.out.2]
                    exact ⟨by rw [List.length_append, ← hOut.out.1]; rfl, rfl⟩)
                  have HO7 := Lib.hid z1
                  have HOS7 := Lib.hid hOs6
                  clear z1 z2 z3 hrd hO5 hOs6
                  go_wp2
                  go_roundw
                  case rel => exact ⟨k + 1, m + 1, _, a', a3, c', c3, ob', os3, _, by omega, by go_num, rfl, rfl, by omega, HXS.out, HO7.out, hN6, HOS7.out, hN3s, hne6, hF6, hEn, hOut'⟩
                  case measure => simp [intOf]; omega
      · obtain rfl : k = l.length := by omega
        have hX2 : Hid (E = none) := Lib.hid (by obtain ⟨sn, h, -⟩ := hEk.out; rw [h, List.drop_length]; rfl)
        have hOut2 : Hid (m = (viewOut tq poison l).length ∧ xs = (viewOut tq poison l).flatMap En.cells) := Lib.hid (by have := hOut.out; rwa [List.take_length] at this)
        go_wp2
        go_ret2
        exact RetVO.ok hX2.out rfl hOut2.out.1 hOut2.out.2 hO hF hN
end Go.Proofs.YtfglidaicjjpfaaGreatDoor
end
