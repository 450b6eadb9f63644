import Derived.Test.YtfglidaicjjpfaaGreatDoorQTel3
import Derived.Test.YtfglidaicjjpfaaGreatDoorQTel23
section
namespace Go.Proofs.YtfglidaicjjpfaaGreatDoor
open Go.RowKit

theorem infoQT : (Tryz.prog.info? 107).map (fun i => (i.zero, i.size, i.bytes)) = some (some (.agg #[.int .i64 0, .int .u32 0, .int .i64 0, .int .i64 0, .int .i64 0]), 5, 40) := by kernel_rfl

set_option maxRecDepth 100000 in
set_option maxHeartbeats 1000000 in
theorem timeFault_any (now0 f now : Int) (a : Option Addr) (n c : Nat) (w : World) : Calls Tryz.prog 82 #[.agg #[.int .i64 now0, .slice a n c], .int .i64 f, .int .i64 now] w (RetV w (.int .i64 (numO (ckO now0 f now)))) := by
  obtain ⟨E, hE⟩ : ∃ E, E = numO (ckO now0 f now) := ⟨_, rfl⟩
  rw [← hE]
  have hb : Hid (ckErr now0 f now → E = 1) := Lib.hid (fun h => by rw [hE]; unfold ckO; rw [if_pos h]; rfl)
  have hc : Hid (¬ ckErr now0 f now → E = 0) := Lib.hid (fun h => by rw [hE]; unfold ckO; rw [if_neg h]; rfl)
  clear hE
  have q : now < now0 ∨ (now0 ≤ now ∧ 1099511627776 < now) ∨ (now0 ≤ now ∧ now ≤ 1099511627776 ∧ f < 0) ∨ (now0 ≤ now ∧ now ≤ 1099511627776 ∧ 0 ≤ f ∧ 8 ≤ f) ∨ (now0 ≤ now ∧ now ≤ 1099511627776 ∧ 0 ≤ f ∧ f < 8) := by omega
  rcases q with q1 | ⟨q1, q2⟩ | ⟨q1, q2, q3⟩ | ⟨q1, q2, q3, q4⟩ | ⟨q1, q2, q3, q4⟩
  · have hX := Lib.hid (hb.out (by unfold ckErr; omega))
    go_enter Tryz.func82, Tryz.ntmps82
    go_wp2
    go_ret
    exact RetV.mk (x := .int .i64 1) (by rw [hX.out]) rfl ((Fr.refl _ _).alloc _)
  · have hX := Lib.hid (hb.out (by unfold ckErr; omega))
    go_enter Tryz.func82, Tryz.ntmps82
    go_wp2
    go_ret
    exact RetV.mk (x := .int .i64 1) (by rw [hX.out]) rfl ((Fr.refl _ _).alloc _)
  · have hX := Lib.hid (hb.out (by unfold ckErr; omega))
    go_enter Tryz.func82, Tryz.ntmps82
    go_wp2
    go_ret
    exact RetV.mk (x := .int .i64 1) (by rw [hX.out]) rfl ((Fr.refl _ _).alloc _)
  · have hX := Lib.hid (hb.out (by unfold ckErr; omega))
    go_enter Tryz.func82, Tryz.ntmps82
    go_wp2
    go_ret
    exact RetV.mk (x := .int .i64 1) (by rw [hX.out]) rfl ((Fr.refl _ _).alloc _)
  · have hX := Lib.hid (hc.out (by unfold ckErr; omega))
    go_enter Tryz.func82, Tryz.ntmps82
    go_wp2
    go_ret
    exact RetV.mk (x := .int .i64 0) (by rw [hX.out]) rfl ((Fr.refl _ _).alloc _)

/-- A rib by value, its list in new memory. -/
def RetRib (w : World) (now : Int) (l : List Td) (e : Ending) (w' : World) : Prop :=
  ∃ a c ob, e = .returned (.agg #[.int .i64 now, .slice a l.length c]) ∧ Ownd w'.heap 107 5 a l.length c (l.flatMap Td.cells) ob ∧ Fr (fun _ => False) w w' ∧ (∀ g, ob = some g → w.heap.size ≤ g)
theorem RetRib.mk {w w' : World} {now : Int} {l : List Td} {a : Option Addr} {m c : Nat} {ob : Option Nat} {xs : List Value} {e : Ending} (he : e = .returned (.agg #[.int .i64 now, .slice a m c])) (hm : m = l.length) (hx : xs = l.flatMap Td.cells) (hO : Ownd w'.heap 107 5 a m c xs ob) (hF : Fr (fun _ => False) w w') (hN : ∀ g, ob = some g → w.heap.size ≤ g) : RetRib w now l e w' := by
  subst hm; subst hx; exact ⟨a, c, ob, he, hO, hF, hN⟩
theorem rAged_snoc (now : Int) (l : List Td) {k : Nat} (h : k < l.length) : rAged now (l.take (k + 1)) = rAged now (l.take k) ++ (age1 now (nth l k)).toList := by
  unfold rAged
  rw [take_succ_nth l k h, List.filterMap_append]
  congr 1

set_option maxRecDepth 100000 in
set_option maxHeartbeats 8000000 in
theorem qaged_any (l : List Td) (a : Option Addr) (c : Nat) (now0 now : Int) (w : World) (hL : Recs w.heap a 5 Td.cells l) (hb : RibOk now0 l) (hn : now0 ≤ now) (hm : now ≤ 1099511627776) :
    Calls Tryz.prog 23 #[.agg #[.int .i64 now0, .slice a l.length c], .int .i64 now] w (RetRib w now (rAged now l)) := by
  have hll := hb.len
  have HB := Lib.hid hb
  have HL := Lib.hid hL
  have hn0 := hb.n0
  clear hb hL
  go_enter Tryz.func23, Tryz.ntmps23
  go_wp2
  go_loopw [6] (fun s6 wr => ∃ (k m : Nat) (ao : Option Addr) (co : Nat) (ob : Option Nat) (xs : List Value), k ≤ l.length ∧ s6 = .int .i64 k ∧ m ≤ k ∧ Blk wr.heap w.heap.size 56 [.int .i64 now0, .slice a l.length c] ∧ Blk wr.heap (w.heap.size + 2) 56 [.int .i64 now, .slice ao m co] ∧ Blk wr.heap (w.heap.size + 1) 56 [.int .i64 0, .slice none 0 0] ∧ Ownd wr.heap 107 5 ao m co xs ob ∧ (∀ g, ob = some g → w.heap.size + 3 ≤ g) ∧ Fr (fun _ => False) w wr ∧ Hid (m = (rAged now (l.take k)).length ∧ xs = (rAged now (l.take k)).flatMap Td.cells)) (fun s _ => l.length - (intOf s).toNat)
  case atStart =>
    refine ⟨0, 0, none, 0, none, [], by omega, rfl, by omega, ?_, ?_, ?_, Ownd.nil _ _ _, (fun _ h => nomatch h), (((Fr.refl _ _).alloc _).alloc _).alloc _, Lib.hid ⟨rfl, rfl⟩⟩
    · exact ((Blk.made w 56 [.int .i64 now0, .slice a l.length c]).alloc _).alloc _
    · have := Blk.made ((w.alloc (.cells #[.int .i64 now0, .slice a l.length c] 56)).alloc (.cells #[.int .i64 0, .slice none 0 0] 56)) 56 [.int .i64 now, .slice none 0 0]
      rwa [show ((w.alloc (.cells #[.int .i64 now0, .slice a l.length c] 56)).alloc (.cells #[.int .i64 0, .slice none 0 0] 56)).heap.size = w.heap.size + 2 by simp] at this
    · have := (Blk.made (w.alloc (.cells #[.int .i64 now0, .slice a l.length c] 56)) 56 [.int .i64 0, .slice none 0 0]).alloc (.cells #[.int .i64 now, .slice none 0 0] 56)
      rwa [show (w.alloc (.cells #[.int .i64 now0, .slice a l.length c] 56)).heap.size = w.heap.size + 1 by simp] at this
  case round =>
    obtain ⟨k, m, ao, co, ob, xs, hk, rfl, hmk, hB0, hB2, hB1, hO, hN, hF, hX⟩ := hrel
    have b00 := hB0.cell 0
    have b01 := hB0.cell 1
    have b20 := hB2.cell 0
    have b21 := hB2.cell 1
    have b10 := hB1.cell 0
    have b11 := hB1.cell 1
    have f10 := hB1.frozen 0
    have f11 := hB1.frozen 1
    simp only [List.getElem?_cons_succ, List.getElem?_cons_zero] at b00 b01 b20 b21 b10 b11
    have hws := hB2.lt
    by_cases hkl : k < l.length
    · have hx := HB.out.each _ (nth_mem l k hkl)
      have hsn := rAged_snoc now l hkl
      obtain ⟨g1, o1, rfl, hg1, hc1⟩ := Recs.pos HL.out Td.cells_len (by omega) (by omega)
      have dd := fun (j : Nat) (hj : j < 5) => (hF.cell (p := ⟨g1, o1 + (k * 5 + j), none⟩) hg1 (fun h => h)).trans (hc1 w rfl k j hkl hj)
      have d0 := dd 0 (by omega)
      have d1 := dd 1 (by omega)
      have d2 := dd 2 (by omega)
      have d3 := dd 3 (by omega)
      have d4 := dd 4 (by omega)
      generalize nth l k = x at *
      obtain ⟨xf, xa, xn, xm, xt⟩ := x
      simp only [Td.cells, List.getElem?_cons_zero, List.getElem?_cons_succ, ← Nat.add_assoc, Nat.add_zero] at d0 d1 d2 d3 d4
      have x1 := hx.t0
      have x2 := hx.t1
      simp only at x1 x2
      have HSN := Lib.hid hsn
      clear dd hc1 hx hsn
      by_cases c1 : xm < 16
      · by_cases c2 : 180 ≤ now - xt
        · by_cases c3 : now - (xt + 180) < 120
          · have HA : Hid (age1 now ⟨xf, xa, xn, xm, xt⟩ = some ⟨xf, xa, xn, 16, xt + 180⟩) := Lib.hid (by unfold age1; rw [if_pos ⟨c1, c2⟩, if_pos c3])
            have hcs : Hid ((rAged now (l.take (k + 1))).flatMap Td.cells = (rAged now (l.take k)).flatMap Td.cells ++ [.int .i64 xf, .int .u32 xa, .int .i64 xn, .int .i64 16, .int .i64 (xt + 180)] ∧ (rAged now (l.take (k + 1))).length = (rAged now (l.take k)).length + 1) := Lib.hid (by rw [HSN.out, HA.out, List.flatMap_append, List.length_append]; exact ⟨rfl, rfl⟩)
            have hF1 := (hF.alloc (.cells #[.int .i64 xf, .int .u32 xa, .int .i64 xn, .int .i64 16, .int .i64 (xt + 180)] 107)).alloc (.cells #[.int .i64 xf, .int .u32 xa, .int .i64 xn, .int .i64 16, .int .i64 (xt + 180)] 107)
            have hO1 := (hO.alloc (.cells #[.int .i64 xf, .int .u32 xa, .int .i64 xn, .int .i64 16, .int .i64 (xt + 180)] 107)).alloc (.cells #[.int .i64 xf, .int .u32 xa, .int .i64 xn, .int .i64 16, .int .i64 (xt + 180)] 107)
            have hrd := rd_lit1 wr (.cells #[.int .i64 xf, .int .u32 xa, .int .i64 xn, .int .i64 16, .int .i64 (xt + 180)] 107) 107 [.int .i64 xf, .int .u32 xa, .int .i64 xn, .int .i64 16, .int .i64 (xt + 180)]
            have HB0 := Lib.hid ((hB0.alloc (.cells #[.int .i64 xf, .int .u32 xa, .int .i64 xn, .int .i64 16, .int .i64 (xt + 180)] 107)).alloc (.cells #[.int .i64 xf, .int .u32 xa, .int .i64 xn, .int .i64 16, .int .i64 (xt + 180)] 107))
            have HB1 := Lib.hid ((hB1.alloc (.cells #[.int .i64 xf, .int .u32 xa, .int .i64 xn, .int .i64 16, .int .i64 (xt + 180)] 107)).alloc (.cells #[.int .i64 xf, .int .u32 xa, .int .i64 xn, .int .i64 16, .int .i64 (xt + 180)] 107))
            have HB2 := Lib.hid ((hB2.alloc (.cells #[.int .i64 xf, .int .u32 xa, .int .i64 xn, .int .i64 16, .int .i64 (xt + 180)] 107)).alloc (.cells #[.int .i64 xf, .int .u32 xa, .int .i64 xn, .int .i64 16, .int .i64 (xt + 180)] 107))
            clear hO hB0 hB1 hB2
            go_wp2_with (at_builtin; refine wpList_app rfl _ _ 54 rfl Tryz.underlying54 infoQT rfl (by decide) rfl rfl hO1 hrd (by simp [Value.oneCell']) (by omega) (by omega) ?_)
            intro a3 c3 w3 ob3 z1 z2 z3
            have hF3 := Fr.app hF1 z2 (fun g hg => by have := hN g hg; omega)
            have B0 := HB0.out.fr z2 (fun h => by have := hN _ h; omega)
            have B1 := HB1.out.fr z2 (fun h => by have := hN _ h; omega)
            have B2 := HB2.out.fr z2 (fun h => by have := hN _ h; omega)
            have hN3 : ∀ g, ob3 = some g → w.heap.size + 3 ≤ g := app_new hN z3 (by simp; omega)
            have b21' := B2.cell 1
            have f21' := B2.frozen 1
            simp only [List.getElem?_cons_succ, List.getElem?_cons_zero] at b21'
            have C0 := Lib.hid (B0.other (p := ⟨w.heap.size + 2, 1, none⟩) (by simp) (.slice a3 (m + 1) c3))
            have C1 := Lib.hid (B1.other (p := ⟨w.heap.size + 2, 1, none⟩) (by simp) (.slice a3 (m + 1) c3))
            have C2 := Lib.hid (B2.set 1 (.slice a3 (m + 1) c3))
            have CO := Lib.hid (z1.other (p := ⟨w.heap.size + 2, 1, none⟩) (fun h => by have h2 : ob3 = some (w.heap.size + 2) := h; have := hN3 _ h2; omega) (.slice a3 (m + 1) c3))
            have CF := Lib.hid (hF3.setCell (p := ⟨w.heap.size + 2, 1, none⟩) (fun h => by have h2 : w.heap.size + 2 < w.heap.size := h; omega) (.slice a3 (m + 1) c3))
            have hout : Hid (m + 1 = (rAged now (l.take (k + 1))).length ∧ xs ++ [.int .i64 xf, .int .u32 xa, .int .i64 xn, .int .i64 16, .int .i64 (xt + 180)] = (rAged now (l.take (k + 1))).flatMap Td.cells) := Lib.hid (by rw [hcs.out.1, hcs.out.2, ← hX.out.1, ← hX.out.2]; exact ⟨rfl, rfl⟩)
            clear z1 z2 z3 hrd hO1 B0 B1 B2 hF3 hF1
            go_wp2
            go_roundw
            case rel => exact ⟨k + 1, m + 1, a3, c3, ob3, _, by omega, by go_num, by omega, C0.out, C2.out, C1.out, CO.out, hN3, CF.out, hout⟩
            case measure => simp [intOf]; omega
          · have HA : Hid (age1 now ⟨xf, xa, xn, xm, xt⟩ = none) := Lib.hid (by unfold age1; rw [if_pos ⟨c1, c2⟩, if_neg c3])
            have hcs : Hid (rAged now (l.take (k + 1)) = rAged now (l.take k)) := Lib.hid (by rw [HSN.out, HA.out]; simp)
            have hF1 := hF.alloc (.cells #[.int .i64 xf, .int .u32 xa, .int .i64 xn, .int .i64 16, .int .i64 (xt + 180)] 107)
            have hO1 := Lib.hid (hO.alloc (.cells #[.int .i64 xf, .int .u32 xa, .int .i64 xn, .int .i64 16, .int .i64 (xt + 180)] 107))
            have HB0 := Lib.hid (hB0.alloc (.cells #[.int .i64 xf, .int .u32 xa, .int .i64 xn, .int .i64 16, .int .i64 (xt + 180)] 107))
            have HB1 := Lib.hid (hB1.alloc (.cells #[.int .i64 xf, .int .u32 xa, .int .i64 xn, .int .i64 16, .int .i64 (xt + 180)] 107))
            have HB2 := Lib.hid (hB2.alloc (.cells #[.int .i64 xf, .int .u32 xa, .int .i64 xn, .int .i64 16, .int .i64 (xt + 180)] 107))
            clear hO hB0 hB1 hB2
            go_wp2
            go_roundw
            case rel => exact ⟨k + 1, m, ao, co, ob, xs, by omega, by go_num, by omega, HB0.out, HB2.out, HB1.out, hO1.out, hN, hF1, Lib.hid (by rw [hcs.out]; exact hX.out)⟩
            case measure => simp [intOf]; omega
        · have HA : Hid (age1 now ⟨xf, xa, xn, xm, xt⟩ = some ⟨xf, xa, xn, xm, xt⟩) := Lib.hid (by unfold age1; rw [if_neg (fun h => c2 h.2), if_pos (.inl c1)])
          have hcs : Hid ((rAged now (l.take (k + 1))).flatMap Td.cells = (rAged now (l.take k)).flatMap Td.cells ++ [.int .i64 xf, .int .u32 xa, .int .i64 xn, .int .i64 xm, .int .i64 xt] ∧ (rAged now (l.take (k + 1))).length = (rAged now (l.take k)).length + 1) := Lib.hid (by rw [HSN.out, HA.out, List.flatMap_append, List.length_append]; exact ⟨rfl, rfl⟩)
          have hF1 := (hF.alloc (.cells #[.int .i64 xf, .int .u32 xa, .int .i64 xn, .int .i64 xm, .int .i64 xt] 107)).alloc (.cells #[.int .i64 xf, .int .u32 xa, .int .i64 xn, .int .i64 xm, .int .i64 xt] 107)
          have hO1 := (hO.alloc (.cells #[.int .i64 xf, .int .u32 xa, .int .i64 xn, .int .i64 xm, .int .i64 xt] 107)).alloc (.cells #[.int .i64 xf, .int .u32 xa, .int .i64 xn, .int .i64 xm, .int .i64 xt] 107)
          have hrd := rd_lit1 wr (.cells #[.int .i64 xf, .int .u32 xa, .int .i64 xn, .int .i64 xm, .int .i64 xt] 107) 107 [.int .i64 xf, .int .u32 xa, .int .i64 xn, .int .i64 xm, .int .i64 xt]
          have HB0 := Lib.hid ((hB0.alloc (.cells #[.int .i64 xf, .int .u32 xa, .int .i64 xn, .int .i64 xm, .int .i64 xt] 107)).alloc (.cells #[.int .i64 xf, .int .u32 xa, .int .i64 xn, .int .i64 xm, .int .i64 xt] 107))
          have HB1 := Lib.hid ((hB1.alloc (.cells #[.int .i64 xf, .int .u32 xa, .int .i64 xn, .int .i64 xm, .int .i64 xt] 107)).alloc (.cells #[.int .i64 xf, .int .u32 xa, .int .i64 xn, .int .i64 xm, .int .i64 xt] 107))
          have HB2 := Lib.hid ((hB2.alloc (.cells #[.int .i64 xf, .int .u32 xa, .int .i64 xn, .int .i64 xm, .int .i64 xt] 107)).alloc (.cells #[.int .i64 xf, .int .u32 xa, .int .i64 xn, .int .i64 xm, .int .i64 xt] 107))
          clear hO hB0 hB1 hB2
          go_wp2_with (at_builtin; refine wpList_app rfl _ _ 54 rfl Tryz.underlying54 infoQT rfl (by decide) rfl rfl hO1 hrd (by simp [Value.oneCell']) (by omega) (by omega) ?_)
          intro a3 c3 w3 ob3 z1 z2 z3
          have hF3 := Fr.app hF1 z2 (fun g hg => by have := hN g hg; omega)
          have B0 := HB0.out.fr z2 (fun h => by have := hN _ h; omega)
          have B1 := HB1.out.fr z2 (fun h => by have := hN _ h; omega)
          have B2 := HB2.out.fr z2 (fun h => by have := hN _ h; omega)
          have hN3 : ∀ g, ob3 = some g → w.heap.size + 3 ≤ g := app_new hN z3 (by simp; omega)
          have b21' := B2.cell 1
          have f21' := B2.frozen 1
          simp only [List.getElem?_cons_succ, List.getElem?_cons_zero] at b21'
          have C0 := Lib.hid (B0.other (p := ⟨w.heap.size + 2, 1, none⟩) (by simp) (.slice a3 (m + 1) c3))
          have C1 := Lib.hid (B1.other (p := ⟨w.heap.size + 2, 1, none⟩) (by simp) (.slice a3 (m + 1) c3))
          have C2 := Lib.hid (B2.set 1 (.slice a3 (m + 1) c3))
          have CO := Lib.hid (z1.other (p := ⟨w.heap.size + 2, 1, none⟩) (fun h => by have h2 : ob3 = some (w.heap.size + 2) := h; have := hN3 _ h2; omega) (.slice a3 (m + 1) c3))
          have CF := Lib.hid (hF3.setCell (p := ⟨w.heap.size + 2, 1, none⟩) (fun h => by have h2 : w.heap.size + 2 < w.heap.size := h; omega) (.slice a3 (m + 1) c3))
          have hout : Hid (m + 1 = (rAged now (l.take (k + 1))).length ∧ xs ++ [.int .i64 xf, .int .u32 xa, .int .i64 xn, .int .i64 xm, .int .i64 xt] = (rAged now (l.take (k + 1))).flatMap Td.cells) := Lib.hid (by rw [hcs.out.1, hcs.out.2, ← hX.out.1, ← hX.out.2]; exact ⟨rfl, rfl⟩)
          clear z1 z2 z3 hrd hO1 B0 B1 B2 hF3 hF1
          go_wp2
          go_roundw
          case rel => exact ⟨k + 1, m + 1, a3, c3, ob3, _, by omega, by go_num, by omega, C0.out, C2.out, C1.out, CO.out, hN3, CF.out, hout⟩
          case measure => simp [intOf]; omega
      · by_cases c3 : now - xt < 120
        · have HA : Hid (age1 now ⟨xf, xa, xn, xm, xt⟩ = some ⟨xf, xa, xn, xm, xt⟩) := Lib.hid (by unfold age1; rw [if_neg (fun h => c1 h.1), if_pos (.inr c3)])
          have hcs : Hid ((rAged now (l.take (k + 1))).flatMap Td.cells = (rAged now (l.take k)).flatMap Td.cells ++ [.int .i64 xf, .int .u32 xa, .int .i64 xn, .int .i64 xm, .int .i64 xt] ∧ (rAged now (l.take (k + 1))).length = (rAged now (l.take k)).length + 1) := Lib.hid (by rw [HSN.out, HA.out, List.flatMap_append, List.length_append]; exact ⟨rfl, rfl⟩)
          have hF1 := (hF.alloc (.cells #[.int .i64 xf, .int .u32 xa, .int .i64 xn, .int .i64 xm, .int .i64 xt] 107)).alloc (.cells #[.int .i64 xf, .int .u32 xa, .int .i64 xn, .int .i64 xm, .int .i64 xt] 107)
          have hO1 := (hO.alloc (.cells #[.int .i64 xf, .int .u32 xa, .int .i64 xn, .int .i64 xm, .int .i64 xt] 107)).alloc (.cells #[.int .i64 xf, .int .u32 xa, .int .i64 xn, .int .i64 xm, .int .i64 xt] 107)
          have hrd := rd_lit1 wr (.cells #[.int .i64 xf, .int .u32 xa, .int .i64 xn, .int .i64 xm, .int .i64 xt] 107) 107 [.int .i64 xf, .int .u32 xa, .int .i64 xn, .int .i64 xm, .int .i64 xt]
          have HB0 := Lib.hid ((hB0.alloc (.cells #[.int .i64 xf, .int .u32 xa, .int .i64 xn, .int .i64 xm, .int .i64 xt] 107)).alloc (.cells #[.int .i64 xf, .int .u32 xa, .int .i64 xn, .int .i64 xm, .int .i64 xt] 107))
          have HB1 := Lib.hid ((hB1.alloc (.cells #[.int .i64 xf, .int .u32 xa, .int .i64 xn, .int .i64 xm, .int .i64 xt] 107)).alloc (.cells #[.int .i64 xf, .int .u32 xa, .int .i64 xn, .int .i64 xm, .int .i64 xt] 107))
          have HB2 := Lib.hid ((hB2.alloc (.cells #[.int .i64 xf, .int .u32 xa, .int .i64 xn, .int .i64 xm, .int .i64 xt] 107)).alloc (.cells #[.int .i64 xf, .int .u32 xa, .int .i64 xn, .int .i64 xm, .int .i64 xt] 107))
          clear hO hB0 hB1 hB2
          go_wp2_with (at_builtin; refine wpList_app rfl _ _ 54 rfl Tryz.underlying54 infoQT rfl (by decide) rfl rfl hO1 hrd (by simp [Value.oneCell']) (by omega) (by omega) ?_)
          intro a3 c3 w3 ob3 z1 z2 z3
          have hF3 := Fr.app hF1 z2 (fun g hg => by have := hN g hg; omega)
          have B0 := HB0.out.fr z2 (fun h => by have := hN _ h; omega)
          have B1 := HB1.out.fr z2 (fun h => by have := hN _ h; omega)
          have B2 := HB2.out.fr z2 (fun h => by have := hN _ h; omega)
          have hN3 : ∀ g, ob3 = some g → w.heap.size + 3 ≤ g := app_new hN z3 (by simp; omega)
          have b21' := B2.cell 1
          have f21' := B2.frozen 1
          simp only [List.getElem?_cons_succ, List.getElem?_cons_zero] at b21'
          have C0 := Lib.hid (B0.other (p := ⟨w.heap.size + 2, 1, none⟩) (by simp) (.slice a3 (m + 1) c3))
          have C1 := Lib.hid (B1.other (p := ⟨w.heap.size + 2, 1, none⟩) (by simp) (.slice a3 (m + 1) c3))
          have C2 := Lib.hid (B2.set 1 (.slice a3 (m + 1) c3))
          have CO := Lib.hid (z1.other (p := ⟨w.heap.size + 2, 1, none⟩) (fun h => by have h2 : ob3 = some (w.heap.size + 2) := h; have := hN3 _ h2; omega) (.slice a3 (m + 1) c3))
          have CF := Lib.hid (hF3.setCell (p := ⟨w.heap.size + 2, 1, none⟩) (fun h => by have h2 : w.heap.size + 2 < w.heap.size := h; omega) (.slice a3 (m + 1) c3))
          have hout : Hid (m + 1 = (rAged now (l.take (k + 1))).length ∧ xs ++ [.int .i64 xf, .int .u32 xa, .int .i64 xn, .int .i64 xm, .int .i64 xt] = (rAged now (l.take (k + 1))).flatMap Td.cells) := Lib.hid (by rw [hcs.out.1, hcs.out.2, ← hX.out.1, ← hX.out.2]; exact ⟨rfl, rfl⟩)
          clear z1 z2 z3 hrd hO1 B0 B1 B2 hF3 hF1
          go_wp2
          go_roundw
          case rel => exact ⟨k + 1, m + 1, a3, c3, ob3, _, by omega, by go_num, by omega, C0.out, C2.out, C1.out, CO.out, hN3, CF.out, hout⟩
          case measure => simp [intOf]; omega
        · have HA : Hid (age1 now ⟨xf, xa, xn, xm, xt⟩ = none) := Lib.hid (by unfold age1; rw [if_neg (fun h => c1 h.1), if_neg (fun h => h.elim c1 c3)])
          have hcs : Hid (rAged now (l.take (k + 1)) = rAged now (l.take k)) := Lib.hid (by rw [HSN.out, HA.out]; simp)
          have hF1 := hF.alloc (.cells #[.int .i64 xf, .int .u32 xa, .int .i64 xn, .int .i64 xm, .int .i64 xt] 107)
          have hO1 := Lib.hid (hO.alloc (.cells #[.int .i64 xf, .int .u32 xa, .int .i64 xn, .int .i64 xm, .int .i64 xt] 107))
          have HB0 := Lib.hid (hB0.alloc (.cells #[.int .i64 xf, .int .u32 xa, .int .i64 xn, .int .i64 xm, .int .i64 xt] 107))
          have HB1 := Lib.hid (hB1.alloc (.cells #[.int .i64 xf, .int .u32 xa, .int .i64 xn, .int .i64 xm, .int .i64 xt] 107))
          have HB2 := Lib.hid (hB2.alloc (.cells #[.int .i64 xf, .int .u32 xa, .int .i64 xn, .int .i64 xm, .int .i64 xt] 107))
          clear hO hB0 hB1 hB2
          go_wp2
          go_roundw
          case rel => exact ⟨k + 1, m, ao, co, ob, xs, by omega, by go_num, by omega, HB0.out, HB2.out, HB1.out, hO1.out, hN, hF1, Lib.hid (by rw [hcs.out]; exact hX.out)⟩
          case measure => simp [intOf]; omega
    · obtain rfl : k = l.length := by omega
      have hout : Hid (m = (rAged now l).length ∧ xs = (rAged now l).flatMap Td.cells) := Lib.hid (by have := hX.out; rwa [List.take_length] at this)
      have hFe := Lib.hid ((hF.setCell (p := ⟨w.heap.size + 1, 0, none⟩) (fun h => by have h2 : w.heap.size + 1 < w.heap.size := h; omega) (.int .i64 now)).setCell (p := ⟨w.heap.size + 1, 1, none⟩) (fun h => by have h2 : w.heap.size + 1 < w.heap.size := h; omega) (.slice ao m co))
      have hOe := Lib.hid ((hO.other (p := ⟨w.heap.size + 1, 0, none⟩) (fun h => by have h2 : ob = some (w.heap.size + 1) := h; have := hN _ h2; omega) (.int .i64 now)).other (p := ⟨w.heap.size + 1, 1, none⟩) (fun h => by have h2 : ob = some (w.heap.size + 1) := h; have := hN _ h2; omega) (.slice ao m co))
      have hBe := (hB1.set 0 (.int .i64 now)).set 1 (.slice ao m co)
      have z0 := (hB1.set 0 (.int .i64 now)).cell 0
      have y0 := hBe.cell 0
      have y1 := hBe.cell 1
      simp only [List.getElem?_cons_succ, List.getElem?_cons_zero, List.set_cons_succ, List.set_cons_zero] at z0 y0 y1
      clear hO hB0 hB1 hB2 hF hBe
      go_wp2
      refine bodyPost_ret (v := .agg #[.int .i64 now, .slice ao m co]) (by simp [results, Tryz.results23, go_sem, y0, y1]) rfl ?_
      exact RetRib.mk rfl hout.out.1 hout.out.2 hOe.out hFe.out (fun g hg => by have := hN g hg; omega)

set_option maxRecDepth 100000 in
set_option maxHeartbeats 2000000 in
theorem qheards_any (l : List Td) (a : Option Addr) (c : Nat) (now : Int) (w : World) (hL : Recs w.heap a 5 Td.cells l) (hl : l.length ≤ 64) :
    Calls Tryz.prog 57 #[.agg #[.int .i64 now, .slice a l.length c]] w (RetNew w 105 4 l.length (l.flatMap Td.hcells) id) := by
  have HL := Lib.hid hL
  clear hL
  go_enter Tryz.func57, Tryz.ntmps57
  go_wp2
  go_loopw [4, 3] (fun s4 s3 wr => ∃ (k : Nat) (ao : Option Addr) (co : Nat) (ob : Option Nat), k ≤ l.length ∧ s4 = .int .i64 k ∧ s3 = .slice ao k co ∧ Blk wr.heap w.heap.size 56 [.int .i64 now, .slice a l.length c] ∧ Ownd wr.heap 105 4 ao k co ((l.take k).flatMap Td.hcells) ob ∧ (∀ g, ob = some g → w.heap.size < g) ∧ Fr (fun _ => False) w wr) (fun s _ _ => l.length - (intOf s).toNat)
  case atStart => exact ⟨0, none, 0, none, by omega, rfl, rfl, Blk.made _ _ _, Ownd.nil _ _ _, (fun _ h => nomatch h), (Fr.refl _ _).alloc _⟩
  case round =>
    obtain ⟨k, ao, co, ob, hk, rfl, rfl, hB, hO, hN, hF⟩ := hrel
    have b0 := hB.cell 0
    have b1 := hB.cell 1
    simp only [List.getElem?_cons_succ, List.getElem?_cons_zero] at b0 b1
    have hws := hB.lt
    by_cases hkl : k < l.length
    · have hsn := take_succ_nth l k hkl
      obtain ⟨g1, o1, rfl, hg1, hc1⟩ := Recs.pos HL.out Td.cells_len (by omega) (by omega)
      have dd := fun (j : Nat) (hj : j < 5) => (hF.cell (p := ⟨g1, o1 + (k * 5 + j), none⟩) hg1 (fun h => h)).trans (hc1 w rfl k j hkl hj)
      have d0 := dd 0 (by omega)
      have d1 := dd 1 (by omega)
      have d2 := dd 2 (by omega)
      have d3 := dd 3 (by omega)
      generalize nth l k = x at *
      obtain ⟨xf, xa, xn, xm, xt⟩ := x
      simp only [Td.cells, List.getElem?_cons_zero, List.getElem?_cons_succ, ← Nat.add_assoc, Nat.add_zero] at d0 d1 d2 d3
      have hcs : Hid ((l.take (k + 1)).flatMap Td.hcells = (l.take k).flatMap Td.hcells ++ [.int .i64 xf, .int .u32 xa, .int .i64 xn, .int .i64 xm]) := Lib.hid (by rw [hsn, List.flatMap_append]; rfl)
      have hO1 := hO.alloc (.cells #[.int .i64 xf, .int .u32 xa, .int .i64 xn, .int .i64 xm] 105)
      have hrd := rd_lit wr 105 [.int .i64 xf, .int .u32 xa, .int .i64 xn, .int .i64 xm]
      have HB1 := Lib.hid (hB.alloc (.cells #[.int .i64 xf, .int .u32 xa, .int .i64 xn, .int .i64 xm] 105))
      clear dd hc1 hsn hO hB
      go_wp2_with (at_builtin; refine wpList_app rfl _ _ 109 rfl Tryz.underlying109 infoHd rfl (by decide) rfl rfl hO1 hrd (by simp [Value.oneCell']) (by omega) (by omega) ?_)
      intro a3 c3 w3 ob3 z1 z2 z3
      have hF3 := Fr.app (hF.alloc _) z2 (fun g hg => by have := hN g hg; omega)
      have hN3 : ∀ g, ob3 = some g → w.heap.size < g := app_new hN z3 (by simp; omega)
      have HB3 := Lib.hid (HB1.out.fr z2 (fun h => by have := hN _ h; omega))
      rw [← hcs.out] at z1
      have HZ := Lib.hid z1
      clear z1 z2 z3 hO1 hrd
      go_wp2
      go_roundw
      case rel => exact ⟨k + 1, a3, c3, ob3, by omega, by go_num, rfl, HB3.out, HZ.out, hN3, hF3⟩
      case measure => simp [intOf]; omega
    · obtain rfl : k = l.length := by omega
      rw [List.take_length] at hO
      go_wp2
      go_ret
      exact ⟨ao, co, ob, rfl, hO, hF, fun g hg => Nat.le_of_lt (hN g hg)⟩

theorem lostK_set {f now : Int} (A : List Td) {k : Nat} (h : k < A.length) : (((A.take k).map (lose1 f now)) ++ A.drop k).set k (lose1 f now (nth A k)) = ((A.take (k + 1)).map (lose1 f now)) ++ A.drop (k + 1) := by
  rw [drop_nth A k h, take_succ_nth A k h, List.map_append]
  have hl : ((A.take k).map (lose1 f now)).length = k := by simp; omega
  rw [List.set_append_right _ _ (by omega), hl, Nat.sub_self]
  simp
theorem td_set34 (L : List Td) (k : Nat) (h : k < L.length) (y : Td) (hy : y.f = (nth L k).f ∧ y.a = (nth L k).a ∧ y.n = (nth L k).n) : ((L.flatMap Td.cells).set (k * 5 + 3) (.int .i64 y.m)).set (k * 5 + 4) (.int .i64 y.t) = (L.set k y).flatMap Td.cells := by
  induction L generalizing k with
  | nil => simp at h
  | cons x L ih =>
    cases k with
    | zero =>
      obtain ⟨h1, h2, h3⟩ := hy
      rw [nth_cons_zero] at h1 h2 h3
      simp [h1, h2, h3]
    | succ k =>
      have := ih k (by simpa using h) (by rw [nth_cons_succ] at hy; exact hy)
      rw [List.set_cons_succ, List.flatMap_cons, List.flatMap_cons, ← this]
      rw [List.set_append_right _ _ (by simp; omega), List.set_append_right _ _ (by simp; omega)]
      congr 2
      · simp; congr 1; omega
      · simp; omega
end Go.Proofs.YtfglidaicjjpfaaGreatDoor
end

section
namespace Go.Proofs.YtfglidaicjjpfaaGreatDoor
open Go.RowKit

theorem lostK_nth {f now : Int} (A : List Td) {k : Nat} (h : k < A.length) : nth (((A.take k).map (lose1 f now)) ++ A.drop k) k = nth A k := by
  have hl : ((A.take k).map (lose1 f now)).length = k := by simp; omega
  rw [nth_append_right _ _ _ (by omega), hl, Nat.sub_self, nth_drop]
  rfl
theorem lostK_len {f now : Int} (A : List Td) {k : Nat} (h : k ≤ A.length) : (((A.take k).map (lose1 f now)) ++ A.drop k).length = A.length := by
  simp; omega
theorem lostK_same {f now : Int} (A : List Td) {k : Nat} (h : k < A.length) (he : lose1 f now (nth A k) = nth A k) : ((A.take (k + 1)).map (lose1 f now)) ++ A.drop (k + 1) = ((A.take k).map (lose1 f now)) ++ A.drop k := by
  rw [drop_nth A k h, take_succ_nth A k h, List.map_append]
  simp [he]

set_option maxRecDepth 100000 in
set_option maxHeartbeats 4000000 in
theorem qlost_any (l : List Td) (a : Option Addr) (c : Nat) (now0 f now : Int) (w : World) (hL : Recs w.heap a 5 Td.cells l) (hb : RibOk now0 l) (hn : now0 ≤ now) (hm : now ≤ 1099511627776) :
    Calls Tryz.prog 21 #[.agg #[.int .i64 now0, .slice a l.length c], .int .i64 f, .int .i64 now] w (RetRib w now (rLost f now l)) := by
  have hbA := rAged_ok hb hn hm
  have hla := hbA.len
  have hF0 := ((Fr.refl (fun _ => False) w).alloc (.cells #[.int .i64 now0, .slice a l.length c] 56)).alloc (.cells #[.int .i64 0, .slice none 0 0] 56)
  have hB1 := Blk.made (w.alloc (.cells #[.int .i64 now0, .slice a l.length c] 56)) 56 [.int .i64 0, .slice none 0 0]
  rw [show (w.alloc (.cells #[.int .i64 now0, .slice a l.length c] 56)).heap.size = w.heap.size + 1 by simp] at hB1
  have hq := qaged_any l a c now0 now _ (hL.fr0 hF0 (fun _ _ h => h)) hb hn hm
  have HB1 := Lib.hid hB1
  clear hB1 hL hb
  go_enter Tryz.func21, Tryz.ntmps21
  go_wp2_with (fail)
  refine hq.mono ?_
  obtain ⟨A, hA⟩ : ∃ A, A = rAged now l := ⟨_, rfl⟩
  rintro e1 w1 ⟨a1, c1, o1, rfl, hO1, hF1, hN1⟩
  rw [← hA] at hO1 hla hbA ⊢
  have HAe := Lib.hid hA
  clear hq hA
  obtain ⟨m, hm1⟩ : ∃ m, m = A.length := ⟨_, rfl⟩
  rw [← hm1] at hO1 hla ⊢
  have HM := Lib.hid hm1
  clear hm1
  have hFw1 := hF0.trans hF1
  have hB1 := HB1.out.fr hF1 (fun h => h)
  have hws : w.heap.size + 2 ≤ w1.heap.size := by have := hF1.size; simpa using this
  have hN1' : ∀ g, o1 = some g → w.heap.size + 2 ≤ g := fun g hg => by have := hN1 g hg; simpa using this
  have hol := hO1.lt
  clear hF0 hF1 hN1 HB1
  go_wp2
  go_loopw [8] (fun s8 wr => ∃ (k : Nat), k ≤ m ∧ s8 = .int .i64 k ∧ Blk wr.heap w1.heap.size 56 [.int .i64 now, .slice a1 m c1] ∧ Blk wr.heap (w.heap.size + 1) 56 [.int .i64 0, .slice none 0 0] ∧ Ownd wr.heap 107 5 a1 m c1 ((((A.take k).map (lose1 f now)) ++ A.drop k).flatMap Td.cells) o1 ∧ Fr (fun _ => False) w wr) (fun s _ => m - (intOf s).toNat)
  case atStart => exact ⟨0, by omega, rfl, Blk.made _ _ _, hB1.alloc _, by simpa using hO1.alloc _, hFw1.alloc _⟩
  case round =>
    clear hO1 hB1
    obtain ⟨k, hk, rfl, hB7, hB1, hO, hF⟩ := hrel
    have b70 := hB7.cell 0
    have b71 := hB7.cell 1
    have b10 := hB1.cell 0
    have b11 := hB1.cell 1
    have f10 := hB1.frozen 0
    have f11 := hB1.frozen 1
    simp only [List.getElem?_cons_succ, List.getElem?_cons_zero] at b70 b71 b10 b11
    have hws1 := hB7.lt
    by_cases hkl : k < m
    · have hkA : k < A.length := by rw [← HM.out]; exact hkl
      have hkL : k < (((A.take k).map (lose1 f now)) ++ A.drop k).length := by rw [lostK_len A (Nat.le_of_lt hkA)]; exact hkA
      have hnth := lostK_nth (f := f) (now := now) A hkA
      have hsame := lostK_same (f := f) (now := now) A hkA
      have hset := lostK_set (f := f) (now := now) A hkA
      obtain ⟨g, rfl, rfl, hg, hc, hfz⟩ := hO.pos (by omega)
      have hgB : w.heap.size + 2 ≤ g := hN1' g rfl
      have hgl : g < w1.heap.size := hol g rfl
      obtain ⟨L, hL⟩ : ∃ L, L = ((A.take k).map (lose1 f now)) ++ A.drop k := ⟨_, rfl⟩
      rw [← hL] at hO hc hkL hnth hsame hset
      have dd := fun (j : Nat) (hj : j < 5) => (hc (k * 5 + j) (by omega)).trans (flat_get _ 5 Td.cells_len L k j hkL hj)
      rw [hnth] at dd
      have d0 := dd 0 (by omega)
      have d3 := dd 3 (by omega)
      have d4 := dd 4 (by omega)
      have f3 := hfz (k * 5 + 3)
      have f4 := hfz (k * 5 + 4)
      obtain ⟨x, hx⟩ : ∃ x, x = nth A k := ⟨_, rfl⟩
      rw [← hx] at d0 d3 d4 hnth hsame hset
      obtain ⟨xf, xa, xn, xm, xt⟩ := x
      simp only [Td.cells, List.getElem?_cons_zero, List.getElem?_cons_succ, Nat.add_zero] at d0 d3 d4
      have HSAME := Lib.hid hsame
      have HSET := Lib.hid hset
      have HNTH := Lib.hid hnth
      have HKL := Lib.hid hkL
      have HLE := Lib.hid hL
      clear hc dd hfz hx hsame hset hnth hkL hkA hL
      by_cases hc1 : xf = f ∧ xm < 16
      · obtain ⟨q1, q2⟩ := hc1
        have e1 : (xf == f) = true := by simp [q1]
        have hl1 := Lib.hid (show lose1 f now ⟨xf, xa, xn, xm, xt⟩ = ⟨xf, xa, xn, 16, now⟩ from if_pos ⟨q1, q2⟩)
        have hO2 := (hO.set rfl (k * 5 + 3) (.int .i64 16)).set rfl (k * 5 + 4) (.int .i64 now)
        rw [td_set34 L k HKL.out ⟨xf, xa, xn, 16, now⟩ (by rw [HNTH.out]; exact ⟨rfl, rfl, rfl⟩), ← hl1.out, HSET.out] at hO2
        have HO2 := Lib.hid hO2
        have HB7 := Lib.hid ((hB7.other (p := ⟨g, k * 5 + 3, none⟩) (by show w1.heap.size ≠ g; omega) (.int .i64 16)).other (p := ⟨g, k * 5 + 4, none⟩) (by show w1.heap.size ≠ g; omega) (.int .i64 now))
        have HB1 := Lib.hid ((hB1.other (p := ⟨g, k * 5 + 3, none⟩) (by show w.heap.size + 1 ≠ g; omega) (.int .i64 16)).other (p := ⟨g, k * 5 + 4, none⟩) (by show w.heap.size + 1 ≠ g; omega) (.int .i64 now))
        have HF2 := Lib.hid ((hF.setCell (p := ⟨g, k * 5 + 3, none⟩) (fun h => by have h2 : g < w.heap.size := h; omega) (.int .i64 16)).setCell (p := ⟨g, k * 5 + 4, none⟩) (fun h => by have h2 : g < w.heap.size := h; omega) (.int .i64 now))
        clear hO hB7 hB1 hF hO2 q1
        go_wp2
        go_roundw
        case rel => exact ⟨k + 1, by omega, by go_num, HB7.out, HB1.out, HO2.out, HF2.out⟩
        case measure => simp [intOf]; omega
      · have hl1 : lose1 f now ⟨xf, xa, xn, xm, xt⟩ = ⟨xf, xa, xn, xm, xt⟩ := if_neg hc1
        have hO2 := Lib.hid hO
        have q : (xf == f) = false ∨ ((xf == f) = true ∧ 16 ≤ xm) := by
          simp only [beq_eq_false_iff_ne, beq_iff_eq, ne_eq]
          omega
        have HS := Lib.hid (HSAME.out hl1)
        clear hc1 hl1 hO
        rcases q with e1 | ⟨e1, e2⟩
        all_goals
          go_wp2
          go_roundw
          case rel => exact ⟨k + 1, by omega, by go_num, hB7, hB1, by rw [HS.out]; exact hO2.out, hF⟩
          case measure => simp [intOf]; omega
    · obtain rfl : k = m := by omega
      have hAl : (((A.take k).map (lose1 f now)) ++ A.drop k) = rLost f now l := by rw [HM.out, List.take_length, List.drop_length, List.append_nil, HAe.out]; rfl
      rw [hAl] at hO
      have hlen : k = (rLost f now l).length := by rw [HM.out, HAe.out]; unfold rLost; rw [List.length_map]
      have HLEN := Lib.hid hlen
      have hFe := Lib.hid ((hF.setCell (p := ⟨w.heap.size + 1, 0, none⟩) (fun h => by have h2 : w.heap.size + 1 < w.heap.size := h; omega) (.int .i64 now)).setCell (p := ⟨w.heap.size + 1, 1, none⟩) (fun h => by have h2 : w.heap.size + 1 < w.heap.size := h; omega) (.slice a1 k c1))
      have hOe := Lib.hid ((hO.other (p := ⟨w.heap.size + 1, 0, none⟩) (fun h => by have h2 : o1 = some (w.heap.size + 1) := h; have := hN1' _ h2; omega) (.int .i64 now)).other (p := ⟨w.heap.size + 1, 1, none⟩) (fun h => by have h2 : o1 = some (w.heap.size + 1) := h; have := hN1' _ h2; omega) (.slice a1 k c1))
      have hBe := (hB1.set 0 (.int .i64 now)).set 1 (.slice a1 k c1)
      have y0 := hBe.cell 0
      have y1 := hBe.cell 1
      simp only [List.getElem?_cons_succ, List.getElem?_cons_zero, List.set_cons_succ, List.set_cons_zero] at y0 y1
      clear hO hB7 hB1 hF hBe hlen hAl
      go_wp2
      refine bodyPost_ret (v := .agg #[.int .i64 now, .slice a1 k c1]) (by simp [results, Tryz.results21, go_sem, y0, y1]) rfl ?_
      exact RetRib.mk rfl HLEN.out rfl hOe.out hFe.out (fun g hg => by have := hN1' g hg; omega)
end Go.Proofs.YtfglidaicjjpfaaGreatDoor
end
