import Derived.Test.YtgfbkebbnfcgkaaNetW
import Derived.Test.YtgfbkebbnfcgkaaRecs
namespace Go.Proofs.Ytgfbkebbnfcgkaa
open Go.RowKit

abbrev Td.cells (x : Td) : List Value := [.int .i64 x.f, .int .u32 x.a, .int .i64 x.n, .int .i64 x.m, .int .i64 x.t]
theorem Td.cells_len (x : Td) : (Td.cells x).length = 5 := rfl
abbrev Td.hcells (x : Td) : List Value := [.int .i64 x.f, .int .u32 x.a, .int .i64 x.n, .int .i64 x.m]
theorem Td.hcells_len (x : Td) : (Td.hcells x).length = 4 := rfl
theorem infoTd : (Try.prog.info? 128).map (fun i => (i.zero, i.size, i.bytes)) = some (some (.agg #[.int .i64 0, .int .u32 0, .int .i64 0, .int .i64 0, .int .i64 0]), 5, 40) := by kernel_rfl
theorem infoHd : (Try.prog.info? 111).map (fun i => (i.zero, i.size, i.bytes)) = some (some (.agg #[.int .i64 0, .int .u32 0, .int .i64 0, .int .i64 0]), 4, 32) := by kernel_rfl
theorem td_one (x : Td) : ∀ u ∈ Td.cells x, u.oneCell' = true := by simp [Value.oneCell']
theorem hd_one (x : Td) : ∀ u ∈ Td.hcells x, u.oneCell' = true := by simp [Value.oneCell']

/-- A rib in memory: its block 'br', below 'base'; its list from 'base' on. -/
def IsRib (H : Array Obj) (base br : Nat) (now : Int) (l : List Td) : Prop :=
  ∃ a c, Blk H br 106 [.int .i64 now, .slice a l.length c] ∧ Recs H a 5 Td.cells l ∧ (∀ b off, a = some ⟨b, off, none⟩ → base ≤ b ∧ ∃ cur, H[b]? = some (.cells cur 128 (0, 0))) ∧ br < base
/-- Blocks of another type may turn. -/
theorem IsRib.frT {w w' : World} {S : Nat → Prop} {base br : Nat} {now : Int} {l : List Td} (h : IsRib w.heap base br now l) (f : Fr S w w') (hs : ∀ k, S k → (k < base ∨ ∀ cur, w.heap[k]? ≠ some (.cells cur 128 (0, 0))) ∧ k ≠ br) : IsRib w'.heap base br now l := by
  obtain ⟨a, c, h1, h2, h3, h4⟩ := h
  have hno : ∀ b off, a = some ⟨b, off, none⟩ → ¬ S b := fun b off e hb => by
    obtain ⟨k1, cur, k2⟩ := h3 b off e
    rcases (hs _ hb).1 with h | h
    · omega
    · exact h cur k2
  exact ⟨a, c, h1.fr f (fun hb => (hs _ hb).2 rfl), h2.fr f hno, fun b off e => by
    obtain ⟨k1, cur, k2⟩ := h3 b off e
    exact ⟨k1, cur, (f.block b (Array.getElem?_eq_some_iff.1 k2).1 (hno b off e)).trans k2⟩, h4⟩
theorem IsRib.fr {w w' : World} {S : Nat → Prop} {base br : Nat} {now : Int} {l : List Td} (h : IsRib w.heap base br now l) (f : Fr S w w') (hs : ∀ k, S k → k < base ∧ k ≠ br) : IsRib w'.heap base br now l :=
  h.frT f (fun k hk => ⟨.inl (hs k hk).1, (hs k hk).2⟩)
theorem IsRib.lt {w : World} {base br : Nat} {now : Int} {l : List Td} (h : IsRib w.heap base br now l) : br < w.heap.size := by
  obtain ⟨a, c, h1, h2, h3, h4⟩ := h; exact h1.lt

set_option maxRecDepth 100000 in
set_option maxHeartbeats 1000000 in
theorem ribNew_any (w : World) : Calls Try.prog 17 #[] w (fun e w' => e = .returned (.pointer (some ⟨w.heap.size, 0, none⟩)) ∧ w' = w.alloc (.cells #[.int .i64 0, .slice none 0 0] 106)) := by
  go_enter Try.func17, Try.ntmps17
  go_wp2
  go_ret
  exact ⟨rfl, rfl⟩

set_option maxRecDepth 100000 in
set_option maxHeartbeats 1000000 in
theorem ribCheck_any {base br : Nat} {now0 : Int} {l : List Td} (w : World) (hR : IsRib w.heap base br now0 l) (f now : Int) : Calls Try.prog 49 #[.pointer (some ⟨br, 0, none⟩), .int .i64 f, .int .i64 now] w (RetS w (errO (ckO now0 f now))) := by
  obtain ⟨a, c, h1, h2, h3, h4⟩ := hR
  have c0 := h1.cell 0
  simp only [List.getElem?_cons_zero] at c0
  go_enter Try.func49, Try.ntmps49
  by_cases hc : ckErr now0 f now
  · have hX := Lib.hid (show ckO now0 f now = some 1 from if_pos hc)
    have hc2 : now < now0 ∨ 1099511627776 < now ∨ f < 0 ∨ 8 ≤ f := hc
    clear hc
    go_wp2
    all_goals go_ret
    all_goals exact RetS.mk (x := errv 1) (by rw [hX.out]; rfl) rfl rfl
  · have hX := Lib.hid (show ckO now0 f now = none from if_neg hc)
    have hc2 : ¬ (now < now0 ∨ 1099511627776 < now ∨ f < 0 ∨ 8 ≤ f) := hc
    clear hc
    go_wp2
    all_goals go_ret
    all_goals exact RetS.mk (x := .nilIface) (by rw [hX.out]; rfl) rfl rfl

set_option maxRecDepth 100000 in
set_option maxHeartbeats 1000000 in
theorem ribNow_any {base br : Nat} {now0 : Int} {l : List Td} (w : World) (hR : IsRib w.heap base br now0 l) : Calls Try.prog 46 #[.pointer (some ⟨br, 0, none⟩)] w (RetS w (.int .i64 now0)) := by
  obtain ⟨a, c, h1, h2, h3, h4⟩ := hR
  have c0 := h1.cell 0
  simp only [List.getElem?_cons_zero] at c0
  go_enter Try.func46, Try.ntmps46
  go_wp2
  go_ret
  exact ⟨rfl, rfl⟩

set_option maxRecDepth 100000 in
set_option maxHeartbeats 2000000 in
theorem aged_any {base br : Nat} {now0 : Int} {l : List Td} (w : World) (hR : IsRib w.heap base br now0 l) (hb : RibOk now0 l) (now : Int) (hn : now0 ≤ now) (hm : now ≤ 1099511627776) :
    Calls Try.prog 50 #[.pointer (some ⟨br, 0, none⟩), .int .i64 now] w (RetNew w 128 5 (rAged now l).length ((rAged now l).flatMap Td.cells) id) := by
  obtain ⟨a, c, h1, h2, h3, h4⟩ := hR
  have c1 := h1.cell 1
  simp only [List.getElem?_cons_succ, List.getElem?_cons_zero] at c1
  have hl := hb.len
  go_enter Try.func50, Try.ntmps50
  go_wp2
  go_loopw [13, 5] (fun s13 s5 wr => ∃ (k : Nat) (A : List Td) (ao : Option Addr) (co : Nat) (ob : Option Nat), k ≤ l.length ∧ s13 = .int .i64 k ∧ s5 = .slice ao A.length co ∧ Ownd wr.heap 128 5 ao A.length co (A.flatMap Td.cells) ob ∧ Fr (fun _ => False) w wr ∧ (∀ g, ob = some g → w.heap.size ≤ g) ∧ A.length ≤ k ∧ Hid (A = rAged now (l.take k))) (fun s _ _ => l.length - (intOf s).toNat)
  case atStart => exact ⟨0, [], none, 0, none, by omega, rfl, rfl, Ownd.nil _ _ _, Fr.refl _ _, (fun g h => nomatch h), by simp, rfl⟩
  case round =>
    obtain ⟨k, A, ao, co, ob, hk, rfl, rfl, hO, hF, hN, hA, hE⟩ := hrel
    have hcap := hO.cap
    by_cases hkl : k < l.length
    · obtain ⟨b, off, rfl, hbb, hc⟩ := Recs.pos h2 Td.cells_len (by omega) (by omega)
      have hx := hb.each _ (nth_mem l k hkl)
      have htk : rAged now (l.take (k + 1)) = rAged now (l.take k) ++ (age1 now (nth l k)).toList := by
        rw [take_succ_nth l k hkl, rAged, List.filterMap_append]
        cases h : age1 now (nth l k) <;> simp [h, rAged]
      have d0 := (hF.cell (p := ⟨b, off + (k * 5 + 0), none⟩) hbb (fun h => h)).trans (hc w rfl k 0 hkl (by omega))
      have d1 := (hF.cell (p := ⟨b, off + (k * 5 + 1), none⟩) hbb (fun h => h)).trans (hc w rfl k 1 hkl (by omega))
      have d2 := (hF.cell (p := ⟨b, off + (k * 5 + 2), none⟩) hbb (fun h => h)).trans (hc w rfl k 2 hkl (by omega))
      have d3 := (hF.cell (p := ⟨b, off + (k * 5 + 3), none⟩) hbb (fun h => h)).trans (hc w rfl k 3 hkl (by omega))
      have d4 := (hF.cell (p := ⟨b, off + (k * 5 + 4), none⟩) hbb (fun h => h)).trans (hc w rfl k 4 hkl (by omega))
      generalize nth l k = x at *
      obtain ⟨xf, xa, xn, xm, xt⟩ := x
      simp only [Td.cells, List.getElem?_cons_zero, List.getElem?_cons_succ, ← Nat.add_assoc, Nat.add_zero] at d0 d1 d2 d3 d4
      obtain ⟨-, -, q3, q4, q5, q6, -, -, -, -⟩ := hx
      simp only at q3 q4 q5 q6
      have HT := Lib.hid htk
      clear hc htk
      by_cases hx1 : xm < 16
      · by_cases hx2 : 180 ≤ now - xt
        · by_cases hx3 : now - (xt + 180) < 120
          · have hrd := rd_lit1 wr (.cells #[.int .i64 xf, .int .u32 xa, .int .i64 xn, .int .i64 16, .int .i64 (xt + 180)] 128) 128 [.int .i64 xf, .int .u32 xa, .int .i64 xn, .int .i64 16, .int .i64 (xt + 180)]
            have HR := Lib.hid (show rAged now (l.take (k + 1)) = A ++ [(⟨xf, xa, xn, 16, xt + 180⟩ : Td)] by rw [HT.out, hE.out, show age1 now ⟨xf, xa, xn, xm, xt⟩ = some ⟨xf, xa, xn, 16, xt + 180⟩ by rw [age1_dies hx1 hx2, if_pos hx3]]; rfl)
            go_wp2_with (at_builtin; refine wpList_app rfl _ _ 104 rfl Try.underlying104 infoTd rfl (by decide) rfl rfl ((hO.alloc _).alloc _) hrd (by simp [Value.oneCell']) (by omega) (by omega) ?_)
            intro a' c' w6 ob' z1 z2 z3
            have hF6 := Fr.app ((hF.alloc _).alloc _) z2 hN
            have hN6 := app_new hN z3 (by have := hF.size; simp; omega)
            have z1 : Ownd w6.heap 128 5 a' (A ++ [(⟨xf, xa, xn, 16, xt + 180⟩ : Td)]).length c' ((A ++ [(⟨xf, xa, xn, 16, xt + 180⟩ : Td)]).flatMap Td.cells) ob' := by simpa [Td.cells] using z1
            have hl1 : (A ++ [(⟨xf, xa, xn, 16, xt + 180⟩ : Td)]).length = A.length + 1 := by simp
            clear z2 z3 hrd hO
            go_wp2
            go_roundw
            case rel => exact ⟨k + 1, A ++ [(⟨xf, xa, xn, 16, xt + 180⟩ : Td)], a', c', ob', by omega, by go_num, by rw [hl1], z1, hF6, hN6, by omega, Lib.hid HR.out.symm⟩
            case measure => simp [intOf]; omega
          · have HR := Lib.hid (show rAged now (l.take (k + 1)) = A by rw [HT.out, hE.out, show age1 now ⟨xf, xa, xn, xm, xt⟩ = none by rw [age1_dies hx1 hx2, if_neg hx3]]; simp)
            go_wp2
            go_roundw
            case rel => exact ⟨k + 1, A, ao, co, ob, by omega, by go_num, rfl, hO.alloc _, hF.alloc _, hN, by omega, Lib.hid HR.out.symm⟩
            case measure => simp [intOf]; omega
        · have hrd := rd_lit1 wr (.cells #[.int .i64 xf, .int .u32 xa, .int .i64 xn, .int .i64 xm, .int .i64 xt] 128) 128 [.int .i64 xf, .int .u32 xa, .int .i64 xn, .int .i64 xm, .int .i64 xt]
          have HR := Lib.hid (show rAged now (l.take (k + 1)) = A ++ [(⟨xf, xa, xn, xm, xt⟩ : Td)] by rw [HT.out, hE.out, show age1 now ⟨xf, xa, xn, xm, xt⟩ = some ⟨xf, xa, xn, xm, xt⟩ from age1_live hx1 hx2]; rfl)
          go_wp2_with (at_builtin; refine wpList_app rfl _ _ 104 rfl Try.underlying104 infoTd rfl (by decide) rfl rfl ((hO.alloc _).alloc _) hrd (by simp [Value.oneCell']) (by omega) (by omega) ?_)
          intro a' c' w6 ob' z1 z2 z3
          have hF6 := Fr.app ((hF.alloc _).alloc _) z2 hN
          have hN6 := app_new hN z3 (by have := hF.size; simp; omega)
          have z1 : Ownd w6.heap 128 5 a' (A ++ [(⟨xf, xa, xn, xm, xt⟩ : Td)]).length c' ((A ++ [(⟨xf, xa, xn, xm, xt⟩ : Td)]).flatMap Td.cells) ob' := by simpa [Td.cells] using z1
          have hl1 : (A ++ [(⟨xf, xa, xn, xm, xt⟩ : Td)]).length = A.length + 1 := by simp
          clear z2 z3 hrd hO
          go_wp2
          go_roundw
          case rel => exact ⟨k + 1, A ++ [(⟨xf, xa, xn, xm, xt⟩ : Td)], a', c', ob', by omega, by go_num, by rw [hl1], z1, hF6, hN6, by omega, Lib.hid HR.out.symm⟩
          case measure => simp [intOf]; omega
      · by_cases hx3 : now - xt < 120
        · have hrd := rd_lit1 wr (.cells #[.int .i64 xf, .int .u32 xa, .int .i64 xn, .int .i64 xm, .int .i64 xt] 128) 128 [.int .i64 xf, .int .u32 xa, .int .i64 xn, .int .i64 xm, .int .i64 xt]
          have HR := Lib.hid (show rAged now (l.take (k + 1)) = A ++ [(⟨xf, xa, xn, xm, xt⟩ : Td)] by rw [HT.out, hE.out, show age1 now ⟨xf, xa, xn, xm, xt⟩ = some ⟨xf, xa, xn, xm, xt⟩ by rw [age1_dead hx1, if_pos hx3]]; rfl)
          go_wp2_with (at_builtin; refine wpList_app rfl _ _ 104 rfl Try.underlying104 infoTd rfl (by decide) rfl rfl ((hO.alloc _).alloc _) hrd (by simp [Value.oneCell']) (by omega) (by omega) ?_)
          intro a' c' w6 ob' z1 z2 z3
          have hF6 := Fr.app ((hF.alloc _).alloc _) z2 hN
          have hN6 := app_new hN z3 (by have := hF.size; simp; omega)
          have z1 : Ownd w6.heap 128 5 a' (A ++ [(⟨xf, xa, xn, xm, xt⟩ : Td)]).length c' ((A ++ [(⟨xf, xa, xn, xm, xt⟩ : Td)]).flatMap Td.cells) ob' := by simpa [Td.cells] using z1
          have hl1 : (A ++ [(⟨xf, xa, xn, xm, xt⟩ : Td)]).length = A.length + 1 := by simp
          clear z2 z3 hrd hO
          go_wp2
          go_roundw
          case rel => exact ⟨k + 1, A ++ [(⟨xf, xa, xn, xm, xt⟩ : Td)], a', c', ob', by omega, by go_num, by rw [hl1], z1, hF6, hN6, by omega, Lib.hid HR.out.symm⟩
          case measure => simp [intOf]; omega
        · have HR := Lib.hid (show rAged now (l.take (k + 1)) = A by rw [HT.out, hE.out, show age1 now ⟨xf, xa, xn, xm, xt⟩ = none by rw [age1_dead hx1, if_neg hx3]]; simp)
          go_wp2
          go_roundw
          case rel => exact ⟨k + 1, A, ao, co, ob, by omega, by go_num, rfl, hO.alloc _, hF.alloc _, hN, by omega, Lib.hid HR.out.symm⟩
          case measure => simp [intOf]; omega
    · obtain rfl : k = l.length := by omega
      have HR := Lib.hid (show A = rAged now l by rw [hE.out, List.take_length])
      go_wp2
      go_ret
      exact ⟨ao, co, ob, by rw [HR.out]; rfl, by rw [← HR.out]; exact hO, hF, hN⟩
end Go.Proofs.Ytgfbkebbnfcgkaa
