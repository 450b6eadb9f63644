import Derived.Test.YtoenopfmlgapbaaRibCom
namespace Go.Proofs.Ytoenopfmlgapbaa
open Go.RowKit

theorem learn_nil {f a n m now : Int} {l' : List Td} (ha : 0 ≤ a ∧ a < 4294967296) (h : learnE 0 [] f a n m now = .ok l') (hm : m ≠ 16) : l' = [⟨f, a, n, m, now⟩] ∧ RibOk now l' ∧ 0 ≤ now ∧ now ≤ 1099511627776 ∧ 1 ≤ m ∧ m < 16 := by
  obtain ⟨h1, h2, h3, h4, h5, h6, h7, h8, h9⟩ := learn_ok ribOk_nil ha h
  have e : rAged now [] = [] := rfl
  rw [e] at h9
  unfold rPut at h9
  rw [if_neg (is_nil _ _ _), if_neg hm, if_neg (by simp)] at h9
  cases h9
  exact ⟨rfl, h1, h2, h3, h7, by omega⟩
theorem aged_one_live {f a n m t now : Int} (h1 : m < 16) (h2 : now - t < 180) : rAged now [⟨f, a, n, m, t⟩] = [⟨f, a, n, m, t⟩] := by
  unfold rAged
  rw [List.filterMap_cons, age1_live (x := ⟨f, a, n, m, t⟩) h1 (by show ¬ 180 ≤ now - t; omega)]; rfl
theorem aged_one_dying {f a n m t now : Int} (h1 : m < 16) (h2 : ¬ now - t < 180) (h3 : now - t < 300) : rAged now [⟨f, a, n, m, t⟩] = [⟨f, a, n, 16, t + 180⟩] := by
  unfold rAged
  rw [List.filterMap_cons, age1_dies (x := ⟨f, a, n, m, t⟩) h1 (by show 180 ≤ now - t; omega), if_pos (by show now - (t + 180) < 120; omega)]; rfl
theorem aged_one_dead {f a n m t now : Int} (h1 : m < 16) (h3 : ¬ now - t < 300) : rAged now [⟨f, a, n, m, t⟩] = [] := by
  unfold rAged
  rw [List.filterMap_cons, age1_dies (x := ⟨f, a, n, m, t⟩) h1 (by show 180 ≤ now - t; omega), if_neg (by show ¬ now - (t + 180) < 120; omega)]; rfl

set_option maxRecDepth 100000 in
set_option maxHeartbeats 4000000 in
theorem ribAges_any (f a n m now later : Int) (w : World) (ha : 0 ≤ a ∧ a < 4294967296) :
    Calls Try.prog 5 #[.int .i64 f, .agg #[.int .u32 a, .int .i64 n], .int .i64 m, .int .i64 now, .int .i64 later] w (RetV w (.bool true)) := by
  go_enter Try.func5, Try.ntmps5
  go_wp2_with (go_at_call 17; refine (learnt_any _).mono ?_)
  intro e0 w0 R0
  obtain ⟨rfl, hF0⟩ := R0
  have hFw0 := ((Fr.refl (fun _ => False) w).alloc (.cells #[.int .u32 a, .int .i64 n] 24)).trans hF0
  have c4 := Blk.cell ((Blk.made w 24 [.int .u32 a, .int .i64 n]).fr hF0 (fun h => h))
  have d0 := c4 0
  have d1 := c4 1
  have s0 : w.heap.size < w0.heap.size := by have := hF0.size; simp at this; omega
  simp only [List.getElem?_cons_zero, List.getElem?_cons_succ] at d0 d1
  have k1 := IsRib.new w0
  clear hF0 c4
  go_wp2_with (go_at_call 13; refine (ribNew_any _).mono ?_; rintro e w' ⟨rfl, rfl⟩)
  go_wp2_with (go_at_call 14; refine (learn_any _ k1 ribOk_nil (by simp) f a n m now ha).mono ?_)
  intro e1 w1 R1
  cases hr : learnE 0 [] f a n m now with
  | error q =>
    obtain ⟨rfl, hF1⟩ := R1.errE hr
    clear hr R1
    go_wp2
    go_ret
    exact RetV.mk rfl rfl ((hFw0.alloc _).trans hF1)
  | ok l' =>
    obtain ⟨rfl, k2, hF1⟩ := R1.okE hr
    have hFw1 := (hFw0.alloc (.cells #[.int .i64 0, .slice none 0 0] 74)).trans' hF1 (fun q hq h => by have := hFw0.size; omega)
    have hs1 : w0.heap.size + 1 ≤ w1.heap.size := by have := hF1.size; simpa using this
    by_cases h16 : m = 16
    · have t0 : (m == 16) = true := by simp [h16]
      clear hr R1 h16
      go_wp2
      go_ret
      exact RetV.mk rfl rfl hFw1
    · have t0 : (m == 16) = false := by simpa using h16
      obtain ⟨rfl, hok, n0, n1, m0, m1⟩ := learn_nil ha hr h16
      have e5 := (hF1.cell (p := ⟨w.heap.size, 0, none⟩) (by simp; omega) (by show ¬ w.heap.size = w0.heap.size; omega)).trans ((((Fr.refl (fun _ => False) w0).alloc (.cells #[.int .i64 0, .slice none 0 0] 74)).cell (p := ⟨w.heap.size, 0, none⟩) s0 (fun h => h)).trans d0)
      have e6 := (hF1.cell (p := ⟨w.heap.size, 1, none⟩) (by simp; omega) (by show ¬ w.heap.size = w0.heap.size; omega)).trans ((((Fr.refl (fun _ => False) w0).alloc (.cells #[.int .i64 0, .slice none 0 0] 74)).cell (p := ⟨w.heap.size, 1, none⟩) s0 (fun h => h)).trans d1)
      clear hr R1 h16
      go_wp2_with (go_at_call 18; refine (age_E w1 k2 hok hs1 later).mono ?_)
      intro e2 w2 R2
      by_cases hc : ckErr now 0 later
      · rw [ageE, if_pos hc] at R2
        obtain ⟨rfl, hF2⟩ := R2.errE rfl
        have hc2 : later < now ∨ 1099511627776 < later := by unfold ckErr at hc; omega
        clear hc R2
        have hc3 : decide (later < now) = true ∨ (decide (later < now) = false ∧ decide (1099511627776 < later) = true) := by
          simp only [decide_eq_true_eq, decide_eq_false_iff_not]; omega
        clear hc2
        rcases hc3 with h1 | ⟨h1, h2⟩
        all_goals
          go_wp2
          go_ret
          exact RetV.mk rfl rfl (hFw1.trans hF2)
      · rw [ageE, if_neg hc] at R2
        obtain ⟨rfl, k3, hF2⟩ := R2.okE rfl
        have hlt : now ≤ later ∧ later ≤ 1099511627776 := by unfold ckErr at hc; omega
        have hFw2 := hFw1.trans' hF2 (fun q hq h => by have := hFw0.size; omega)
        have g5 := (hF2.cell (p := ⟨w.heap.size, 0, none⟩) (by show w.heap.size < _; omega) (by show ¬ w.heap.size = w0.heap.size; omega)).trans e5
        have g6 := (hF2.cell (p := ⟨w.heap.size, 1, none⟩) (by show w.heap.size < _; omega) (by show ¬ w.heap.size = w0.heap.size; omega)).trans e6
        have hs2 : w.heap.size < w2.heap.size := by have := hF2.size; omega
        have hA := rAged_ok hok hlt.1 hlt.2
        clear hc R2
        go_wp2_with (go_at_call 15; refine (ribList_any _ k3 hA.len).mono ?_)
        intro e3 w3 R3
        obtain ⟨a3, c3, ob3, rfl, hO3, hF3, hN3⟩ := R3
        have g7 := (hF3.cell (p := ⟨w.heap.size, 0, none⟩) hs2 (fun h => h)).trans g5
        have g8 := (hF3.cell (p := ⟨w.heap.size, 1, none⟩) hs2 (fun h => h)).trans g6
        by_cases h1 : later - now < 180
        · rw [aged_one_live m1 h1] at hO3
          rw [show (rAged later [(⟨f, a, n, m, now⟩ : Td)]).length = 1 by rw [aged_one_live m1 h1]; rfl]
          obtain ⟨g, rfl, rfl, hg, hcc, -⟩ := hO3.pos (by simp)
          have q0 := hcc 0 (by simp)
          have q1 := hcc 1 (by simp)
          have q2 := hcc 2 (by simp)
          have q3 := hcc 3 (by simp)
          simp only [List.flatMap_cons, List.flatMap_nil, List.append_nil, Td.hcells, List.getElem?_cons_zero, List.getElem?_cons_succ] at q0 q1 q2 q3
          clear hcc hO3 hA k3 k2 k1
          go_wp2
          go_quiet (fail)
          go_wp2
          go_ret
          exact RetV.mk rfl rfl ((hFw2.trans hF3).drewN nq)
        · by_cases h2 : later - now < 300
          · rw [aged_one_dying m1 h1 h2] at hO3
            rw [show (rAged later [(⟨f, a, n, m, now⟩ : Td)]).length = 1 by rw [aged_one_dying m1 h1 h2]; rfl]
            obtain ⟨g, rfl, rfl, hg, hcc, -⟩ := hO3.pos (by simp)
            have q0 := hcc 0 (by simp)
            have q1 := hcc 1 (by simp)
            have q2 := hcc 2 (by simp)
            have q3 := hcc 3 (by simp)
            simp only [List.flatMap_cons, List.flatMap_nil, List.append_nil, Td.hcells, List.getElem?_cons_zero, List.getElem?_cons_succ] at q0 q1 q2 q3
            clear hcc hO3 hA k3 k2 k1
            go_wp2
            go_quiet (fail)
            go_wp2
            go_ret
            exact RetV.mk rfl rfl ((hFw2.trans hF3).drewN nq)
          · rw [show (rAged later [(⟨f, a, n, m, now⟩ : Td)]).length = 0 by rw [aged_one_dead m1 h2]; rfl]
            clear hO3 hA k3 k2 k1
            go_wp2
            go_ret
            exact RetV.mk rfl rfl (hFw2.trans hF3)
end Go.Proofs.Ytoenopfmlgapbaa
