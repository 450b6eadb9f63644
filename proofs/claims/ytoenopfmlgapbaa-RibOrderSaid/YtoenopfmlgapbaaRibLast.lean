import Derived.Test.YtoenopfmlgapbaaRibW5
namespace Go.Proofs.Ytoenopfmlgapbaa
open Go.RowKit

theorem IsRib.new (w : World) : IsRib (w.alloc (.cells #[.int .i64 0, .slice none 0 0] 74)).heap (w.heap.size + 1) w.heap.size 0 [] :=
  ⟨none, 0, Blk.made w 74 [.int .i64 0, .slice none 0 0], Rd.nil _ _ _, (fun b off e => by cases e), by omega⟩
theorem RibPost.okE {w w' : World} {base br : Nat} {r : Except Int (List Td)} {l' : List Td} {now : Int} {e : Ending} (h : RibPost w base br r now e w') (hr : r = .ok l') : e = .returned .nilIface ∧ IsRib w'.heap base br now l' ∧ Fr (fun k => k = br) w w' := by subst hr; exact h
theorem RibPost.errE {w w' : World} {base br : Nat} {r : Except Int (List Td)} {now k : Int} {e : Ending} (h : RibPost w base br r now e w') (hr : r = .error k) : e = .returned (errv k) ∧ Fr (fun _ => False) w w' := by subst hr; exact h
theorem learn_one : learnE 0 [] 1 0 0 5 0 = .ok [⟨1, 0, 0, 5, 0⟩] := by kernel_rfl

/-- What is known behind some words of one neighbour on one net, all at time 7. -/
structure LastInv (f a n : Int) (now : Int) (l : List Td) (last : Int) (some' : Bool) : Prop where
  ok : RibOk now l
  tm : now = 0 ∨ now = 7
  yes : some' = true → l = [⟨f, a, n, last, 7⟩] ∧ now = 7
  no : some' = false → l = []
theorem last_one (f a n m : Int) (hm : 1 ≤ m) : rAged 7 [⟨f, a, n, m, 7⟩] = [⟨f, a, n, m, 7⟩] := by
  unfold rAged
  rw [List.filterMap_cons]
  by_cases h : m < 16
  · rw [age1_live (x := ⟨f, a, n, m, 7⟩) h (by simp)]; rfl
  · rw [age1_dead (x := ⟨f, a, n, m, 7⟩) h, if_pos (by simp)]; rfl
theorem idx_one (f a n m t : Int) : rIdx [⟨f, a, n, m, t⟩] f a n = 0 := rIdx_neg _ (by unfold tdAhead netLess; simp only; omega)
theorem is_one (f a n m t : Int) : rIs [⟨f, a, n, m, t⟩] f a n := by unfold rIs; rw [idx_one]; exact ⟨by simp, rfl, rfl, rfl⟩
theorem is_nil (f a n : Int) : ¬ rIs [] f a n := fun h => by have := h.1; simp at this
theorem LastInv.err {f a n now last : Int} {l : List Td} {s : Bool} (h : LastInv f a n now l last s) : LastInv f a n now l last s := h
theorem LastInv.step {f a n now last m : Int} {l l' : List Td} {s : Bool} (h : LastInv f a n now l last s) (ha : 0 ≤ a ∧ a < 4294967296) (hl : learnE now l f a n m 7 = .ok l') : LastInv f a n 7 l' m (s || decide (m < 16)) := by
  obtain ⟨h1, h2, h3, h4, h5, h6, h7, h8, h9⟩ := learn_ok h.ok ha hl
  refine ⟨h1, .inr rfl, fun hs => ⟨?_, rfl⟩, fun hs => ?_⟩
  · cases s with
    | true =>
      obtain ⟨rfl, rfl⟩ := h.yes rfl
      have := (h.ok.each _ (List.mem_singleton.2 rfl)).m0
      rw [last_one f a n last this] at h9
      unfold rPut at h9
      rw [if_pos (is_one _ _ _ _ _), idx_one] at h9
      by_cases hm : m = 16 ∧ (nth [(⟨f, a, n, last, 7⟩ : Td)] 0).m = 16
      · rw [if_pos hm] at h9
        obtain ⟨e1, e2⟩ := hm
        have e2' : last = 16 := e2
        cases h9
        rw [e1, e2']
      · rw [if_neg hm] at h9; cases h9; rfl
    | false =>
      have := h.no rfl
      subst this
      have hm : m < 16 := by simpa using hs
      have e : rAged 7 [] = [] := rfl
      rw [e] at h9
      unfold rPut at h9
      rw [if_neg (is_nil _ _ _), if_neg (by omega), if_neg (by simp)] at h9
      cases h9; rfl
  · have hs' : s = false ∧ ¬ m < 16 := by simpa using hs
    have := h.no hs'.1
    subst this
    have e : rAged 7 [] = [] := rfl
    rw [e] at h9
    unfold rPut at h9
    rw [if_neg (is_nil _ _ _), if_pos (by omega)] at h9
    cases h9; rfl
theorem LastInv.start (f a n : Int) : LastInv f a n 0 [] 0 false   := ⟨ribOk_nil, .inl rfl, (fun h => nomatch h), fun _ => rfl⟩

set_option maxRecDepth 100000 in
set_option maxHeartbeats 4000000 in
theorem ribLast_any (f a n : Int) (ms : List Int) (am : Option Addr) (cm : Nat) (w : World) (ha : 0 ≤ a ∧ a < 4294967296) (hM : Ints w.heap am ms) (hl : ms.length ≤ 9223372036854775807) :
    Calls Try.prog 3 #[.int .i64 f, .agg #[.int .u32 a, .int .i64 n], .slice am ms.length cm] w (RetV w (.bool true)) := by
  have k1 := IsRib.new (w.alloc (.cells #[.int .u32 a, .int .i64 n] 24))
  rw [show (w.alloc (.cells #[.int .u32 a, .int .i64 n] 24)).heap.size = w.heap.size + 1 by simp] at k1
  go_enter Try.func3, Try.ntmps3
  go_wp2_with (go_at_call 13; refine (ribNew_any _).mono ?_; rintro e w' ⟨rfl, rfl⟩)
  go_wp2_with (go_at_call 14; refine (learn_any _ k1 ribOk_nil (by simp) 1 0 0 5 0 (by decide)).mono ?_)
  intro e1 w1 R1
  obtain ⟨rfl, k2, hF1⟩ := R1.okE learn_one
  go_wp2_with (go_at_call 15; refine (ribList_any _ k2 (by simp)).mono ?_)
  intro e2 w2 R2
  obtain ⟨a2, c2, ob2, rfl, hO2, hF2, hN2⟩ := R2
  have hFw2 : Fr (fun _ => False) w w2 := ((((Fr.refl _ w).alloc _).alloc _).trans' hF1 (fun q hq h => by omega)).trans hF2
  have c4 := Blk.cell ((Blk.made w 24 [.int .u32 a, .int .i64 n]).alloc (.cells #[.int .i64 0, .slice none 0 0] 74) |>.fr hF1 (by omega) |>.fr hF2 (fun h => h))
  have d0 := c4 0
  have d1 := c4 1
  have s2 : w.heap.size < w2.heap.size := by have := hF1.size; have := hF2.size; simp at *; omega
  simp only [List.getElem?_cons_zero, List.getElem?_cons_succ] at d0 d1
  clear hO2 hN2 R1 k1 k2 hF1 hF2 c4
  have k3 := IsRib.new w2
  go_wp2_with (go_at_call 13; refine (ribNew_any _).mono ?_; rintro e w' ⟨rfl, rfl⟩)
  go_loopw [10, 8, 9] (fun s10 s8 s9 wr => ∃ (k : Nat) (now last : Int) (l : List Td) (sm : Bool), k ≤ ms.length ∧ s10 = .int .i64 k ∧ s8 = .int .i64 last ∧ s9 = .bool sm ∧ IsRib wr.heap (w2.heap.size + 1) w2.heap.size now l ∧ Fr (fun _ => False) w2 wr ∧ w2.heap.size + 1 ≤ wr.heap.size ∧ LastInv f a n now l last sm) (fun s _ _ _ => ms.length - (intOf s).toNat)
  case atStart => exact ⟨0, 0, 0, [], false, by omega, rfl, rfl, rfl, k3, (Fr.refl _ _).alloc _, by simp, LastInv.start f a n⟩
  case round =>
    obtain ⟨k, now, last, l, sm, hk, rfl, rfl, rfl, hI, hF, hs, hL⟩ := hrel
    have e0 := (hF.cell (p := ⟨w.heap.size, 0, none⟩) s2 (fun h => h)).trans d0
    have e1 := (hF.cell (p := ⟨w.heap.size, 1, none⟩) s2 (fun h => h)).trans d1
    by_cases hkl : k < ms.length
    · obtain ⟨bm, om, rfl, hbm, hcm⟩ := Ints.pos hM (by omega)
      have e2 := (hF.cell (p := ⟨bm, om + k, none⟩) (by have := hFw2.size; show bm < _; omega) (fun h => h)).trans ((hFw2.cell (p := ⟨bm, om + k, none⟩) hbm (fun h => h)).trans (hcm w rfl k hkl))
      clear hcm
      generalize nth ms k = m at *
      go_wp2
      (refine wp_region_mix (fun _ => True) 7 (by kernel_rfl) (by kernel_rfl) (trivial) ?_; simp only [List.take_succ_cons, List.take_zero, List.drop_succ_cons, List.drop_zero])
      (refine wpMix_earlyN 7 (by kernel_rfl) (by kernel_rfl) ?_; simp only [List.take_succ_cons, List.take_zero, List.drop_succ_cons, List.drop_zero]; (repeat (go_big_quiet_step (fail))); refine wpQuiet_nil ?_)
      refine wpMix_nil ?_
      have hID : IsRib wr.drew.heap (w2.heap.size + 1) w2.heap.size now l := hI
      go_wp2_with (go_at_call 14; refine (learn_any wr.drew hID hL.ok hs f a n m 7 ha).mono ?_)
      intro e3 w3 R3
      cases hr : learnE now l f a n m 7 with
      | error q =>
        obtain ⟨rfl, hF3⟩ := R3.errE hr
        have hF4 := hF.drew.trans hF3
        have hI4 := hID.fr hF3 (fun _ h => h.elim)
        have hs4 : w2.heap.size + 1 ≤ w3.heap.size := Nat.le_trans hs hF3.size
        clear hr R3
        go_wp2
        go_roundw
        case rel => exact ⟨k + 1, now, last, l, sm, by omega, by go_num, rfl, rfl, hI4, hF4, hs4, hL⟩
        case measure => simp [intOf]; omega
      | ok l' =>
        obtain ⟨rfl, hI4, hF3⟩ := R3.okE hr
        have hL4 := hL.step ha hr
        have hF4 := hF.drew.trans' hF3 (fun q hq h => by omega)
        have hs4 : w2.heap.size + 1 ≤ w3.heap.size := Nat.le_trans hs hF3.size
        have e5 := (hF3.cell (p := ⟨bm, om + k, none⟩) (by have := hFw2.size; show bm < wr.heap.size; omega) (by have := hFw2.size; show ¬ bm = w2.heap.size; omega)).trans e2
        clear hr R3
        cases sm with
        | true =>
          go_wp2
          go_roundw
          case rel => exact ⟨k + 1, 7, m, l', true, by omega, by go_num, rfl, rfl, hI4, hF4, hs4, hL4⟩
          case measure => simp [intOf]; omega
        | false =>
          by_cases h16 : m < 16
          · rw [decide_eq_true h16] at hL4
            go_wp2
            go_roundw
            case rel => exact ⟨k + 1, 7, m, l', true, by omega, by go_num, rfl, rfl, hI4, hF4, hs4, hL4⟩
            case measure => simp [intOf]; omega
          · rw [decide_eq_false h16] at hL4
            go_wp2
            go_roundw
            case rel => exact ⟨k + 1, 7, m, l', false, by omega, by go_num, rfl, by rw [decide_eq_false (by omega)], hI4, hF4, hs4, hL4⟩
            case measure => simp [intOf]; omega
    · obtain rfl : k = ms.length := by omega
      cases sm with
      | false =>
        have hl0 := hL.no rfl
        subst hl0
        go_wp2_with (go_at_call 15; refine (ribList_any wr hI (by simp)).mono ?_)
        intro e5 w5 R5
        obtain ⟨a5, c5, ob5, rfl, hO5, hF5, hN5⟩ := R5
        go_wp2
        go_ret
        exact RetV.mk rfl rfl ((hFw2.trans hF).trans hF5)
      | true =>
        obtain ⟨hl0, rfl⟩ := hL.yes rfl
        subst hl0
        go_wp2_with (go_at_call 15; refine (ribList_any wr hI (by simp)).mono ?_)
        intro e5 w5 R5
        obtain ⟨a5, c5, ob5, rfl, hO5, hF5, hN5⟩ := R5
        obtain ⟨g, rfl, rfl, hg, hc, -⟩ := hO5.pos (by simp)
        have q0 := hc 0 (by simp)
        have q1 := hc 1 (by simp)
        have q2 := hc 2 (by simp)
        have q3 := hc 3 (by simp)
        simp only [List.flatMap_cons, List.flatMap_nil, List.append_nil, Td.hcells, List.getElem?_cons_zero, List.getElem?_cons_succ] at q0 q1 q2 q3
        have e6 := (hF5.cell (p := ⟨w.heap.size, 0, none⟩) (by show w.heap.size < _; omega) (fun h => h)).trans e0
        have e7 := (hF5.cell (p := ⟨w.heap.size, 1, none⟩) (by show w.heap.size < _; omega) (fun h => h)).trans e1
        clear hc hO5
        go_wp2
        go_quiet (fail)
        go_wp2
        go_ret
        exact RetV.mk rfl rfl (((hFw2.trans hF).trans hF5).drewN nq)
end Go.Proofs.Ytoenopfmlgapbaa
