import Derived.Test.YtgfbkebbnfcgkaaRibW4
namespace Go.Proofs.Ytgfbkebbnfcgkaa
open Go.RowKit

theorem ck_none {now0 f now : Int} (h : ckO now0 f now = none) : ¬ ckErr now0 f now := fun hc => by unfold ckO at h; rw [if_pos hc] at h; cases h
theorem ck_some {now0 f now k : Int} (h : ckO now0 f now = some k) : ckErr now0 f now ∧ k = 1 := by
  unfold ckO at h
  by_cases hc : ckErr now0 f now
  · rw [if_pos hc] at h; cases h; exact ⟨hc, rfl⟩
  · rw [if_neg hc] at h; cases h

theorem rIs_iff (A : List Td) (f a n : Int) (x : Td) (h : x = nth A (rIdx A f a n)) : rIs A f a n ↔ rIdx A f a n < A.length ∧ x.f = f ∧ x.a = a ∧ x.n = n := by subst h; exact Iff.rfl

set_option maxRecDepth 100000 in
set_option maxHeartbeats 4000000 in
theorem learn_any {base br : Nat} {now0 : Int} {l : List Td} (w : World) (hR : IsRib w.heap base br now0 l) (hb : RibOk now0 l) (hbase : base ≤ w.heap.size) (f a n m now : Int) (ha : 0 ≤ a ∧ a < 4294967296) :
    Calls Try.prog 29 #[.pointer (some ⟨br, 0, none⟩), .int .i64 f, .agg #[.int .u32 a, .int .i64 n], .int .i64 m, .int .i64 now] w (RibPost w base br (learnE now0 l f a n m now) now) := by
  obtain ⟨⟨v, hB⟩, hbr⟩ := hR.blk
  obtain ⟨LE, hLE⟩ : ∃ LE, LE = learnE now0 l f a n m now := ⟨_, rfl⟩
  rw [← hLE]
  have hR2 := hR.fr (((Fr.refl (fun _ => False) w).alloc (.cells #[.int .i64 f] 3)).alloc (.cells #[.int .u32 a, .int .i64 n] 34)) (fun _ h => h.elim)
  go_enter Try.func29, Try.ntmps29
  go_wp2_with (go_at_call 49; refine (ribCheck_any _ hR2 f now).mono ?_)
  intro e1 w1 R1
  cases hck : ckO now0 f now with
  | some k =>
    rw [hck] at R1
    obtain ⟨h1, rfl⟩ := ck_some hck
    have hX := Lib.hid (show LE = .error 1 by rw [hLE]; exact if_pos h1)
    obtain ⟨rfl, rfl⟩ : e1 = .returned (errv 1) ∧ _ = w1 := R1
    clear hck h1 hLE
    go_wp2
    go_ret
    exact RibPost.err hX.out rfl (((Fr.refl _ _).alloc _).alloc _)
  | none =>
    rw [hck] at R1
    have hc := ck_none hck
    have hLE2 : LE = match netErr a n with
      | some k => .error k
      | none => if m < 1 ∨ 16 < m then .error 1 else rPut (rAged now l) f a n m now := by rw [hLE]; exact if_neg hc
    have hn : now0 ≤ now ∧ now ≤ 1099511627776 := by unfold ckErr at hc; omega
    obtain ⟨rfl, rfl⟩ : e1 = .returned .nilIface ∧ _ = w1 := R1
    have HLE := Lib.hid hLE2
    clear hck hc hLE hLE2
    go_wp2_with (go_at_call 15; refine (pcheck_any a n _ ha).mono ?_)
    intro e2 w2 R2
    cases hne : netErr a n with
    | some k =>
      rw [hne] at R2
      have hX := Lib.hid (show LE = .error k by rw [HLE.out, hne])
      obtain ⟨rfl, hF2⟩ : e2 = .returned (errv k) ∧ _ := R2
      clear hne
      go_wp2
      go_ret
      exact RibPost.err hX.out rfl ((((Fr.refl _ w).alloc _).alloc _).trans hF2)
    | none =>
      rw [hne] at R2
      obtain ⟨rfl, hF2⟩ : e2 = .returned .nilIface ∧ _ := R2
      have hFw2 := (((Fr.refl (fun _ => False) w).alloc (.cells #[.int .i64 f] 3)).alloc (.cells #[.int .u32 a, .int .i64 n] 34)).trans hF2
      by_cases hm : m < 1 ∨ 16 < m
      · have hX := Lib.hid (show LE = .error 1 by rw [HLE.out, hne]; exact if_pos hm)
        clear hne
        go_wp2
        all_goals go_ret
        all_goals exact RibPost.err hX.out rfl hFw2
      · have HL2 := Lib.hid (show LE = rPut (rAged now l) f a n m now by rw [HLE.out, hne]; exact if_neg hm)
        have hR3 := hR.fr hFw2 (fun _ h => h.elim)
        clear hne
        go_wp2_with (go_at_call 50; refine (aged_any _ hR3 hb now hn.1 hn.2).mono ?_)
        intro e3 w3 R3
        obtain ⟨a3, c3, ob3, rfl, hO3, hF3, hN3⟩ := R3
        have hFw3 := hFw2.trans hF3
        have hAok := rAged_ok hb hn.1 hn.2
        generalize rAged now l = A at *
        have hAl := hAok.len
        have s2 : w.heap.size + 2 ≤ w2.heap.size := by have := hF2.size; simpa using this
        have p6 : w3.cell? ⟨w.heap.size, 0, none⟩ = some (.int .i64 f) := by
          rw [hF3.cell (p := ⟨w.heap.size, 0, none⟩) (by show w.heap.size < _; omega) (fun h => h), hF2.cell (p := ⟨w.heap.size, 0, none⟩) (by simp; omega) (fun h => h)]
          simp
        have p7 : w3.cell? ⟨w.heap.size + 1, 0, none⟩ = some (.int .u32 a) := by
          rw [hF3.cell (p := ⟨w.heap.size + 1, 0, none⟩) (by show w.heap.size + 1 < _; omega) (fun h => h), hF2.cell (p := ⟨w.heap.size + 1, 0, none⟩) (by simp) (fun h => h)]
          simp
        have p8 : w3.cell? ⟨w.heap.size + 1, 1, none⟩ = some (.int .i64 n) := by
          rw [hF3.cell (p := ⟨w.heap.size + 1, 1, none⟩) (by show w.heap.size + 1 < _; omega) (fun h => h), hF2.cell (p := ⟨w.heap.size + 1, 1, none⟩) (by simp) (fun h => h)]
          simp
        have s3 := hF3.size
        go_wp2_with (go_at_call 51; refine (idxf_any A a3 c3 f a n w.heap.size (w.heap.size + 1) _ hO3.rd hAl p6 p7 p8 (by omega) (by omega)).mono ?_)
        intro e4 w4 R4
        obtain ⟨rfl, hF4⟩ := R4
        have hFw4 := hFw3.trans hF4
        have hO4 := hO3.fr hF4 (fun _ _ h => h)
        have p6' := (hF4.cell (p := ⟨w.heap.size, 0, none⟩) (by show w.heap.size < _; omega) (fun h => h)).trans p6
        have p7' := (hF4.cell (p := ⟨w.heap.size + 1, 0, none⟩) (by show w.heap.size + 1 < _; omega) (fun h => h)).trans p7
        have p8' := (hF4.cell (p := ⟨w.heap.size + 1, 1, none⟩) (by show w.heap.size + 1 < _; omega) (fun h => h)).trans p8
        have hN4 : ∀ g, ob3 = some g → w.heap.size + 2 ≤ g := fun g hg => by have := hN3 g hg; omega
        have hB4 := hB.fr hFw4 (fun h => h)
        have hI1 := rIdx_le A f a n
        have hE4 : idxI A f a n = if rIdx A f a n < A.length then (rIdx A f a n : Int) else -1 := rfl
        obtain ⟨I, hI⟩ : ∃ I, I = rIdx A f a n := ⟨_, rfl⟩
        rw [← hI] at hE4 hI1
        clear hF3 hF4 hO3 p6 p7 p8 hR hR2 hR3 hB s3 hN3
        by_cases hIl : I < A.length
        · rw [if_pos hIl] at hE4
          rw [hE4]
          clear hE4
          have HI := Lib.hid hI
          clear hI
          obtain ⟨b, rfl, rfl, hbb, hc, hfz⟩ := hO4.pos (by omega)
          obtain ⟨x, hx⟩ : ∃ x, x = nth A I := ⟨_, rfl⟩
          have hcx : ∀ j, j < 5 → w4.cell? ⟨b, I * 5 + j, none⟩ = (Td.cells x)[j]? := fun j hj => by rw [hc _ (by omega), flat_get _ 5 Td.cells_len _ _ _ hIl hj, hx]
          have e0 := hcx 0 (by omega)
          have e1 := hcx 1 (by omega)
          have e2 := hcx 2 (by omega)
          have e3 := hcx 3 (by omega)
          have e4 := hcx 4 (by omega)
          have z3 := hfz (I * 5 + 3)
          have z4 := hfz (I * 5 + 4)
          obtain ⟨xf, xa, xn, xm, xt⟩ := x
          simp only [Td.cells, List.getElem?_cons_zero, List.getElem?_cons_succ, Nat.add_zero] at e0 e1 e2 e3 e4
          have HX := Lib.hid hx
          clear hc hfz hx hcx
          have hO5 : Ownd (w4.drewN 0).heap 128 5 (some ⟨b, 0, none⟩) A.length c3 (A.flatMap Td.cells) (some b) := hO4
          have b0 := hB4.cell 0
          have b1 := hB4.cell 1
          have f0 := hB4.frozen 0
          have f1 := hB4.frozen 1
          simp only [List.getElem?_cons_succ, List.getElem?_cons_zero] at b0 b1
          have hbw := hB4.lt
          have hgb : w.heap.size + 2 ≤ b := hN4 b rfl
          have hbb2 : br < w.heap.size := by omega
          by_cases hk : xf = f ∧ xa = a ∧ xn = n
          · have q0 : (xf == f) = true := by simp [hk.1]
            have q1 : (xa == a) = true := by simp [hk.2.1]
            have q2 : (xn == n) = true := by simp [hk.2.2]
            have HIS := Lib.hid (show rIs A f a n from (rIs_iff A f a n ⟨xf, xa, xn, xm, xt⟩ (by rw [← HI.out]; exact HX.out)).2 ⟨by rw [← HI.out]; exact hIl, hk⟩)
            have HK := Lib.hid hk
            clear hk
            by_cases h16 : m = 16 ∧ xm = 16
            · have hX := Lib.hid (show LE = .ok A by rw [HL2.out, rPut, if_pos HIS.out, ← HI.out, ← HX.out]; exact if_pos h16)
              have t0 : (m == 16) = true := by simp [h16.1]
              have t1 : (xm == 16) = true := by simp [h16.2]
              have hI5 := Lib.hid (IsRib.put (now := now) hB4 hO4 (fun g hg => by have := hN4 g hg; omega) hbr)
              have hFF := Lib.hid (Fr.at1 (g := br) (Fr.at1 (g := br) (hFw4.none _) 1 (.slice (some ⟨b, 0, none⟩) A.length c3)) 0 (.int .i64 now))
              clear h16 hO4 hO5
              go_wp2
              go_quiet (fail)
              go_wp2
              go_ret
              exact RibPost.ok hX.out rfl (by exact hI5.out) (by exact hFF.out.drewN nq)
            · have hX := Lib.hid (show LE = .ok (A.set I ⟨f, a, n, m, now⟩) by rw [HL2.out, rPut, if_pos HIS.out, ← HI.out, ← HX.out]; exact if_neg h16)
              have hset := (hO4.set rfl (I * 5 + 3) (.int .i64 m)).set rfl (I * 5 + 4) (.int .i64 now)
              have hset2 : (((A.flatMap Td.cells).set (I * 5 + 3) (.int .i64 m)).set (I * 5 + 4) (.int .i64 now)) = (A.set I ⟨f, a, n, m, now⟩).flatMap Td.cells := by
                have h1 : A = A.take I ++ nth A I :: A.drop (I + 1) := by rw [← drop_nth A I hIl, List.take_append_drop]
                have hfl : ((A.take I).flatMap Td.cells).length = I * 5 := by rw [flat_len _ _ Td.cells_len, List.length_take, Nat.min_eq_left (by omega)]
                have h2 : A.set I ⟨f, a, n, m, now⟩ = A.take I ++ ⟨f, a, n, m, now⟩ :: A.drop (I + 1) := by rw [List.set_eq_take_append_cons_drop, if_pos hIl]
                rw [h2]
                conv => lhs; rw [h1]
                rw [List.flatMap_append, List.flatMap_append, List.set_append_right _ _ (by omega), List.set_append_right _ _ (by omega), hfl, Nat.add_sub_cancel_left, Nat.add_sub_cancel_left, ← HX.out, HK.out.1, HK.out.2.1, HK.out.2.2]
                rfl
              rw [hset2] at hset
              have hBs := (hB4.other (p := ⟨b, I * 5 + 3, none⟩) (by show br ≠ b; omega) (.int .i64 m)).other (p := ⟨b, I * 5 + 4, none⟩) (by show br ≠ b; omega) (.int .i64 now)
              have hls : (A.set I ⟨f, a, n, m, now⟩).length = A.length := List.length_set
              generalize A.set I ⟨f, a, n, m, now⟩ = A2 at *
              rw [← hls] at hset
              have hI5 := Lib.hid (IsRib.put (now := now) hBs hset (fun g hg => by have := hN4 g hg; omega) hbr)
              rw [hls] at hI5
              have hFF := Lib.hid (Fr.at1 (g := br) (Fr.at1 (g := br) (((hFw4.setCell (p := ⟨b, I * 5 + 3, none⟩) (fun h => by simp only at h; omega) (.int .i64 m)).setCell (p := ⟨b, I * 5 + 4, none⟩) (fun h => by simp only at h; omega) (.int .i64 now)).none _) 1 (.slice (some ⟨b, 0, none⟩) A.length c3)) 0 (.int .i64 now))
              have t0 : (m == 16) = false ∨ ((m == 16) = true ∧ (xm == 16) = false) := by
                by_cases h : m = 16
                · exact .inr ⟨by simp [h], by simpa using fun h' => h16 ⟨h, h'⟩⟩
                · exact .inl (by simpa using h)
              clear h16 hO4 hO5 hset hset2 hls hBs
              rcases t0 with t0 | ⟨t0, t1⟩
              all_goals
                go_wp2
                go_quiet (fail)
                go_wp2
                go_ret
                exact RibPost.ok hX.out rfl (by exact hI5.out) (by exact hFF.out.drewN nq)
          · have q : (xf == f) = false ∨ ((xf == f) = true ∧ (xa == a) = false) ∨ ((xf == f) = true ∧ (xa == a) = true ∧ (xn == n) = false) := by
              simp only [beq_eq_false_iff_ne, beq_iff_eq, ne_eq]
              omega
            have HNIS := Lib.hid (show ¬ rIs A f a n from fun h => hk ((rIs_iff A f a n ⟨xf, xa, xn, xm, xt⟩ (by rw [← HI.out]; exact HX.out)).1 h).2)
            clear hk hO5 e3 e4 z3 z4
            by_cases h16 : m = 16
            · have hX := Lib.hid (show LE = .ok A by rw [HL2.out, rPut, if_neg HNIS.out, if_pos h16])
              have t0 : (m == 16) = true := by simp [h16]
              have hI5 := Lib.hid (IsRib.put (now := now) hB4 hO4 (fun g hg => by have := hN4 g hg; omega) hbr)
              have hFF := Lib.hid (Fr.at1 (g := br) (Fr.at1 (g := br) (hFw4.none _) 1 (.slice (some ⟨b, 0, none⟩) A.length c3)) 0 (.int .i64 now))
              clear h16 hO4
              rcases q with q0 | ⟨q0, q1⟩ | ⟨q0, q1, q2⟩
              all_goals
                go_wp2
                go_quiet (fail)
                go_wp2
                go_ret
                exact RibPost.ok hX.out rfl (by exact hI5.out) (by exact hFF.out.drewN nq)
            · have t0 : (m == 16) = false := by simpa using h16
              by_cases hfull : 64 ≤ A.length
              · have hX := Lib.hid (show LE = .error 4 by rw [HL2.out, rPut, if_neg HNIS.out, if_neg h16, if_pos hfull])
                clear h16 hO4
                rcases q with q0 | ⟨q0, q1⟩ | ⟨q0, q1, q2⟩
                all_goals
                  go_wp2
                  go_quiet (fail)
                  go_wp2
                  go_ret
                  exact RibPost.err hX.out rfl (hFw4.drewN nq)
              · have hX := Lib.hid (show LE = .ok (A.take I ++ ⟨f, a, n, m, now⟩ :: A.drop I) by rw [HL2.out, rPut, if_neg HNIS.out, if_neg h16, if_neg hfull, ← HI.out])
                have hV := Blk.made w4 128 [.int .i64 f, .int .u32 a, .int .i64 n, .int .i64 m, .int .i64 now]
                have hvb : (some b) ≠ some w4.heap.size := fun h => by have := hO4.lt _ h; omega
                have hO6 := hO4.alloc (.cells #[.int .i64 f, .int .u32 a, .int .i64 n, .int .i64 m, .int .i64 now] 128)
                have hB6 := hB4.alloc (.cells #[.int .i64 f, .int .u32 a, .int .i64 n, .int .i64 m, .int .i64 now] 128)
                have hF6 := hFw4.alloc (.cells #[.int .i64 f, .int .u32 a, .int .i64 n, .int .i64 m, .int .i64 now] 128)
                have hi5 : ((I : Int) < 0) = False := by simp
                clear h16 hO4
                rcases q with q0 | ⟨q0, q1⟩ | ⟨q0, q1, q2⟩
                all_goals
                  go_wp2
                  go_quiet (fail)
                  have hV7 : Blk ((w4.drewN nq).alloc (.cells #[.int .i64 f, .int .u32 a, .int .i64 n, .int .i64 m, .int .i64 now] 128)).heap w4.heap.size 128 (Td.cells ⟨f, a, n, m, now⟩) := hV
                  have hO7' : Ownd ((w4.drewN nq).alloc (.cells #[.int .i64 f, .int .u32 a, .int .i64 n, .int .i64 m, .int .i64 now] 128)).heap 128 5 (some ⟨b, 0, none⟩) A.length c3 (A.flatMap Td.cells) (some b) := hO6
                  go_wp2_with (go_at_call 54; refine (insert_td A ⟨f, a, n, m, now⟩ (some ⟨b, 0, none⟩) c3 (some b) w4.heap.size _ hO7' hV7 hvb I hI1 (by omega)).mono ?_)
                  intro e7 w7 R7
                  obtain ⟨a7, c7, ob7, rfl, hO7, hF7, hN7⟩ := R7
                  have hl7 : (A.take I ++ ⟨f, a, n, m, now⟩ :: A.drop I).length = A.length + 1 := by simp; omega
                  have hbne : (some b) ≠ some br := fun h => by have := hN4 _ h; have := hB4.lt; omega
                  have hB7 := hB6.fr (w := (w4.drewN nq).alloc (.cells #[.int .i64 f, .int .u32 a, .int .i64 n, .int .i64 m, .int .i64 now] 128)) hF7 hbne
                  have hN7' : ∀ g, ob7 = some g → base ≤ g := fun g hg => by
                    rcases hN7 with h | ⟨g', h, h'⟩
                    · rw [h] at hg; have := hN4 g hg; omega
                    · rw [hg] at h; cases h; have := hFw4.size; simp at h'; omega
                  have hF8 : Fr (fun _ => False) w w7 := (hF6.drewN nq).trans' hF7 (fun q hq h => by have := hN4 q h; omega)
                  generalize A.take I ++ ⟨f, a, n, m, now⟩ :: A.drop I = A2 at *
                  rw [← hl7] at hO7
                  have b0 := hB7.cell 0
                  have b1 := hB7.cell 1
                  have f0 := hB7.frozen 0
                  have f1 := hB7.frozen 1
                  simp only [List.getElem?_cons_succ, List.getElem?_cons_zero] at b0 b1
                  have hI5 := Lib.hid (IsRib.put (now := now) hB7 hO7 hN7' hbr)
                  rw [hl7] at hI5
                  have hFF := Lib.hid (Fr.at1 (g := br) (Fr.at1 (g := br) (hF8.none _) 1 (.slice a7 (A.length + 1) c7)) 0 (.int .i64 now))
                  have hbw7 := hB7.lt
                  clear hO7 hB7 hF7 hN7 hN7' hl7 hO6 hB6
                  go_wp2
                  go_ret
                  exact RibPost.ok hX.out rfl (by exact hI5.out) (by exact hFF.out)
        · rw [if_neg hIl] at hE4
          rw [hE4]
          clear hE4
          have hIA : I = A.length := by omega
          have HNIS := Lib.hid (show ¬ rIs A f a n from fun h => by have := h.1; omega)
          have HI := Lib.hid hI
          clear hI
          subst hIA
          have b0 := hB4.cell 0
          have b1 := hB4.cell 1
          have f0 := hB4.frozen 0
          have f1 := hB4.frozen 1
          simp only [List.getElem?_cons_succ, List.getElem?_cons_zero] at b0 b1
          have hbw := hB4.lt
          have hbb2 : br < w.heap.size := by omega
          by_cases h16 : m = 16
          · have hX := Lib.hid (show LE = .ok A by rw [HL2.out, rPut, if_neg HNIS.out, if_pos h16])
            have t0 : (m == 16) = true := by simp [h16]
            have hI5 := Lib.hid (IsRib.put (now := now) hB4 hO4 (fun g hg => by have := hN4 g hg; omega) hbr)
            have hFF := Lib.hid (Fr.at1 (g := br) (Fr.at1 (g := br) (hFw4.none _) 1 (.slice a3 A.length c3)) 0 (.int .i64 now))
            clear h16 hO4
            go_wp2
            go_quiet (fail)
            go_wp2
            go_ret
            exact RibPost.ok hX.out rfl (by exact hI5.out) (by exact hFF.out.drewN nq)
          · have t0 : (m == 16) = false := by simpa using h16
            by_cases hfull : 64 ≤ A.length
            · have hX := Lib.hid (show LE = .error 4 by rw [HL2.out, rPut, if_neg HNIS.out, if_neg h16, if_pos hfull])
              clear h16 hO4
              go_wp2
              go_quiet (fail)
              go_wp2
              go_ret
              exact RibPost.err hX.out rfl (hFw4.drewN nq)
            · have hX := Lib.hid (show LE = .ok (A.take A.length ++ ⟨f, a, n, m, now⟩ :: A.drop A.length) by rw [HL2.out, rPut, if_neg HNIS.out, if_neg h16, if_neg hfull, ← HI.out])
              have hV := Blk.made w4 128 [.int .i64 f, .int .u32 a, .int .i64 n, .int .i64 m, .int .i64 now]
              have hvb : ob3 ≠ some w4.heap.size := fun h => by have := hO4.lt _ h; omega
              have hO6 := hO4.alloc (.cells #[.int .i64 f, .int .u32 a, .int .i64 n, .int .i64 m, .int .i64 now] 128)
              have hB6 := hB4.alloc (.cells #[.int .i64 f, .int .u32 a, .int .i64 n, .int .i64 m, .int .i64 now] 128)
              have hF6 := hFw4.alloc (.cells #[.int .i64 f, .int .u32 a, .int .i64 n, .int .i64 m, .int .i64 now] 128)
              clear h16 hO4
              go_wp2
              go_quiet (fail)
              have hV7 : Blk ((w4.drewN nq).alloc (.cells #[.int .i64 f, .int .u32 a, .int .i64 n, .int .i64 m, .int .i64 now] 128)).heap w4.heap.size 128 (Td.cells ⟨f, a, n, m, now⟩) := hV
              have hO7' : Ownd ((w4.drewN nq).alloc (.cells #[.int .i64 f, .int .u32 a, .int .i64 n, .int .i64 m, .int .i64 now] 128)).heap 128 5 a3 A.length c3 (A.flatMap Td.cells) ob3 := hO6
              go_wp2_with (go_at_call 54; refine (insert_td A ⟨f, a, n, m, now⟩ a3 c3 ob3 w4.heap.size _ hO7' hV7 hvb A.length (Nat.le_refl _) (by omega)).mono ?_)
              intro e7 w7 R7
              obtain ⟨a7, c7, ob7, rfl, hO7, hF7, hN7⟩ := R7
              have hl7 : (A.take A.length ++ ⟨f, a, n, m, now⟩ :: A.drop A.length).length = A.length + 1 := by simp
              have hbne : ob3 ≠ some br := fun h => by have := hN4 _ h; have := hB4.lt; omega
              have hB7 := hB6.fr (w := (w4.drewN nq).alloc (.cells #[.int .i64 f, .int .u32 a, .int .i64 n, .int .i64 m, .int .i64 now] 128)) hF7 hbne
              have hN7' : ∀ g, ob7 = some g → base ≤ g := fun g hg => by
                rcases hN7 with h | ⟨g', h, h'⟩
                · rw [h] at hg; have := hN4 g hg; omega
                · rw [hg] at h; cases h; have := hFw4.size; simp at h'; omega
              have hF8 : Fr (fun _ => False) w w7 := (hF6.drewN nq).trans' hF7 (fun q hq h => by have := hN4 q h; omega)
              generalize A.take A.length ++ ⟨f, a, n, m, now⟩ :: A.drop A.length = A2 at *
              rw [← hl7] at hO7
              have b0 := hB7.cell 0
              have b1 := hB7.cell 1
              have f0 := hB7.frozen 0
              have f1 := hB7.frozen 1
              simp only [List.getElem?_cons_succ, List.getElem?_cons_zero] at b0 b1
              have hI5 := Lib.hid (IsRib.put (now := now) hB7 hO7 hN7' hbr)
              rw [hl7] at hI5
              have hFF := Lib.hid (Fr.at1 (g := br) (Fr.at1 (g := br) (hF8.none _) 1 (.slice a7 (A.length + 1) c7)) 0 (.int .i64 now))
              have hbw7 := hB7.lt
              clear hO7 hB7 hF7 hN7 hN7' hl7 hO6 hB6
              go_wp2
              go_ret
              exact RibPost.ok hX.out rfl (by exact hI5.out) (by exact hFF.out)
end Go.Proofs.Ytgfbkebbnfcgkaa
