import Derived.Test.YtfjempfffdeklaaDoorTrigW
namespace Go.Proofs.YtfjempfffdeklaaDoor
open Go.RowKit

/-- What becomes of news, when a net is noted. -/
def NotePost (w : World) (bt : Nat) (hold last : Int) (ob : Option Nat) (r : Except Int (List Nt)) (now : Int) (e : Ending) (w' : World) : Prop :=
  match r with
  | .error k => e = .returned (errv k) ∧ Fr (fun _ => False) w w'
  | .ok l' => e = .returned .nilIface ∧ ∃ ob', IsTrig w'.heap bt hold now last l' ob' ∧ Fr (fun k => k = bt ∨ ob = some k) w w' ∧ (ob' = ob ∨ ∃ g, ob' = some g ∧ w.heap.size ≤ g)
theorem NotePost.err {w w' : World} {bt : Nat} {hold last : Int} {ob : Option Nat} {r : Except Int (List Nt)} {now k : Int} {e : Ending} (h : r = .error k) (h1 : e = .returned (errv k)) (h2 : Fr (fun _ => False) w w') : NotePost w bt hold last ob r now e w' := by
  subst h; exact ⟨h1, h2⟩
theorem NotePost.ok {w w' : World} {bt : Nat} {hold last : Int} {ob ob' : Option Nat} {r : Except Int (List Nt)} {l' : List Nt} {now : Int} {e : Ending} (h : r = .ok l') (h1 : e = .returned .nilIface) (h2 : IsTrig w'.heap bt hold now last l' ob') (h3 : Fr (fun k => k = bt ∨ ob = some k) w w') (h4 : ob' = ob ∨ ∃ g, ob' = some g ∧ w.heap.size ≤ g) : NotePost w bt hold last ob r now e w' := by
  subst h; exact ⟨h1, ob', h2, h3, h4⟩
theorem NotePost.okE {w w' : World} {bt : Nat} {hold last : Int} {ob : Option Nat} {r : Except Int (List Nt)} {l' : List Nt} {now : Int} {e : Ending} (h : NotePost w bt hold last ob r now e w') (hr : r = .ok l') : e = .returned .nilIface ∧ ∃ ob', IsTrig w'.heap bt hold now last l' ob' ∧ Fr (fun k => k = bt ∨ ob = some k) w w' ∧ (ob' = ob ∨ ∃ g, ob' = some g ∧ w.heap.size ≤ g) := by subst hr; exact h
theorem NotePost.errE {w w' : World} {bt : Nat} {hold last : Int} {ob : Option Nat} {r : Except Int (List Nt)} {now k : Int} {e : Ending} (h : NotePost w bt hold last ob r now e w') (hr : r = .error k) : e = .returned (errv k) ∧ Fr (fun _ => False) w w' := by subst hr; exact h
theorem tk_none {now0 now : Int} (h : tkO now0 now = none) : ¬ tkErr now0 now := fun hc => by unfold tkO at h; rw [if_pos hc] at h; cases h
theorem tk_some {now0 now k : Int} (h : tkO now0 now = some k) : tkErr now0 now ∧ k = 1 := by
  unfold tkO at h
  by_cases hc : tkErr now0 now
  · rw [if_pos hc] at h; cases h; exact ⟨hc, rfl⟩
  · rw [if_neg hc] at h; cases h
theorem Fr.bt {w w' : World} {bt : Nat} {ob : Option Nat} (h : Fr (fun k => k = bt ∨ ob = some k) w w') (i : Nat) (u : Value) : Fr (fun k => k = bt ∨ ob = some k) w (w'.setCell ⟨bt, i, none⟩ u) := h.setCell (fun _ => .inl rfl) u

theorem insert_net_eq (l : List Nt) (x : Nt) (a : Option Addr) (c : Nat) (ob : Option Nat) (vb : Nat) (w : World) (hO : Own w.heap 37 2 a l.length c (l.flatMap Nt.cells) ob) (hV : Blk w.heap vb 37 (Nt.cells x)) (hvb : ob ≠ some vb) (i : Nat) (hi : i ≤ l.length) (hl : l.length ≤ 4096) (XS : List Nt) (hX : XS = l.take i ++ x :: l.drop i) :
    Calls Tryd.prog 105 #[.slice a l.length c, .int .i64 i, .slice (some ⟨vb, 0, none⟩) 1 1] w (RetApp w ob 37 2 (l.length + 1) (XS.flatMap Nt.cells)) := by
  subst hX; exact insert_net l x a c ob vb w hO hV hvb i hi hl
set_option maxRecDepth 100000 in
set_option maxHeartbeats 4000000 in
theorem note_any {bt : Nat} {hold now0 last : Int} {l : List Nt} {ob : Option Nat} (w : World) (hR : IsTrig w.heap bt hold now0 last l ob) (hb : TrigOk hold now0 last l) (x : Nt) (now : Int) (ha : 0 ≤ x.a ∧ x.a < 4294967296) :
    Calls Tryd.prog 58 #[.pointer (some ⟨bt, 0, none⟩), .agg #[.int .u32 x.a, .int .i64 x.n], .int .i64 now] w (NotePost w bt hold last ob (noteE now0 l x now) now) := by
  obtain ⟨NE, hNE⟩ : ∃ NE, NE = noteE now0 l x now := ⟨_, rfl⟩
  rw [← hNE]
  have hbt : bt < w.heap.size := by obtain ⟨a, c, h1, _⟩ := hR; exact h1.lt
  go_enter Tryd.func58, Tryd.ntmps58
  go_wp2_with (go_at_call 71; refine (pcheck_any x.a x.n _ ha).mono ?_)
  intro e1 w1 R1
  cases hne : netErr x.a x.n with
  | some k =>
    rw [hne] at R1
    have hX := Lib.hid (show NE = .error k by rw [hNE]; unfold noteE; rw [hne])
    obtain ⟨rfl, hF1⟩ : e1 = .returned (errv k) ∧ _ := R1
    clear hne hNE
    go_wp2
    go_ret
    exact NotePost.err hX.out rfl (((Fr.refl _ w).alloc _).trans hF1)
  | none =>
    rw [hne] at R1
    obtain ⟨rfl, hF1⟩ : e1 = .returned .nilIface ∧ _ := R1
    have hFw1 := ((Fr.refl (fun _ => False) w).alloc (.cells #[.int .u32 x.a, .int .i64 x.n] 37)).trans hF1
    have hR1 := hR.fr0 hFw1
    have HN1 := Lib.hid (show NE = if tkErr now0 now then .error 1 else if nHas l x then .ok l else if l.length = 64 then .error 4 else .ok (nIns l x) by rw [hNE]; unfold noteE; rw [hne])
    have c4 := Blk.cell ((Blk.made w 37 [.int .u32 x.a, .int .i64 x.n]).fr hF1 (fun h => h))
    have d0 := c4 0
    have d1 := c4 1
    simp only [List.getElem?_cons_zero, List.getElem?_cons_succ] at d0 d1
    have s1 : w.heap.size < w1.heap.size := by have := hF1.size; simp at this; omega
    clear hne hNE c4
    go_wp2_with (go_at_call 101; refine (trigCheck_any _ hR1 now).mono ?_)
    intro e2 w2 R2
    cases htk : tkO now0 now with
    | some k =>
      rw [htk] at R2
      obtain ⟨h1, rfl⟩ := tk_some htk
      have hX := Lib.hid (show NE = .error 1 by rw [HN1.out, if_pos h1])
      obtain ⟨rfl, rfl⟩ : e2 = .returned (errv 1) ∧ _ = w2 := R2
      clear htk h1
      go_wp2
      go_ret
      exact NotePost.err hX.out rfl hFw1
    | none =>
      rw [htk] at R2
      have h1 := tk_none htk
      have HN2 := Lib.hid (show NE = if nHas l x then .ok l else if l.length = 64 then .error 4 else .ok (nIns l x) by rw [HN1.out, if_neg h1])
      obtain ⟨rfl, rfl⟩ : e2 = .returned .nilIface ∧ _ = w2 := R2
      obtain ⟨a, c, hB, hO, hob⟩ := hR1
      have b3 := hB.cell 3
      have b1 := hB.cell 1
      have f1 := hB.frozen 1
      have f3 := hB.frozen 3
      simp only [List.getElem?_cons_succ, List.getElem?_cons_zero] at b1 b3
      have hll := hb.len
      clear htk h1
      go_wp2_with (go_at_call 102; refine (nidxf_any l a c x w.heap.size _ hO.rd hll d0 d1 s1).mono ?_)
      intro e3 w3 R3
      obtain ⟨rfl, hF3⟩ := R3
      have hFw3 := hFw1.trans hF3
      have hB3 := hB.fr hF3 (fun h => h)
      have hO3 := hO.fr hF3 (fun _ _ h => h)
      have b3' := hB3.cell 3
      have b1' := hB3.cell 1
      have f1' := hB3.frozen 1
      have f3' := hB3.frozen 3
      simp only [List.getElem?_cons_succ, List.getElem?_cons_zero] at b1' b3'
      have d0' := (hF3.cell (p := ⟨w.heap.size, 0, none⟩) s1 (fun h => h)).trans d0
      have d1' := (hF3.cell (p := ⟨w.heap.size, 1, none⟩) s1 (fun h => h)).trans d1
      have hI1 := nIdx_le l x
      have hE : nIdxI l x = if nIdx l x < l.length then (nIdx l x : Int) else -1 := rfl
      have HI0 := Lib.hid (show nHas l x ↔ nIdx l x < l.length ∧ nth l (nIdx l x) = x from Iff.rfl)
      have HI2 := Lib.hid (show nIns l x = l.take (nIdx l x) ++ x :: l.drop (nIdx l x) from rfl)
      have hbw3 := hB3.lt
      obtain ⟨xa, xn⟩ := x
      simp only at d0' d1'
      generalize nIdx l ⟨xa, xn⟩ = I at *
      have hput : ∀ (W : World) (l' : List Nt) (a' : Option Addr) (c' : Nat) (ob' : Option Nat), Blk W.heap bt 175 [.int .i64 hold, .int .i64 now0, .int .i64 last, .slice a' l'.length c'] → Own W.heap 37 2 a' l'.length c' (l'.flatMap Nt.cells) ob' → ob' ≠ some bt → IsTrig (W.setCell ⟨bt, 1, none⟩ (.int .i64 now)).heap bt hold now last l' ob' := fun W l' a' c' ob' hb ho hn =>
        ⟨a', c', hb.set 1 (.int .i64 now), ho.other (p := ⟨bt, 1, none⟩) hn _, hn⟩
      clear hF3 hO hB b1 b3 f1 f3 d0 d1 hR hF1
      by_cases hIl : I < l.length
      · rw [if_pos hIl] at hE
        rw [hE]
        clear hE
        have hIe : ((I : Int) == (l.length : Int)) = false := by simp; omega
        obtain ⟨b, rfl, rfl, hbb, hc, -⟩ := hO3.pos (by omega)
        have hcx : ∀ j, j < 2 → w3.cell? ⟨b, I * 2 + j, none⟩ = (Nt.cells (nth l I))[j]? := fun j hj => by rw [hc _ (by omega), flat_get _ 2 Nt.cells_len _ _ _ hIl hj]
        have e0 := hcx 0 (by omega)
        have e1 := hcx 1 (by omega)
        obtain ⟨y, hy⟩ : ∃ y, y = nth l I := ⟨_, rfl⟩
        rw [← hy] at e0 e1 HI0
        obtain ⟨ya, yn⟩ := y
        simp only [Nt.cells, List.getElem?_cons_zero, List.getElem?_cons_succ, Nat.add_zero] at e0 e1
        clear hc hcx hy
        by_cases hk : ya = xa ∧ yn = xn
        · have q1 : (ya == xa) = true := by simp [hk.1]
          have q2 : (yn == xn) = true := by simp [hk.2]
          have hX := Lib.hid (show NE = .ok l by rw [HN2.out, if_pos (HI0.out.2 ⟨hIl, by rw [hk.1, hk.2]⟩)])
          have hP := Lib.hid (hput w3 l _ c _ hB3 hO3 hob)
          have hFF := Lib.hid (Fr.bt (bt := bt) (hFw3.none (fun k => k = bt ∨ some b = some k)) 1 (.int .i64 now))
          clear hk hput hO3
          go_wp2
          go_quiet (fail)
          go_wp2
          go_ret
          exact NotePost.ok hX.out rfl (by exact hP.out) (by exact hFF.out.drewN nq) (.inl rfl)
        · have hnh : ¬ nHas l ⟨xa, xn⟩ := fun h => hk (by have := (HI0.out.1 h).2; simp only [Nt.mk.injEq] at this; exact this)
          have q : (ya == xa) = false ∨ ((ya == xa) = true ∧ (yn == xn) = false) := by
            simp only [beq_eq_false_iff_ne, beq_iff_eq, ne_eq]
            omega
          clear hk
          by_cases h64 : l.length = 64
          · have t64 : ((l.length : Int) == 64) = true := by simp [h64]
            have hX := Lib.hid (show NE = .error 4 by rw [HN2.out, if_neg hnh, if_pos h64])
            clear hput hO3 h64 hnh
            rcases q with q1 | ⟨q1, q2⟩
            all_goals
              go_wp2
              go_quiet (fail)
              go_wp2
              go_ret
              exact NotePost.err hX.out rfl (hFw3.drewN nq)
          · have t64 : ((l.length : Int) == 64) = false := by simp; omega
            have hX := Lib.hid (show NE = .ok (nIns l ⟨xa, xn⟩) by rw [HN2.out, if_neg hnh, if_neg h64])
            clear h64 hnh
            have q3 : ∀ c' : Cls (fun k => (some b) = some k) w3, c'.wo.cell? ⟨bt, 3, none⟩ = some (.slice (some ⟨b, 0, none⟩) l.length c) := fun c' => (c'.fr.cell (p := ⟨bt, 3, none⟩) hbw3 hob).trans b3'
            rcases q with q1 | ⟨q1, q2⟩
            all_goals
              go_wp2
              go_quiet (fail)
              go_wp2
              (refine wp_region_mix (fun w' => ∃ c : Cls (fun k => (some b) = some k) w3, w' = c.wo) 9 (by kernel_rfl) (by kernel_rfl) (⟨⟨_, ((Fr.refl _ _).drewN nq).drew⟩, rfl⟩) ?_; simp only [List.take_succ_cons, List.take_zero, List.drop_succ_cons, List.drop_zero])
              (refine wpMix_lateN 6 (⟨⟨_, ((Fr.refl _ _).drewN nq).drew⟩, rfl⟩) (by kernel_rfl) ?_; simp only [List.take_succ_cons, List.take_zero, List.drop_succ_cons, List.drop_zero]; (repeat (go_big_quiet_step (fail))); refine wpQuiet_nil ?_)
              (refine wpMix_earlyN 1 (by kernel_rfl) (by kernel_rfl) ?_; simp only [List.take_succ_cons, List.take_zero, List.drop_succ_cons, List.drop_zero]; (repeat (go_big_quiet_step (fail))); refine wpQuiet_nil ?_)
              refine wpMix_eff (by kernel_rfl) ?_
              go_wp2
              refine ⟨⟨⟨_, (((Fr.refl _ w3).drewN nq).alloc _).drew⟩, rfl⟩, ?_⟩
              refine wpMix_eff (by kernel_rfl) ?_
              have hV : Blk ((w3.drewN nq).alloc (.cells #[.int .u32 xa, .int .i64 xn] 37)).drew.heap w3.heap.size 37 (Nt.cells ⟨xa, xn⟩) := Blk.made w3 37 [.int .u32 xa, .int .i64 xn]
              have hO6 : Own ((w3.drewN nq).alloc (.cells #[.int .u32 xa, .int .i64 xn] 37)).drew.heap 37 2 (some ⟨b, 0, none⟩) l.length c (l.flatMap Nt.cells) (some b) := hO3.alloc (.cells #[.int .u32 xa, .int .i64 xn] 37)
              have hB6 : Blk ((w3.drewN nq).alloc (.cells #[.int .u32 xa, .int .i64 xn] 37)).drew.heap bt 175 [.int .i64 hold, .int .i64 now0, .int .i64 last, .slice (some ⟨b, 0, none⟩) l.length c] := hB3.alloc (.cells #[.int .u32 xa, .int .i64 xn] 37)
              have hvb : (some b) ≠ some w3.heap.size := fun h => by have := hO3.lt _ h; omega
              have hl7 := nIns_len l ⟨xa, xn⟩
              have hL2 := HI2.out
              generalize nIns l ⟨xa, xn⟩ = L2 at *
              have HL2 := Lib.hid hL2
              have HL7 := Lib.hid hl7
              clear hL2 hl7
              go_wp2_with (go_at_call 105; refine (insert_net_eq l ⟨xa, xn⟩ (some ⟨b, 0, none⟩) c (some b) w3.heap.size _ hO6 hV hvb I hI1 (by omega) L2 HL2.out).mono ?_)
              intro e7 w7 R7
              obtain ⟨a7, c7, ob7, rfl, hO7, hF7, hN7⟩ := R7
              have hF8 : Fr (fun k => k = bt ∨ (some b) = some k) w w7 := ((hFw3.drewN nq).alloc (.cells #[.int .u32 xa, .int .i64 xn] 37)).drew.none _ |>.trans (hF7.mono (fun _ _ h => Or.inr h))
              have hC7 : Fr (fun k => (some b) = some k) w3 w7 := (((Fr.refl _ w3).drewN nq).alloc (.cells #[.int .u32 xa, .int .i64 xn] 37)).drew.trans hF7
              have hB7 := hB6.fr hF7 hob
              have hne7 : ob7 ≠ some bt := fun h => by
                rcases hN7 with h' | ⟨g', h', h''⟩
                · rw [h'] at h; exact hob h
                · rw [h] at h'; cases h'; simp at h''; omega
              have hN8 : ob7 = (some b) ∨ ∃ g, ob7 = some g ∧ w.heap.size ≤ g := by
                rcases hN7 with h' | ⟨g', h', h''⟩
                · exact .inl h'
                · exact .inr ⟨g', h', by have := hFw3.size; simp at h''; omega⟩
              rw [← HL7.out] at hO7
              have b0 := hB7.cell 3
              have b1 := hB7.cell 1
              have f0 := hB7.frozen 3
              have f1 := hB7.frozen 1
              simp only [List.getElem?_cons_succ, List.getElem?_cons_zero] at b0 b1
              have hP := Lib.hid (hput (w7.setCell ⟨bt, 3, none⟩ (.slice a7 L2.length c7)) L2 a7 c7 ob7 (hB7.set 3 _) (hO7.other (p := ⟨bt, 3, none⟩) hne7 _) hne7)
              rw [HL7.out] at hP
              have hFF := Lib.hid (Fr.bt (bt := bt) (Fr.bt (bt := bt) hF8 3 (.slice a7 (l.length + 1) c7)) 1 (.int .i64 now))
              have hbw7 := hB7.lt
              clear hO7 hB7 hF7 hN7 hO6 hB6 hput hV
              go_wp2
              refine ⟨⟨⟨_, hC7⟩, rfl⟩, ?_⟩
              refine wpMix_nil ?_
              go_wp2
              go_ret
              exact NotePost.ok hX.out rfl (by exact hP.out) (by exact hFF.out) hN8
      · rw [if_neg hIl] at hE
        rw [hE]
        clear hE
        have hIA : I = l.length := by omega
        subst hIA
        have hnh : ¬ nHas l ⟨xa, xn⟩ := fun h => by have := (HI0.out.1 h).1; omega
        have hIe : ((l.length : Int) == (l.length : Int)) = true := by simp
        by_cases h64 : l.length = 64
        · have t64 : ((l.length : Int) == 64) = true := by simp [h64]
          have hX := Lib.hid (show NE = .error 4 by rw [HN2.out, if_neg hnh, if_pos h64])
          clear hput hO3 h64 hnh
          go_wp2
          go_quiet (fail)
          go_wp2
          go_ret
          exact NotePost.err hX.out rfl (hFw3.drewN nq)
        · have t64 : ((l.length : Int) == 64) = false := by simp; omega
          have hX := Lib.hid (show NE = .ok (nIns l ⟨xa, xn⟩) by rw [HN2.out, if_neg hnh, if_neg h64])
          clear h64 hnh
          have q3 : ∀ c' : Cls (fun k => ob = some k) w3, c'.wo.cell? ⟨bt, 3, none⟩ = some (.slice a l.length c) := fun c' => (c'.fr.cell (p := ⟨bt, 3, none⟩) hbw3 hob).trans b3'
          go_wp2
          go_quiet (fail)
          go_wp2
          (refine wp_region_mix (fun w' => ∃ c : Cls (fun k => ob = some k) w3, w' = c.wo) 9 (by kernel_rfl) (by kernel_rfl) (⟨⟨_, ((Fr.refl _ _).drewN nq).drew⟩, rfl⟩) ?_; simp only [List.take_succ_cons, List.take_zero, List.drop_succ_cons, List.drop_zero])
          (refine wpMix_lateN 6 (⟨⟨_, ((Fr.refl _ _).drewN nq).drew⟩, rfl⟩) (by kernel_rfl) ?_; simp only [List.take_succ_cons, List.take_zero, List.drop_succ_cons, List.drop_zero]; (repeat (go_big_quiet_step (fail))); refine wpQuiet_nil ?_)
          (refine wpMix_earlyN 1 (by kernel_rfl) (by kernel_rfl) ?_; simp only [List.take_succ_cons, List.take_zero, List.drop_succ_cons, List.drop_zero]; (repeat (go_big_quiet_step (fail))); refine wpQuiet_nil ?_)
          refine wpMix_eff (by kernel_rfl) ?_
          go_wp2
          refine ⟨⟨⟨_, (((Fr.refl _ w3).drewN nq).alloc _).drew⟩, rfl⟩, ?_⟩
          refine wpMix_eff (by kernel_rfl) ?_
          have hV : Blk ((w3.drewN nq).alloc (.cells #[.int .u32 xa, .int .i64 xn] 37)).drew.heap w3.heap.size 37 (Nt.cells ⟨xa, xn⟩) := Blk.made w3 37 [.int .u32 xa, .int .i64 xn]
          have hO6 : Own ((w3.drewN nq).alloc (.cells #[.int .u32 xa, .int .i64 xn] 37)).drew.heap 37 2 a l.length c (l.flatMap Nt.cells) ob := hO3.alloc (.cells #[.int .u32 xa, .int .i64 xn] 37)
          have hB6 : Blk ((w3.drewN nq).alloc (.cells #[.int .u32 xa, .int .i64 xn] 37)).drew.heap bt 175 [.int .i64 hold, .int .i64 now0, .int .i64 last, .slice a l.length c] := hB3.alloc (.cells #[.int .u32 xa, .int .i64 xn] 37)
          have hvb : ob ≠ some w3.heap.size := fun h => by have := hO3.lt _ h; omega
          have hl7 := nIns_len l ⟨xa, xn⟩
          have hL2 := HI2.out
          generalize nIns l ⟨xa, xn⟩ = L2 at *
          have HL2 := Lib.hid hL2
          have HL7 := Lib.hid hl7
          clear hL2 hl7
          go_wp2_with (go_at_call 105; refine (insert_net_eq l ⟨xa, xn⟩ a c ob w3.heap.size _ hO6 hV hvb l.length (Nat.le_refl _) (by omega) L2 HL2.out).mono ?_)
          intro e7 w7 R7
          obtain ⟨a7, c7, ob7, rfl, hO7, hF7, hN7⟩ := R7
          have hF8 : Fr (fun k => k = bt ∨ ob = some k) w w7 := ((hFw3.drewN nq).alloc (.cells #[.int .u32 xa, .int .i64 xn] 37)).drew.none _ |>.trans (hF7.mono (fun _ _ h => Or.inr h))
          have hC7 : Fr (fun k => ob = some k) w3 w7 := (((Fr.refl _ w3).drewN nq).alloc (.cells #[.int .u32 xa, .int .i64 xn] 37)).drew.trans hF7
          have hB7 := hB6.fr hF7 hob
          have hne7 : ob7 ≠ some bt := fun h => by
            rcases hN7 with h' | ⟨g', h', h''⟩
            · rw [h'] at h; exact hob h
            · rw [h] at h'; cases h'; simp at h''; omega
          have hN8 : ob7 = ob ∨ ∃ g, ob7 = some g ∧ w.heap.size ≤ g := by
            rcases hN7 with h' | ⟨g', h', h''⟩
            · exact .inl h'
            · exact .inr ⟨g', h', by have := hFw3.size; simp at h''; omega⟩
          rw [← HL7.out] at hO7
          have b0 := hB7.cell 3
          have b1 := hB7.cell 1
          have f0 := hB7.frozen 3
          have f1 := hB7.frozen 1
          simp only [List.getElem?_cons_succ, List.getElem?_cons_zero] at b0 b1
          have hP := Lib.hid (hput (w7.setCell ⟨bt, 3, none⟩ (.slice a7 L2.length c7)) L2 a7 c7 ob7 (hB7.set 3 _) (hO7.other (p := ⟨bt, 3, none⟩) hne7 _) hne7)
          rw [HL7.out] at hP
          have hFF := Lib.hid (Fr.bt (bt := bt) (Fr.bt (bt := bt) hF8 3 (.slice a7 (l.length + 1) c7)) 1 (.int .i64 now))
          have hbw7 := hB7.lt
          clear hO7 hB7 hF7 hN7 hO6 hB6 hput hV
          go_wp2
          refine ⟨⟨⟨_, hC7⟩, rfl⟩, ?_⟩
          refine wpMix_nil ?_
          go_wp2
          go_ret
          exact NotePost.ok hX.out rfl (by exact hP.out) (by exact hFF.out) hN8
end Go.Proofs.YtfjempfffdeklaaDoor
