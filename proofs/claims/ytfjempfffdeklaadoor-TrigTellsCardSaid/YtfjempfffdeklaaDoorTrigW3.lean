import Derived.Test.YtfjempfffdeklaaDoorTrigW2
namespace Go.Proofs.YtfjempfffdeklaaDoor
open Go.RowKit

set_option maxRecDepth 100000 in
set_option maxHeartbeats 1000000 in
theorem due_nil {bt : Nat} {hold now last : Int} {ob : Option Nat} (w : World) (hR : IsTrig w.heap bt hold now last [] ob) : Calls Tryd.prog 59 #[.pointer (some ⟨bt, 0, none⟩)] w (RetQ w (.tuple #[.int .i64 0, .bool false])) := by
  obtain ⟨a, c, h1, h2, h3⟩ := hR
  have c3 := h1.cell 3
  simp only [List.getElem?_cons_succ, List.getElem?_cons_zero, List.length_nil] at c3
  go_enter Tryd.func59, Tryd.ntmps59
  go_wp2
  go_ret2
  exact ⟨rfl, 0, rfl⟩

set_option maxRecDepth 100000 in
set_option maxHeartbeats 1000000 in
theorem due_some {bt : Nat} {hold now last : Int} {l : List Nt} {ob : Option Nat} (w : World) (hR : IsTrig w.heap bt hold now last l ob) (hl : l ≠ []) (hok : TrigOk hold now last l) : Calls Tryd.prog 59 #[.pointer (some ⟨bt, 0, none⟩)] w (RetQ w (.tuple #[.int .i64 (dueAt hold now last), .bool true])) := by
  obtain ⟨a, c, h1, h2, h3⟩ := hR
  have c3 := h1.cell 3
  have c2 := h1.cell 2
  have c1 := h1.cell 1
  have c0 := h1.cell 0
  simp only [List.getElem?_cons_succ, List.getElem?_cons_zero] at c3 c2 c1 c0
  have hln : 0 < l.length := List.length_pos_iff.2 hl
  have hb : ((l.length : Int) == 0) = false := by simp; exact hl
  obtain ⟨q1, q2, q3, q4, q5, q6, q7, q8⟩ := hok
  go_enter Tryd.func59, Tryd.ntmps59
  by_cases h0 : last < 0
  · have hX := Lib.hid (show dueAt hold now last = now from if_pos h0)
    go_wp2
    go_ret2
    exact RetQ.mk (x := .tuple #[.int .i64 now, .bool true]) (by rw [hX.out]) rfl 0 rfl
  · have hE : dueAt hold now last = if now < last + hold then last + hold else now := if_neg h0
    by_cases h4 : now < last + hold
    · have hX := Lib.hid (show dueAt hold now last = last + hold by rw [hE, if_pos h4])
      clear hE
      go_wp2
      go_quiet (fail)
      go_wp2
      go_ret2
      exact RetQ.mk (x := .tuple #[.int .i64 (last + hold), .bool true]) (by rw [hX.out]) rfl nq rfl
    · have hX := Lib.hid (show dueAt hold now last = now by rw [hE, if_neg h4])
      clear hE
      go_wp2
      go_quiet (fail)
      go_wp2
      go_ret2
      exact RetQ.mk (x := .tuple #[.int .i64 now, .bool true]) (by rw [hX.out]) rfl nq rfl

theorem due_some' {bt : Nat} {hold now last D : Int} {l : List Nt} {ob : Option Nat} (hD : D = dueAt hold now last) (w : World) (hR : IsTrig w.heap bt hold now last l ob) (hl : l ≠ []) (hok : TrigOk hold now last l) : Calls Tryd.prog 59 #[.pointer (some ⟨bt, 0, none⟩)] w (RetQ w (.tuple #[.int .i64 D, .bool true])) := by
  subst hD; exact due_some w hR hl hok
set_option maxRecDepth 100000 in
set_option maxHeartbeats 1000000 in
theorem take_err {bt : Nat} {hold now0 last : Int} {l : List Nt} {ob : Option Nat} (w : World) (hR : IsTrig w.heap bt hold now0 last l ob) (now : Int) (h : tkErr now0 now) : Calls Tryd.prog 57 #[.pointer (some ⟨bt, 0, none⟩), .int .i64 now] w (RetS w (.tuple #[.slice none 0 0, errv 1])) := by
  have hX := Lib.hid (show tkO now0 now = some 1 from if_pos h)
  clear h
  go_enter Tryd.func57, Tryd.ntmps57
  go_wp2_with (go_at_call 101; refine (trigCheck_any _ hR now).mono ?_)
  intro e1 w1 R1
  rw [hX.out] at R1
  obtain ⟨rfl, rfl⟩ : e1 = .returned (errv 1) ∧ w = w1 := R1
  go_wp2
  go_ret2
  exact ⟨rfl, rfl⟩

theorem IsTrig.now {w : World} {bt : Nat} {hold now0 last now : Int} {l : List Nt} {ob : Option Nat} (h : IsTrig w.heap bt hold now0 last l ob) : IsTrig (w.setCell ⟨bt, 1, none⟩ (.int .i64 now)).heap bt hold now last l ob := by
  obtain ⟨a, c, h1, h2, h3⟩ := h
  exact ⟨a, c, h1.set 1 _, h2.other (p := ⟨bt, 1, none⟩) h3 _, h3⟩
/-- Nothing is taken. -/
def TakeNo (w : World) (bt : Nat) (hold last : Int) (l : List Nt) (ob : Option Nat) (now : Int) (e : Ending) (w' : World) : Prop :=
  e = .returned (.tuple #[.slice none 0 0, .nilIface]) ∧ IsTrig w'.heap bt hold now last l ob ∧ Fr (fun k => k = bt) w w'
/-- All are taken. -/
def TakeAll (w : World) (bt : Nat) (hold : Int) (l : List Nt) (ob : Option Nat) (now : Int) (e : Ending) (w' : World) : Prop :=
  ∃ a c, e = .returned (.tuple #[.slice a l.length c, .nilIface]) ∧ Own w'.heap 37 2 a l.length c (l.flatMap Nt.cells) ob ∧ IsTrig w'.heap bt hold now now [] none ∧ Fr (fun k => k = bt) w w' ∧ ob ≠ some bt

set_option maxRecDepth 100000 in
set_option maxHeartbeats 1000000 in
theorem take_nil {bt : Nat} {hold now0 last : Int} {ob : Option Nat} (w : World) (hR : IsTrig w.heap bt hold now0 last [] ob) (now : Int) (h : ¬ tkErr now0 now) : Calls Tryd.prog 57 #[.pointer (some ⟨bt, 0, none⟩), .int .i64 now] w (TakeNo w bt hold last [] ob now) := by
  have hX := Lib.hid (show tkO now0 now = none from if_neg h)
  have hbt : bt < w.heap.size := by obtain ⟨a, c, h1, _⟩ := hR; exact h1.lt
  have hb1 : w.cell? ⟨bt, 1, none⟩ = some (.int .i64 now0) ∧ w.frozen? ⟨bt, 1, none⟩ = false := by obtain ⟨a, c, h1, _⟩ := hR; exact ⟨h1.cell 1, h1.frozen 1⟩
  obtain ⟨c1, f1⟩ := hb1
  clear h
  go_enter Tryd.func57, Tryd.ntmps57
  go_wp2_with (go_at_call 101; refine (trigCheck_any _ hR now).mono ?_)
  intro e1 w1 R1
  rw [hX.out] at R1
  obtain ⟨rfl, rfl⟩ : e1 = .returned .nilIface ∧ w = w1 := R1
  have hR2 := hR.now (now := now)
  go_wp2_with (go_at_call 59; refine (due_nil _ hR2).mono ?_)
  intro e2 w2 R2
  obtain ⟨rfl, n2, rfl⟩ := R2
  go_wp2
  go_ret2
  exact ⟨rfl, hR2, (Fr.at1 (g := bt) (Fr.refl _ w) 1 (.int .i64 now)).drewN n2⟩

set_option maxRecDepth 100000 in
set_option maxHeartbeats 1000000 in
theorem take_wait {bt : Nat} {hold now0 last : Int} {l : List Nt} {ob : Option Nat} (w : World) (hR : IsTrig w.heap bt hold now0 last l ob) (hok : TrigOk hold now0 last l) (now : Int) (h : ¬ tkErr now0 now) (hl : l ≠ []) (hd : now < dueAt hold now last) : Calls Tryd.prog 57 #[.pointer (some ⟨bt, 0, none⟩), .int .i64 now] w (TakeNo w bt hold last l ob now) := by
  have hX := Lib.hid (show tkO now0 now = none from if_neg h)
  have hbt : bt < w.heap.size := by obtain ⟨a, c, h1, _⟩ := hR; exact h1.lt
  have hb1 : w.cell? ⟨bt, 1, none⟩ = some (.int .i64 now0) ∧ w.frozen? ⟨bt, 1, none⟩ = false := by obtain ⟨a, c, h1, _⟩ := hR; exact ⟨h1.cell 1, h1.frozen 1⟩
  obtain ⟨c1, f1⟩ := hb1
  have hok2 : TrigOk hold now last l := by unfold tkErr at h; obtain ⟨q1, q2, q3, q4, q5, q6, q7, q8⟩ := hok; exact ⟨q1, q2, by omega, by omega, q5, by omega, q7, q8⟩
  obtain ⟨D, hD⟩ : ∃ D, D = dueAt hold now last := ⟨_, rfl⟩
  rw [← hD] at hd
  have HD := Lib.hid hD
  have HLN := Lib.hid hl
  clear h hD hl
  go_enter Tryd.func57, Tryd.ntmps57
  go_wp2_with (go_at_call 101; refine (trigCheck_any _ hR now).mono ?_)
  intro e1 w1 R1
  rw [hX.out] at R1
  obtain ⟨rfl, rfl⟩ : e1 = .returned .nilIface ∧ w = w1 := R1
  have hR2 := hR.now (now := now)
  go_wp2_with (go_at_call 59; refine (due_some' HD.out _ hR2 HLN.out hok2).mono ?_)
  intro e2 w2 R2
  obtain ⟨rfl, n2, rfl⟩ := R2
  go_wp2
  go_ret2
  exact ⟨rfl, hR2, (Fr.at1 (g := bt) (Fr.refl _ w) 1 (.int .i64 now)).drewN n2⟩

set_option maxRecDepth 100000 in
set_option maxHeartbeats 1000000 in
theorem take_all {bt : Nat} {hold now0 last : Int} {l : List Nt} {ob : Option Nat} (w : World) (hR : IsTrig w.heap bt hold now0 last l ob) (hok : TrigOk hold now0 last l) (now : Int) (h : ¬ tkErr now0 now) (hl : l ≠ []) (hd : ¬ now < dueAt hold now last) : Calls Tryd.prog 57 #[.pointer (some ⟨bt, 0, none⟩), .int .i64 now] w (TakeAll w bt hold l ob now) := by
  have hX := Lib.hid (show tkO now0 now = none from if_neg h)
  have hok2 : TrigOk hold now last l := by unfold tkErr at h; obtain ⟨q1, q2, q3, q4, q5, q6, q7, q8⟩ := hok; exact ⟨q1, q2, by omega, by omega, q5, by omega, q7, q8⟩
  obtain ⟨D, hD⟩ : ∃ D, D = dueAt hold now last := ⟨_, rfl⟩
  rw [← hD] at hd
  have HD := Lib.hid hD
  have HLN := Lib.hid hl
  have hR0 := hR
  obtain ⟨a, c, h1, h2, h3⟩ := hR
  have hbt := h1.lt
  have c1 := h1.cell 1
  have f1 := h1.frozen 1
  have hB2 := h1.set 1 (.int .i64 now)
  have g2 := hB2.cell 2
  have g3 := hB2.cell 3
  have k2 := hB2.frozen 2
  have k3 := hB2.frozen 3
  simp only [List.getElem?_cons_succ, List.getElem?_cons_zero, List.set_cons_succ, List.set_cons_zero] at c1 g2 g3
  have hB3 := (hB2.set 3 (.slice none 0 0)).set 2 (.int .i64 now)
  have hO3 := ((h2.other (p := ⟨bt, 1, none⟩) h3 (.int .i64 now)).other (p := ⟨bt, 3, none⟩) h3 (.slice none 0 0)).other (p := ⟨bt, 2, none⟩) h3 (.int .i64 now)
  have HB3 := Lib.hid hB3
  have HO3 := Lib.hid hO3
  have hFF := Lib.hid (Fr.at1 (g := bt) (Fr.at1 (g := bt) (Fr.at1 (g := bt) (Fr.refl _ w) 1 (.int .i64 now)) 3 (.slice none 0 0)) 2 (.int .i64 now))
  have hR2 := hR0.now (now := now)
  clear h hD hl hB3 hO3 hB2
  go_enter Tryd.func57, Tryd.ntmps57
  go_wp2_with (go_at_call 101; refine (trigCheck_any _ hR0 now).mono ?_)
  intro e1 w1 R1
  rw [hX.out] at R1
  obtain ⟨rfl, rfl⟩ : e1 = .returned .nilIface ∧ w = w1 := R1
  go_wp2_with (go_at_call 59; refine (due_some' HD.out _ hR2 HLN.out hok2).mono ?_)
  intro e2 w2 R2
  obtain ⟨rfl, n2, rfl⟩ := R2
  go_wp2
  go_ret2
  exact ⟨a, c, rfl, by exact HO3.out, ⟨none, 0, by exact HB3.out, Own.nil _ _ _, fun h => nomatch h⟩, by exact hFF.out.drewN n2, h3⟩
end Go.Proofs.YtfjempfffdeklaaDoor
