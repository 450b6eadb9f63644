import Derived.Test.YtfglidaicjjpfaaGreatDoorDmNew
import Derived.Test.YtfglidaicjjpfaaGreatDoorQBad3
section
namespace Go.Proofs.YtfglidaicjjpfaaGreatDoor
open Go.RowKit

/-! What a router comes to. -/
structure HR where
  err : Option Int
  now : Int
  l : List Td
  bad : Int
/-- One entry heard. -/
def hear1 (D : DC) (f t : Int) (l : List Td) (e : En) : List Td := if (⟨e.a, e.n⟩ : Nt) ∈ D.own then l else match learnE t l f e.a e.n e.m t with
  | .ok l' => l'
  | .error _ => l
def hearL (D : DC) (f t : Int) (l : List Td) (es : List En) : List Td := es.foldl (hear1 D f t) l
def timeErr (D : DC) (now f t : Int) : Prop := t < now ∨ 1099511627776 < t ∨ f < 0 ∨ (D.costs.length : Int) ≤ f
instance (D : DC) (now f t : Int) : Decidable (timeErr D now f t) := by unfold timeErr; infer_instance
def hearM (D : DC) (now : Int) (l : List Td) (bad : Int) (b : List Int) (f t : Int) : HR :=
  if timeErr D now f t then ⟨some 1, now, l, bad⟩
  else match decD b with
    | .error k => ⟨some k, now, l, bad + 1⟩
    | .ok (true, _) => ⟨some 3, now, l, bad + 1⟩
    | .ok (false, es) => ⟨none, t, hearL D f t (rAged t l) es, bad⟩
def downM (D : DC) (now : Int) (l : List Td) (bad : Int) (f t : Int) : HR := if timeErr D now f t then ⟨some 1, now, l, bad⟩ else ⟨none, t, rLost f t l, bad⟩
def tickM (now : Int) (l : List Td) (bad : Int) (t : Int) : HR := if t < now ∨ 1099511627776 < t then ⟨some 1, now, l, bad⟩ else ⟨none, t, rAged t l, bad⟩
def RetH (w : World) (base : Nat) (D : DC) (r : HR) (e : Ending) (w' : World) : Prop := e = .returned (errO r.err) ∧ Dmn w' base D r.now r.l r.bad ∧ Fr (fun k => k = D.bd ∨ k = D.br) w w'
theorem RetH.mk {w w' : World} {base : Nat} {D : DC} {r : HR} {e : Ending} {v : Value} {o : Option Int} {now : Int} {l : List Td} {bad : Int} (hr : r = ⟨o, now, l, bad⟩) (he : e = .returned v) (hD : Dmn w' base D now l bad) (hF : Fr (fun k => k = D.bd ∨ k = D.br) w w') (hv : v = errO o := by rfl) : RetH w base D r e w' := by
  subst hr; subst hv; exact ⟨he, hD, hF⟩
namespace Dmn
variable {w w' : World} {base : Nat} {D : DC} {now : Int} {l : List Td} {bad : Int}
theorem time (h : Dmn w base D now l bad) : 0 ≤ now ∧ now ≤ 1099511627776 := ⟨h.ok.n0, h.ok.n1⟩
theorem aged {t : Int} (h : Dmn w base D now l bad) (ht : ¬ (t < now ∨ 1099511627776 < t)) (f : Fr (fun k => k = D.br) w w') (hR : IsRib w'.heap base D.br t (rAged t l)) : Dmn w' base D t (rAged t l) bad :=
  h.put f hR (rAged_ok h.ok (by omega) (by omega)) (fun x hx => by obtain ⟨y, hy, h1, h2, h3⟩ := age1_mem hx; rw [← h1, ← h2, ← h3]; exact h.by' y hy) (fun x hx => by obtain ⟨y, hy, h1, h2, h3⟩ := age1_mem hx; rw [← h2, ← h3]; exact h.out y hy)
theorem lost {f t : Int} (h : Dmn w base D now l bad) (ht : ¬ (t < now ∨ 1099511627776 < t)) (fr : Fr (fun k => k = D.br) w w') (hR : IsRib w'.heap base D.br t (rLost f t l)) : Dmn w' base D t (rLost f t l) bad :=
  h.put fr hR (lose_ok h.ok (by omega) (by omega)) (fun x hx => by obtain ⟨y, hy, h1, h2, h3⟩ := lost_mem hx; rw [← h1, ← h2, ← h3]; exact h.by' y hy) (fun x hx => by obtain ⟨y, hy, h1, h2, h3⟩ := lost_mem hx; rw [← h2, ← h3]; exact h.out y hy)
theorem learnt {f t a n m : Int} {l' : List Td} (h : Dmn w base D now l bad) (hp : learnE now l f a n m t = .ok l') (hf : f < D.costs.length) (ha : 0 ≤ a ∧ a < 4294967296) (ho : (⟨a, n⟩ : Nt) ∉ D.own) (fr : Fr (fun k => k = D.br) w w') (hR : IsRib w'.heap base D.br t l') : Dmn w' base D t l' bad := by
  obtain ⟨q1, q2, q3, q4, q5, q6, q7, q8, q9⟩ := learn_ok h.ok ha hp
  refine h.put fr hR q1 (fun x hx => ?_) (fun x hx => ?_)
  · rcases rPut_mem q9 hx with ⟨e1, e2, e3⟩ | hx
    · rw [e1, e2, e3]; exact ⟨hf, q6⟩
    · obtain ⟨y, hy, h1, h2, h3⟩ := age1_mem hx; rw [← h1, ← h2, ← h3]; exact h.by' y hy
  · rcases rPut_mem q9 hx with ⟨e1, e2, e3⟩ | hx
    · rw [e2, e3]; exact ho
    · obtain ⟨y, hy, h1, h2, h3⟩ := age1_mem hx; rw [← h2, ← h3]; exact h.out y hy
end Dmn
/-- What is decoded is right. -/
theorem entD_ok {b : List Int} {e : En} (hb : ∀ x ∈ b, 0 ≤ x ∧ x < 256) (h : entD b = some e) : entErr e = none ∧ En.wf e := by
  unfold entD at h
  split at h
  · cases h
  · split at h
    · rename_i hc
      cases h
      exact ⟨hc.2, numB_bd (fun x hx => hb x (List.mem_of_mem_drop (List.mem_of_mem_take hx))), numB_bd (fun x hx => hb x (List.mem_of_mem_drop (List.mem_of_mem_take hx)))⟩
    · cases h
theorem partsD_ok : ∀ (k : Nat) (b : List Int) (acc es : List En), (∀ x ∈ b, 0 ≤ x ∧ x < 256) → partsD k b acc = some es → (∀ e ∈ acc, entErr e = none ∧ En.wf e) → ∀ e ∈ es, entErr e = none ∧ En.wf e := by
  intro k
  induction k with
  | zero => intro b acc es _ h ha; cases h; exact ha
  | succ k ih =>
    intro b acc es hb h ha
    unfold partsD at h
    split at h
    · cases h; exact ha
    · split at h
      · cases h
      · rename_i e he
        split at h
        · cases h
        · refine ih _ _ _ (fun x hx => hb x (List.mem_of_mem_drop hx)) h (fun y hy => ?_)
          rcases List.mem_append.1 hy with hy | hy
          · exact ha y hy
          · rw [List.mem_singleton.1 hy]
            exact entD_ok (filledD_bd (fun x hx => hb x (List.mem_of_mem_take hx))) he
theorem decD_ok {b : List Int} {q : Bool} {es : List En} (hb : ∀ x ∈ b, 0 ≤ x ∧ x < 256) (h : decD b = .ok (q, es)) : ∀ e ∈ es, entErr e = none ∧ En.wf e := by
  unfold decD at h
  split at h
  · cases h
  · split at h
    · cases h
    · rename_i l hl
      split at h
      · cases h
      · cases h
        refine partsD_ok _ _ _ _ (fun x hx => ?_) hl (fun _ h => nomatch h)
        have hx := List.mem_of_mem_drop hx
        unfold headD at hx
        split at hx
        · rcases List.mem_append.1 hx with hx | hx
          · exact hb x hx
          · have := List.mem_of_mem_drop hx
            simp only [List.mem_cons, List.not_mem_nil, or_false] at this
            omega
        · exact hb x hx
theorem learn_four {now f a n m t q : Int} {l : List Td} (h : learnE now l f a n m t = .error q) (hc : ¬ ckErr now f t) (hn : netErr a n = none) (hm : 1 ≤ m ∧ m ≤ 16) : q = 4 := by
  unfold learnE at h
  rw [if_neg hc, hn] at h
  simp only at h
  rw [if_neg (by omega)] at h
  unfold rPut at h
  split at h
  · split at h <;> cases h
  · split at h
    · cases h
    · split at h
      · cases h; rfl
      · cases h
theorem hearL_step (D : DC) (f t : Int) (l : List Td) (es : List En) {k : Nat} (h : k < es.length) : hearL D f t l (es.take (k + 1)) = hear1 D f t (hearL D f t l (es.take k)) (nth es k) := by
  unfold hearL
  rw [take_succ_nth es k h, List.foldl_append]
  rfl
theorem hear1_own {D : DC} {f t : Int} {l : List Td} {e : En} (h : (⟨e.a, e.n⟩ : Nt) ∈ D.own) : hear1 D f t l e = l := if_pos h
theorem hear1_ok {D : DC} {f t : Int} {l l' : List Td} {e : En} (h : (⟨e.a, e.n⟩ : Nt) ∉ D.own) (hl : learnE t l f e.a e.n e.m t = .ok l') : hear1 D f t l e = l' := by unfold hear1; rw [if_neg h, hl]
theorem hear1_err {D : DC} {f t q : Int} {l : List Td} {e : En} (h : (⟨e.a, e.n⟩ : Nt) ∉ D.own) (hl : learnE t l f e.a e.n e.m t = .error q) : hear1 D f t l e = l := by unfold hear1; rw [if_neg h, hl]

set_option maxRecDepth 100000 in
theorem dtime_yes {base : Nat} {D : DC} {now : Int} {l : List Td} {bad : Int} (t : Int) (w : World) (hD : Dmn w base D now l bad) (ht : ¬ (t < now ∨ 1099511627776 < t)) : Calls Tryz.prog 39 #[.pointer (some ⟨D.bd, 0, none⟩), .int .i64 t] w (RetS w (.bool true)) := by
  obtain ⟨c0, -, -, -, -, cl⟩ := hD.cells
  have g0 : decide (now ≤ t) = true := decide_eq_true (by omega)
  have g1 : decide (t ≤ 1099511627776) = true := decide_eq_true (by omega)
  go_enter Tryz.func39, Tryz.ntmps39
  go_wp2_with (fail)
  refine (ribNow_any w hD.rib).mono ?_
  rintro e1 w1 ⟨rfl, rfl⟩
  go_wp2
  go_ret
  exact RetS.mk rfl rfl rfl
set_option maxRecDepth 100000 in
theorem dtime_no {base : Nat} {D : DC} {now : Int} {l : List Td} {bad : Int} (t : Int) (w : World) (hD : Dmn w base D now l bad) (ht : t < now ∨ 1099511627776 < t) : Calls Tryz.prog 39 #[.pointer (some ⟨D.bd, 0, none⟩), .int .i64 t] w (RetS w (.bool false)) := by
  obtain ⟨c0, -, -, -, -, cl⟩ := hD.cells
  have hq : decide (now ≤ t) = false ∨ (decide (now ≤ t) = true ∧ decide (t ≤ 1099511627776) = false) := by
    by_cases h : now ≤ t
    · exact .inr ⟨decide_eq_true h, decide_eq_false (by omega)⟩
    · exact .inl (decide_eq_false h)
  rcases hq with g0 | ⟨g0, g1⟩
  all_goals
    go_enter Tryz.func39, Tryz.ntmps39
    go_wp2_with (fail)
    refine (ribNow_any w hD.rib).mono ?_
    rintro e1 w1 ⟨rfl, rfl⟩
    go_wp2
    go_ret
    exact RetS.mk rfl rfl rfl
set_option maxRecDepth 100000 in
theorem dnear_yes {base : Nat} {D : DC} {now : Int} {l : List Td} {bad : Int} (f : Int) (w : World) (hD : Dmn w base D now l bad) (hf : ¬ (f < 0 ∨ (D.costs.length : Int) ≤ f)) : Calls Tryz.prog 40 #[.pointer (some ⟨D.bd, 0, none⟩), .int .i64 f] w (RetS w (.bool true)) := by
  obtain ⟨-, c1, -, -, -, cl⟩ := hD.cells
  have g0 : decide (0 ≤ f) = true := decide_eq_true (by omega)
  have g1 : decide (f < (D.costs.length : Int)) = true := decide_eq_true (by omega)
  go_enter Tryz.func40, Tryz.ntmps40
  go_wp2
  go_ret
  exact RetS.mk rfl rfl rfl
set_option maxRecDepth 100000 in
theorem dnear_no {base : Nat} {D : DC} {now : Int} {l : List Td} {bad : Int} (f : Int) (w : World) (hD : Dmn w base D now l bad) (hf : f < 0 ∨ (D.costs.length : Int) ≤ f) : Calls Tryz.prog 40 #[.pointer (some ⟨D.bd, 0, none⟩), .int .i64 f] w (RetS w (.bool false)) := by
  obtain ⟨-, c1, -, -, -, cl⟩ := hD.cells
  have hq : decide (0 ≤ f) = false ∨ (decide (0 ≤ f) = true ∧ decide (f < (D.costs.length : Int)) = false) := by
    by_cases h : 0 ≤ f
    · exact .inr ⟨decide_eq_true h, decide_eq_false (by omega)⟩
    · exact .inl (decide_eq_false h)
  rcases hq with g0 | ⟨g0, g1⟩
  all_goals
    go_enter Tryz.func40, Tryz.ntmps40
    go_wp2
    go_ret
    exact RetS.mk rfl rfl rfl
set_option maxRecDepth 100000 in
theorem dtick_any {base : Nat} {D : DC} {now : Int} {l : List Td} {bad : Int} (t : Int) (w : World) (hD : Dmn w base D now l bad) (hbase : base ≤ w.heap.size) : Calls Tryz.prog 22 #[.pointer (some ⟨D.bd, 0, none⟩), .int .i64 t] w (RetH w base D (tickM now l bad t)) := by
  obtain ⟨c0, -, -, -, -, cl⟩ := hD.cells
  go_enter Tryz.func22, Tryz.ntmps22
  go_wp2_with (fail)
  refine (age_E w hD.rib hD.ok hbase t).mono ?_
  intro e1 w1 R1
  by_cases ht : t < now ∨ 1099511627776 < t
  · have hE : ageE now l t = .error 1 := if_pos (by unfold ckErr; omega)
    have HX := Lib.hid (show tickM now l bad t = ⟨some 1, now, l, bad⟩ from if_pos ht)
    rw [hE] at R1
    obtain ⟨rfl, hF⟩ := R1
    have HD := Lib.hid (hD.fr0 hF)
    clear hE ht
    go_wp2
    go_ret
    exact RetH.mk HX.out rfl HD.out (hF.none _)
  · have hE : ageE now l t = .ok (rAged t l) := if_neg (by unfold ckErr; omega)
    have HX := Lib.hid (show tickM now l bad t = ⟨none, t, rAged t l, bad⟩ from if_neg ht)
    rw [hE] at R1
    obtain ⟨rfl, hR, hF⟩ := R1
    have HD := Lib.hid (hD.aged ht hF hR)
    clear hE ht hR
    go_wp2
    go_ret
    exact RetH.mk HX.out rfl HD.out (hF.mono (fun _ _ h => .inr h))
set_option maxRecDepth 100000 in
theorem ddown_any {base : Nat} {D : DC} {now : Int} {l : List Td} {bad : Int} (f t : Int) (w : World) (hD : Dmn w base D now l bad) (hbase : base ≤ w.heap.size) : Calls Tryz.prog 20 #[.pointer (some ⟨D.bd, 0, none⟩), .int .i64 f, .int .i64 t] w (RetH w base D (downM D now l bad f t)) := by
  obtain ⟨c0, -, -, -, -, cl⟩ := hD.cells
  have hc8 := hD.c8
  go_enter Tryz.func20, Tryz.ntmps20
  by_cases hf : f < 0 ∨ (D.costs.length : Int) ≤ f
  · have HX := Lib.hid (show downM D now l bad f t = ⟨some 1, now, l, bad⟩ from if_pos (.inr (.inr hf)))
    go_wp2_with (fail)
    refine (dnear_no f w hD hf).mono ?_
    rintro e1 w1 ⟨rfl, rfl⟩
    go_wp2
    go_ret
    exact RetH.mk HX.out rfl hD (Fr.refl _ _)
  · go_wp2_with (fail)
    refine (dnear_yes f w hD hf).mono ?_
    rintro e1 w1 ⟨rfl, rfl⟩
    go_wp2_with (fail)
    refine (lose_E w hD.rib hD.ok hbase f t).mono ?_
    intro e2 w2 R2
    by_cases ht : t < now ∨ 1099511627776 < t
    · have hE : loseE now l f t = .error 1 := if_pos (by unfold ckErr; omega)
      have HX := Lib.hid (show downM D now l bad f t = ⟨some 1, now, l, bad⟩ from if_pos (by unfold timeErr; omega))
      rw [hE] at R2
      obtain ⟨rfl, hF⟩ := R2
      have HD := Lib.hid (hD.fr0 hF)
      clear hE ht hf
      go_wp2
      go_ret
      exact RetH.mk HX.out rfl HD.out (hF.none _)
    · have hE : loseE now l f t = .ok (rLost f t l) := if_neg (by unfold ckErr; omega)
      have HX := Lib.hid (show downM D now l bad f t = ⟨none, t, rLost f t l, bad⟩ from if_neg (by unfold timeErr; omega))
      rw [hE] at R2
      obtain ⟨rfl, hR, hF⟩ := R2
      have HD := Lib.hid (hD.lost ht hF hR)
      clear hE ht hf hR
      go_wp2
      go_ret
      exact RetH.mk HX.out rfl HD.out (hF.mono (fun _ _ h => .inr h))
/-- A message that is none. -/
theorem hearM_time {D : DC} {now : Int} {l : List Td} {bad : Int} {b : List Int} {f t : Int} (h : timeErr D now f t) : hearM D now l bad b f t = ⟨some 1, now, l, bad⟩ := if_pos h
theorem hearM_bad {D : DC} {now : Int} {l : List Td} {bad : Int} {b : List Int} {f t k : Int} (h : ¬ timeErr D now f t) (hd : decD b = .error k) : hearM D now l bad b f t = ⟨some k, now, l, bad + 1⟩ := by unfold hearM; rw [if_neg h, hd]
theorem hearM_ask {D : DC} {now : Int} {l : List Td} {bad : Int} {b : List Int} {f t : Int} {es : List En} (h : ¬ timeErr D now f t) (hd : decD b = .ok (true, es)) : hearM D now l bad b f t = ⟨some 3, now, l, bad + 1⟩ := by unfold hearM; rw [if_neg h, hd]
theorem hearM_ok {D : DC} {now : Int} {l : List Td} {bad : Int} {b : List Int} {f t : Int} {es : List En} (h : ¬ timeErr D now f t) (hd : decD b = .ok (false, es)) : hearM D now l bad b f t = ⟨none, t, hearL D f t (rAged t l) es, bad⟩ := by unfold hearM; rw [if_neg h, hd]
theorem Dmn.bad' {w w' : World} {base : Nat} {D : DC} {now : Int} {l : List Td} {bad : Int} (h : Dmn w base D now l bad) (f : Fr (fun _ => False) w w') (o : Obj) : Dmn ((w'.setCell ⟨D.bd, 3, none⟩ (.int .i64 (bad + 1))).alloc o) base D now l (bad + 1) ∧ Fr (fun k => k = D.bd ∨ k = D.br) w ((w'.setCell ⟨D.bd, 3, none⟩ (.int .i64 (bad + 1))).alloc o) :=
  ⟨((h.fr0 f).worse).fr0 ((Fr.refl _ _).alloc _), ((f.none _).setCell (p := ⟨D.bd, 3, none⟩) (fun _ => .inl rfl) _).alloc _⟩

set_option maxRecDepth 100000 in
set_option maxHeartbeats 8000000 in
theorem dhear_any {N base : Nat} {D : DC} {now : Int} {l : List Td} {bad : Int} (b : List Int) (a : Option Addr) (c : Nat) (f t : Int) (w : World) (hD : Dmn w base D now l bad) (hbase : base ≤ w.heap.size) (hbad : 0 ≤ bad ∧ bad ≤ 9223372036854775000) (hL : Rd w.heap a N 1 (ivals .u8 b)) (hb : ∀ x ∈ b, 0 ≤ x ∧ x < 256) (hc : b.length ≤ c) (hll : b.length ≤ 9223372036854775000) (hN : N = b.length) :
    Calls Tryz.prog 8 #[.pointer (some ⟨D.bd, 0, none⟩), .slice a N c, .int .i64 f, .int .i64 t] w (RetH w base D (hearM D now l bad b f t)) := by
  obtain ⟨M, hM⟩ : ∃ M, M = hearM D now l bad b f t := ⟨_, rfl⟩
  rw [← hM]
  have HMM := Lib.hid hM
  have HD := Lib.hid hD
  have HB := Lib.hid hb
  have hc8 := hD.c8
  have hnt := hD.time
  subst hN
  clear hM
  go_enter Tryz.func8, Tryz.ntmps8
  by_cases ht : t < now ∨ 1099511627776 < t
  · have HX := Lib.hid (HMM.out.trans (hearM_time (by unfold timeErr; omega)))
    go_wp2_with (fail)
    refine (dtime_no t w hD ht).mono ?_
    rintro e1 w1 ⟨rfl, rfl⟩
    go_wp2
    go_ret
    exact RetH.mk HX.out rfl hD (Fr.refl _ _)
  · go_wp2_with (fail)
    refine (dtime_yes t w hD ht).mono ?_
    rintro e1 w1 ⟨rfl, rfl⟩
    by_cases hf : f < 0 ∨ (D.costs.length : Int) ≤ f
    · have HX := Lib.hid (HMM.out.trans (hearM_time (.inr (.inr hf))))
      go_wp2_with (fail)
      refine (dnear_no f w hD hf).mono ?_
      rintro e2 w2 ⟨rfl, rfl⟩
      go_wp2
      go_ret
      exact RetH.mk HX.out rfl hD (Fr.refl _ _)
    · have HT := Lib.hid (show ¬ timeErr D now f t by unfold timeErr; omega)
      go_wp2_with (fail)
      refine (dnear_yes f w hD hf).mono ?_
      rintro e2 w2 ⟨rfl, rfl⟩
      go_wp2_with (fail)
      refine (decode_any b a c w hL hb hc (by omega) rfl).mono ?_
      intro e3 w3 R3
      obtain ⟨r, hr⟩ : ∃ r, r = decD b := ⟨_, rfl⟩
      rw [← hr] at R3
      have HR := Lib.hid hr.symm
      clear hr hL hb
      cases r with
      | error k =>
        obtain ⟨rfl, hF3⟩ := R3
        have HX := Lib.hid (HMM.out.trans (hearM_bad HT.out HR.out))
        obtain ⟨q1, q2⟩ := HD.out.bad' hF3 (.cells #[.bool false, .slice none 0 0] 26)
        have HQ1 := Lib.hid q1
        have HQ2 := Lib.hid q2
        obtain ⟨c0, -, -, c3, cf, cl⟩ := (HD.out.fr0 hF3).cells
        clear q1 q2 hD
        go_wp2
        go_ret
        exact RetH.mk HX.out rfl HQ1.out HQ2.out
      | ok p =>
        obtain ⟨ask, es⟩ := p
        obtain ⟨aE, cE, obE, rfl, hOE, hF3, hNE, -, h25⟩ := R3
        cases ask with
        | true =>
          have HX := Lib.hid (HMM.out.trans (hearM_ask HT.out HR.out))
          obtain ⟨q1, q2⟩ := HD.out.bad' hF3 (.cells #[.bool true, .slice aE es.length cE] 26)
          have HQ1 := Lib.hid q1
          have HQ2 := Lib.hid q2
          obtain ⟨c0, -, -, c3, cf, cl⟩ := (HD.out.fr0 hF3).cells
          clear q1 q2 hD hOE hNE
          go_wp2
          go_ret
          exact RetH.mk HX.out rfl HQ1.out HQ2.out
        | false =>
          have HX := Lib.hid (HMM.out.trans (hearM_ok HT.out HR.out))
          have HES := Lib.hid (decD_ok HB.out HR.out)
          have hFm := hF3.alloc (.cells #[.bool false, .slice aE es.length cE] 26)
          have hDm := HD.out.fr0 hFm
          have hOm := hOE.alloc (.cells #[.bool false, .slice aE es.length cE] 26)
          have hBm := Blk.made w3 26 [.bool false, .slice aE es.length cE]
          have hs3 := hF3.size
          obtain ⟨c0, -, -, -, -, cl⟩ := hDm.cells
          have hbr := HD.out.lt.2
          have hEt : ageE now l t = .ok (rAged t l) := if_neg (by unfold ckErr; omega)
          have hage := age_E (w3.alloc (.cells #[.bool false, .slice aE es.length cE] 26)) hDm.rib hDm.ok (by simp; omega) t
          rw [hEt] at hage
          clear hOE hD
          go_wp2_with (fail)
          refine hage.mono ?_
          rintro e4 w4 ⟨rfl, hR4, hF4⟩
          have hD4 := hDm.aged ht hF4 hR4
          have hOB := hOm.fr hF4 (fun g hg e => by have := hNE g hg; omega)
          have hB4 := hBm.fr hF4 (fun e => by omega)
          have hF04 : Fr (fun k => k = D.bd ∨ k = D.br) w w4 := (hFm.none _).trans' hF4 (fun _ _ h => .inr h)
          have m1 := hB4.cell 1
          have ml := hB4.lt
          simp only [List.getElem?_cons_succ, List.getElem?_cons_zero] at m1
          have HOB := Lib.hid hOB
          have HNE := Lib.hid hNE
          clear hage hEt hR4 hF4 hDm hOm hBm hFm c0 cl hF3 hOB hNE hB4
          go_wp2
          go_loopw [60] (fun s60 wr => ∃ (k : Nat) (l' : List Td), k ≤ es.length ∧ s60 = .int .i64 k ∧ Dmn wr base D t l' bad ∧ Hid (l' = hearL D f t (rAged t l) (es.take k)) ∧ Fr (fun k => k = D.bd ∨ k = D.br) w wr ∧ Fr (fun k => k = D.br) w4 wr) (fun s _ => es.length - (intOf s).toNat)
          case atStart => exact ⟨0, _, by omega, rfl, hD4, Lib.hid rfl, hF04, Fr.refl _ _⟩
          case round =>
            clear hD4 hF04 m1 ml
            obtain ⟨k, l', hk, rfl, hDr, hl', hF, hF4⟩ := hrel
            have hsr := hF.size
            by_cases hke : k < es.length
            · obtain ⟨g, hga, hgo, hgl, hgc, -⟩ := (HOB.out.fr hF4 (fun g hg e => by have := HNE.out g hg; omega)).pos (by omega)
              have dd := fun (j : Nat) (hj : j < 5) => (hgc (k * 5 + j) (by omega)).trans (flat_get En.cells 5 En.cells_len es k j hke hj)
              have d0 := dd 0 (by omega)
              have d1 := dd 1 (by omega)
              have d2 := dd 2 (by omega)
              have d3 := dd 3 (by omega)
              have d4 := dd 4 (by omega)
              have hstep := hearL_step D f t (rAged t l) es hke
              rw [← hl'.out] at hstep
              obtain ⟨hxe, hxw⟩ := HES.out _ (nth_mem es k hke)
              generalize nth es k = x at *
              obtain ⟨hx1, -, -, hx4⟩ := entErr_ok hxe
              have hxw2 := hxw.1
              obtain ⟨xa, xn, xt, xp, xm⟩ := x
              simp only at hx1 hx4 hxw2
              simp only [En.cells, List.getElem?_cons_zero, List.getElem?_cons_succ, Nat.add_zero] at d0 d1 d2 d3 d4
              have HGA := Lib.hid hga
              subst hga
              have HST := Lib.hid hstep
              have HX1 := Lib.hid hx1
              have hBx := Blk.made wr 87 [.int .u32 xa, .int .i64 xn, .int .i64 xt, .int .u32 xp, .int .i64 xm]
              have hFx := (Fr.refl (fun _ => False) wr).alloc (.cells #[.int .u32 xa, .int .i64 xn, .int .i64 xt, .int .u32 xp, .int .i64 xm] 87)
              have hDx := hDr.fr0 hFx
              obtain ⟨c0, -, c2, -, -, cl⟩ := hDx.cells
              have b0 := hBx.cell 0
              have b1 := hBx.cell 1
              have bl := hBx.lt
              simp only [List.getElem?_cons_succ, List.getElem?_cons_zero] at b0 b1
              clear dd hgc hstep hxe hxw hx1
              go_wp2
              (refine wp_region_mix (fun _ => True) 6 (by kernel_rfl) (by kernel_rfl) (trivial) ?_; simp only [List.take_succ_cons, List.take_zero, List.drop_succ_cons, List.drop_zero])
              (refine wpMix_earlyN 6 (by kernel_rfl) (by kernel_rfl) ?_; simp only [List.take_succ_cons, List.take_zero, List.drop_succ_cons, List.drop_zero]; (repeat (go_big_quiet_step (fail))); refine wpQuiet_nil ?_)
              refine wpMix_nil ?_
              go_wp2_with (fail)
              refine (netIn_any D.own ⟨xa, xn⟩ D.ao D.co _ (hDx.owns.fr (S := fun _ => False) ((Fr.refl _ _).drew) (fun _ _ _ h => h)) (by have := HD.out.o25; omega) rfl).mono ?_
              rintro e5 w5 ⟨rfl, hF5⟩
              have hFx5 := hFx.drew.trans hF5
              have hFx5' := ((Fr.refl (fun _ => False) (wr.alloc (.cells #[.int .u32 xa, .int .i64 xn, .int .i64 xt, .int .u32 xp, .int .i64 xm] 87))).drew.trans hF5)
              have hD5 := hDr.fr0 hFx5
              have hB5 := hBx.fr hFx5' (fun h => h)
              have hF05 := hF.trans (hFx5.none _)
              have hF45 := hF4.trans (hFx5.none _)
              clear hDx hDr hBx hFx hF hF4 c0 c2 cl b0 b1 bl hFx5 hFx5' hF5
              by_cases hm : (⟨xa, xn⟩ : Nt) ∈ D.own
              · rw [decide_eq_true hm]
                have HL2 := Lib.hid (show l' = hearL D f t (rAged t l) (es.take (k + 1)) by rw [HST.out, hear1_own hm])
                clear hm
                go_wp2
                go_roundw
                case rel => exact ⟨k + 1, l', by omega, by go_num, hD5, HL2, hF05, hF45⟩
                case measure => simp [intOf]; omega
              · rw [decide_eq_false hm]
                have HM := Lib.hid hm
                obtain ⟨c0, -, -, -, -, cl⟩ := hD5.cells
                have b0 := hB5.cell 0
                have b1 := hB5.cell 1
                have b4 := hB5.cell 4
                have bl := hB5.lt
                simp only [List.getElem?_cons_succ, List.getElem?_cons_zero] at b0 b1 b4
                have hs5 := hF05.size
                have hck : ¬ ckErr t f t := by unfold ckErr; omega
                clear hm
                go_wp2
                (refine wp_region_mix (fun _ => True) 10 (by kernel_rfl) (by kernel_rfl) (trivial) ?_; simp only [List.take_succ_cons, List.take_zero, List.drop_succ_cons, List.drop_zero])
                (refine wpMix_earlyN 10 (by kernel_rfl) (by kernel_rfl) ?_; simp only [List.take_succ_cons, List.take_zero, List.drop_succ_cons, List.drop_zero]; (repeat (go_big_quiet_step (fail))); refine wpQuiet_nil ?_)
                refine wpMix_nil ?_
                have hDd := hD5.fr0 (Fr.refl (fun _ => False) w5).drew
                have hlearn := learn_any w5.drew hDd.rib hDd.ok (by show base ≤ w5.heap.size; omega) f xa xn xm t hxw2
                go_wp2_with (fail)
                refine hlearn.mono ?_
                intro e6 w6 R6
                cases hle : learnE t l' f xa xn xm t with
                | error q =>
                  rw [hle] at R6
                  obtain ⟨rfl, hF6⟩ := R6
                  obtain rfl := learn_four hle hck HX1.out hx4
                  have HL2 := Lib.hid (show l' = hearL D f t (rAged t l) (es.take (k + 1)) by rw [HST.out, hear1_err HM.out hle])
                  have hFq := (Fr.refl (fun _ => False) w5).drew.trans hF6
                  have hD6 := hD5.fr0 hFq
                  have hF06 := hF05.trans (hFq.none _)
                  have hF46 := hF45.trans (hFq.none _)
                  clear hle hlearn hDd hD5 hB5 hF05 hF45 hF6 c0 cl b0 b1 b4 bl
                  have e44 : ∀ w : World, (binOp .neq 31 (.iface 44 (.int .i64 4)) (.iface 44 (.int .i64 4))).run Tryz.prog w = .ok (.bool false) w := fun w => by kernel_rfl
                  go_wp2
                  go_roundw
                  case rel => exact ⟨k + 1, l', by omega, by go_num, hD6, HL2, hF06, hF46⟩
                  case measure => simp [intOf]; omega
                | ok l2 =>
                  rw [hle] at R6
                  obtain ⟨rfl, hR6, hF6⟩ := R6
                  have HL2 := Lib.hid (show l2 = hearL D f t (rAged t l) (es.take (k + 1)) by rw [HST.out, hear1_ok HM.out hle])
                  have hD6 := hDd.learnt hle (by omega) hxw2 HM.out hF6 hR6
                  have hF06 := (hF05.drew).trans' hF6 (fun _ _ h => .inr h)
                  have hF46 := (hF45.drew).trans hF6
                  clear hle hlearn hDd hD5 hB5 hF05 hF45 hF6 hR6 c0 cl b0 b1 b4 bl
                  go_wp2
                  go_roundw
                  case rel => exact ⟨k + 1, l2, by omega, by go_num, hD6, HL2, hF06, hF46⟩
                  case measure => simp [intOf]; omega
            · have hke2 : k = es.length := by omega
              have HX2 := Lib.hid (show M = ⟨none, t, l', bad⟩ by rw [HX.out, hl'.out, hke2, List.take_length])
              clear hke2 hl'
              go_wp2
              go_ret
              exact RetH.mk HX2.out rfl hDr hF
end Go.Proofs.YtfglidaicjjpfaaGreatDoor
end
