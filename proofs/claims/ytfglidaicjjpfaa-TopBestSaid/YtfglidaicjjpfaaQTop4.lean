import Derived.Test.YtfglidaicjjpfaaDmNew
import Derived.Test.YtfglidaicjjpfaaQTop3
import Derived.Test.YtfglidaicjjpfaaNetW
import Derived.Handy
import Derived.Test.YtfglidaicjjpfaaNets
import Derived.Test.YtfglidaicjjpfaaBestB
import Derived.Test.YtfglidaicjjpfaaErr
import Derived.Test.YtfglidaicjjpfaaQTop1
import Derived.Test.YtfglidaicjjpfaaSl
section
namespace Go.Proofs.Ytfglidaicjjpfaa
open Go.RowKit

/-! What a router comes to. -/
structure HR where
  err : Option Int
  now : Int
  l : List Td
  bad : Int
/-- One entry heard. -/
def hear1 (D : DC) (f t : Int) (l : List Td) (e : En) : List Td := if (⟨e.a, e.n⟩ : Nt) ∈ D.own then l else match learnE t l f e.a e.n e.m t with
  | .ok l' => l'
  | .error _ => l
def hearL (D : DC) (f t : Int) (l : List Td) (es : List En) : List Td := es.foldl (hear1 D f t) l
def timeErr (D : DC) (now f t : Int) : Prop := t < now ∨ 1099511627776 < t ∨ f < 0 ∨ (D.costs.length : Int) ≤ f
instance (D : DC) (now f t : Int) : Decidable (timeErr D now f t) := by unfold timeErr; infer_instance
def hearM (D : DC) (now : Int) (l : List Td) (bad : Int) (b : List Int) (f t : Int) : HR :=
  if timeErr D now f t then ⟨some 1, now, l, bad⟩
  else match decD b with
    | .error k => ⟨some k, now, l, bad + 1⟩
    | .ok (true, _) => ⟨some 3, now, l, bad + 1⟩
    | .ok (false, es) => ⟨none, t, hearL D f t (rAged t l) es, bad⟩
def downM (D : DC) (now : Int) (l : List Td) (bad : Int) (f t : Int) : HR := if timeErr D now f t then ⟨some 1, now, l, bad⟩ else ⟨none, t, rLost f t l, bad⟩
def tickM (now : Int) (l : List Td) (bad : Int) (t : Int) : HR := if t < now ∨ 1099511627776 < t then ⟨some 1, now, l, bad⟩ else ⟨none, t, rAged t l, bad⟩
def RetH (w : World) (base : Nat) (D : DC) (r : HR) (e : Ending) (w' : World) : Prop := e = .returned (errO r.err) ∧ Dmn w' base D r.now r.l r.bad ∧ Fr (fun k => k = D.bd ∨ k = D.br) w w'
theorem RetH.mk {w w' : World} {base : Nat} {D : DC} {r : HR} {e : Ending} {v : Value} {o : Option Int} {now : Int} {l : List Td} {bad : Int} (hr : r = ⟨o, now, l, bad⟩) (he : e = .returned v) (hD : Dmn w' base D now l bad) (hF : Fr (fun k => k = D.bd ∨ k = D.br) w w') (hv : v = errO o := by rfl) : RetH w base D r e w' := by
  subst hr; subst hv; exact ⟨he, hD, hF⟩
namespace Dmn
variable {w w' : World} {base : Nat} {D : DC} {now : Int} {l : List Td} {bad : Int}
theorem time (h : Dmn w base D now l bad) : 0 ≤ now ∧ now ≤ 1099511627776 := ⟨h.ok.n0, h.ok.n1⟩
theorem aged {t : Int} (h : Dmn w base D now l bad) (ht : ¬ (t < now ∨ 1099511627776 < t)) (f : Fr (fun k => k = D.br) w w') (hR : IsRib w'.heap base D.br t (rAged t l)) : Dmn w' base D t (rAged t l) bad :=
  h.put f hR (rAged_ok h.ok (by omega) (by omega)) (fun x hx => by obtain ⟨y, hy, h1, h2, h3⟩ := age1_mem hx; rw [← h1, ← h2, ← h3]; exact h.by' y hy) (fun x hx => by obtain ⟨y, hy, h1, h2, h3⟩ := age1_mem hx; rw [← h2, ← h3]; exact h.out y hy)
theorem lost {f t : Int} (h : Dmn w base D now l bad) (ht : ¬ (t < now ∨ 1099511627776 < t)) (fr : Fr (fun k => k = D.br) w w') (hR : IsRib w'.heap base D.br t (rLost f t l)) : Dmn w' base D t (rLost f t l) bad :=
  h.put fr hR (lose_ok h.ok (by omega) (by omega)) (fun x hx => by obtain ⟨y, hy, h1, h2, h3⟩ := lost_mem hx; rw [← h1, ← h2, ← h3]; exact h.by' y hy) (fun x hx => by obtain ⟨y, hy, h1, h2, h3⟩ := lost_mem hx; rw [← h2, ← h3]; exact h.out y hy)
theorem learnt {f t a n m : Int} {l' : List Td} (h : Dmn w base D now l bad) (hp : learnE now l f a n m t = .ok l') (hf : f < D.costs.length) (ha : 0 ≤ a ∧ a < 4294967296) (ho : (⟨a, n⟩ : Nt) ∉ D.own) (fr : Fr (fun k => k = D.br) w w') (hR : IsRib w'.heap base D.br t l') : Dmn w' base D t l' bad := by
  obtain ⟨q1, q2, q3, q4, q5, q6, q7, q8, q9⟩ := learn_ok h.ok ha hp
  refine h.put fr hR q1 (fun x hx => ?_) (fun x hx => ?_)
  · rcases rPut_mem q9 hx with ⟨e1, e2, e3⟩ | hx
    · rw [e1, e2, e3]; exact ⟨hf, q6⟩
    · obtain ⟨y, hy, h1, h2, h3⟩ := age1_mem hx; rw [← h1, ← h2, ← h3]; exact h.by' y hy
  · rcases rPut_mem q9 hx with ⟨e1, e2, e3⟩ | hx
    · rw [e2, e3]; exact ho
    · obtain ⟨y, hy, h1, h2, h3⟩ := age1_mem hx; rw [← h2, ← h3]; exact h.out y hy
end Dmn
/-- What is decoded is right. -/
theorem entD_ok {b : List Int} {e : En} (hb : ∀ x ∈ b, 0 ≤ x ∧ x < 256) (h : entD b = some e) : entErr e = none ∧ En.wf e := by
  unfold entD at h
  split at h
  · cases h
  · split at h
    · rename_i hc
      cases h
      exact ⟨hc.2, numB_bd (fun x hx => hb x (List.mem_of_mem_drop (List.mem_of_mem_take hx))), numB_bd (fun x hx => hb x (List.mem_of_mem_drop (List.mem_of_mem_take hx)))⟩
    · cases h
theorem partsD_ok : ∀ (k : Nat) (b : List Int) (acc es : List En), (∀ x ∈ b, 0 ≤ x ∧ x < 256) → partsD k b acc = some es → (∀ e ∈ acc, entErr e = none ∧ En.wf e) → ∀ e ∈ es, entErr e = none ∧ En.wf e := by
  intro k
  induction k with
  | zero => intro b acc es _ h ha; cases h; exact ha
  | succ k ih =>
    intro b acc es hb h ha
    unfold partsD at h
    split at h
    · cases h; exact ha
    · split at h
      · cases h
      · rename_i e he
        split at h
        · cases h
        · refine ih _ _ _ (fun x hx => hb x (List.mem_of_mem_drop hx)) h (fun y hy => ?_)
          rcases List.mem_append.1 hy with hy | hy
          · exact ha y hy
          · rw [List.mem_singleton.1 hy]
            exact entD_ok (filledD_bd (fun x hx => hb x (List.mem_of_mem_take hx))) he
theorem decD_ok {b : List Int} {q : Bool} {es : List En} (hb : ∀ x ∈ b, 0 ≤ x ∧ x < 256) (h : decD b = .ok (q, es)) : ∀ e ∈ es, entErr e = none ∧ En.wf e := by
  unfold decD at h
  split at h
  · cases h
  · split at h
    · cases h
    · rename_i l hl
      split at h
      · cases h
      · cases h
        refine partsD_ok _ _ _ _ (fun x hx => ?_) hl (fun _ h => nomatch h)
        have hx := List.mem_of_mem_drop hx
        unfold headD at hx
        split at hx
        · rcases List.mem_append.1 hx with hx | hx
          · exact hb x hx
          · have := List.mem_of_mem_drop hx
            simp only [List.mem_cons, List.not_mem_nil, or_false] at this
            omega
        · exact hb x hx
theorem learn_four {now f a n m t q : Int} {l : List Td} (h : learnE now l f a n m t = .error q) (hc : ¬ ckErr now f t) (hn : netErr a n = none) (hm : 1 ≤ m ∧ m ≤ 16) : q = 4 := by
  unfold learnE at h
  rw [if_neg hc, hn] at h
  simp only at h
  rw [if_neg (by omega)] at h
  unfold rPut at h
  split at h
  · split at h <;> cases h
  · split at h
    · cases h
    · split at h
      · cases h; rfl
      · cases h
theorem hearL_step (D : DC) (f t : Int) (l : List Td) (es : List En) {k : Nat} (h : k < es.length) : hearL D f t l (es.take (k + 1)) = hear1 D f t (hearL D f t l (es.take k)) (nth es k) := by
  unfold hearL
  rw [take_succ_nth es k h, List.foldl_append]
  rfl
theorem hear1_own {D : DC} {f t : Int} {l : List Td} {e : En} (h : (⟨e.a, e.n⟩ : Nt) ∈ D.own) : hear1 D f t l e = l := if_pos h
theorem hear1_ok {D : DC} {f t : Int} {l l' : List Td} {e : En} (h : (⟨e.a, e.n⟩ : Nt) ∉ D.own) (hl : learnE t l f e.a e.n e.m t = .ok l') : hear1 D f t l e = l' := by unfold hear1; rw [if_neg h, hl]
theorem hear1_err {D : DC} {f t q : Int} {l : List Td} {e : En} (h : (⟨e.a, e.n⟩ : Nt) ∉ D.own) (hl : learnE t l f e.a e.n e.m t = .error q) : hear1 D f t l e = l := by unfold hear1; rw [if_neg h, hl]

set_option maxRecDepth 100000 in
theorem dtime_yes {base : Nat} {D : DC} {now : Int} {l : List Td} {bad : Int} (t : Int) (w : World) (hD : Dmn w base D now l bad) (ht : ¬ (t < now ∨ 1099511627776 < t)) : Calls Try.prog 35 #[.pointer (some ⟨D.bd, 0, none⟩), .int .i64 t] w (RetS w (.bool true)) := by
  obtain ⟨c0, -, -, -, -, cl⟩ := hD.cells
  have g0 : decide (now ≤ t) = true := decide_eq_true (by omega)
  have g1 : decide (t ≤ 1099511627776) = true := decide_eq_true (by omega)
  go_enter Try.func35, Try.ntmps35
  go_wp2_with (fail)
  refine (ribNow_any w hD.rib).mono ?_
  rintro e1 w1 ⟨rfl, rfl⟩
  go_wp2
  go_ret
  exact RetS.mk rfl rfl rfl
set_option maxRecDepth 100000 in
theorem dtime_no {base : Nat} {D : DC} {now : Int} {l : List Td} {bad : Int} (t : Int) (w : World) (hD : Dmn w base D now l bad) (ht : t < now ∨ 1099511627776 < t) : Calls Try.prog 35 #[.pointer (some ⟨D.bd, 0, none⟩), .int .i64 t] w (RetS w (.bool false)) := by
  obtain ⟨c0, -, -, -, -, cl⟩ := hD.cells
  have hq : decide (now ≤ t) = false ∨ (decide (now ≤ t) = true ∧ decide (t ≤ 1099511627776) = false) := by
    by_cases h : now ≤ t
    · exact .inr ⟨decide_eq_true h, decide_eq_false (by omega)⟩
    · exact .inl (decide_eq_false h)
  rcases hq with g0 | ⟨g0, g1⟩
  all_goals
    go_enter Try.func35, Try.ntmps35
    go_wp2_with (fail)
    refine (ribNow_any w hD.rib).mono ?_
    rintro e1 w1 ⟨rfl, rfl⟩
    go_wp2
    go_ret
    exact RetS.mk rfl rfl rfl
set_option maxRecDepth 100000 in
theorem dnear_yes {base : Nat} {D : DC} {now : Int} {l : List Td} {bad : Int} (f : Int) (w : World) (hD : Dmn w base D now l bad) (hf : ¬ (f < 0 ∨ (D.costs.length : Int) ≤ f)) : Calls Try.prog 36 #[.pointer (some ⟨D.bd, 0, none⟩), .int .i64 f] w (RetS w (.bool true)) := by
  obtain ⟨-, c1, -, -, -, cl⟩ := hD.cells
  have g0 : decide (0 ≤ f) = true := decide_eq_true (by omega)
  have g1 : decide (f < (D.costs.length : Int)) = true := decide_eq_true (by omega)
  go_enter Try.func36, Try.ntmps36
  go_wp2
  go_ret
  exact RetS.mk rfl rfl rfl
set_option maxRecDepth 100000 in
theorem dnear_no {base : Nat} {D : DC} {now : Int} {l : List Td} {bad : Int} (f : Int) (w : World) (hD : Dmn w base D now l bad) (hf : f < 0 ∨ (D.costs.length : Int) ≤ f) : Calls Try.prog 36 #[.pointer (some ⟨D.bd, 0, none⟩), .int .i64 f] w (RetS w (.bool false)) := by
  obtain ⟨-, c1, -, -, -, cl⟩ := hD.cells
  have hq : decide (0 ≤ f) = false ∨ (decide (0 ≤ f) = true ∧ decide (f < (D.costs.length : Int)) = false) := by
    by_cases h : 0 ≤ f
    · exact .inr ⟨decide_eq_true h, decide_eq_false (by omega)⟩
    · exact .inl (decide_eq_false h)
  rcases hq with g0 | ⟨g0, g1⟩
  all_goals
    go_enter Try.func36, Try.ntmps36
    go_wp2
    go_ret
    exact RetS.mk rfl rfl rfl
set_option maxRecDepth 100000 in
theorem dtick_any {base : Nat} {D : DC} {now : Int} {l : List Td} {bad : Int} (t : Int) (w : World) (hD : Dmn w base D now l bad) (hbase : base ≤ w.heap.size) : Calls Try.prog 22 #[.pointer (some ⟨D.bd, 0, none⟩), .int .i64 t] w (RetH w base D (tickM now l bad t)) := by
  obtain ⟨c0, -, -, -, -, cl⟩ := hD.cells
  go_enter Try.func22, Try.ntmps22
  go_wp2_with (fail)
  refine (age_E w hD.rib hD.ok hbase t).mono ?_
  intro e1 w1 R1
  by_cases ht : t < now ∨ 1099511627776 < t
  · have hE : ageE now l t = .error 1 := if_pos (by unfold ckErr; omega)
    have HX := Lib.hid (show tickM now l bad t = ⟨some 1, now, l, bad⟩ from if_pos ht)
    rw [hE] at R1
    obtain ⟨rfl, hF⟩ := R1
    have HD := Lib.hid (hD.fr0 hF)
    clear hE ht
    go_wp2
    go_ret
    exact RetH.mk HX.out rfl HD.out (hF.none _)
  · have hE : ageE now l t = .ok (rAged t l) := if_neg (by unfold ckErr; omega)
    have HX := Lib.hid (show tickM now l bad t = ⟨none, t, rAged t l, bad⟩ from if_neg ht)
    rw [hE] at R1
    obtain ⟨rfl, hR, hF⟩ := R1
    have HD := Lib.hid (hD.aged ht hF hR)
    clear hE ht hR
    go_wp2
    go_ret
    exact RetH.mk HX.out rfl HD.out (hF.mono (fun _ _ h => .inr h))
set_option maxRecDepth 100000 in
theorem ddown_any {base : Nat} {D : DC} {now : Int} {l : List Td} {bad : Int} (f t : Int) (w : World) (hD : Dmn w base D now l bad) (hbase : base ≤ w.heap.size) : Calls Try.prog 23 #[.pointer (some ⟨D.bd, 0, none⟩), .int .i64 f, .int .i64 t] w (RetH w base D (downM D now l bad f t)) := by
  obtain ⟨c0, -, -, -, -, cl⟩ := hD.cells
  have hc8 := hD.c8
  go_enter Try.func23, Try.ntmps23
  by_cases hf : f < 0 ∨ (D.costs.length : Int) ≤ f
  · have HX := Lib.hid (show downM D now l bad f t = ⟨some 1, now, l, bad⟩ from if_pos (.inr (.inr hf)))
    go_wp2_with (fail)
    refine (dnear_no f w hD hf).mono ?_
    rintro e1 w1 ⟨rfl, rfl⟩
    go_wp2
    go_ret
    exact RetH.mk HX.out rfl hD (Fr.refl _ _)
  · go_wp2_with (fail)
    refine (dnear_yes f w hD hf).mono ?_
    rintro e1 w1 ⟨rfl, rfl⟩
    go_wp2_with (fail)
    refine (lose_E w hD.rib hD.ok hbase f t).mono ?_
    intro e2 w2 R2
    by_cases ht : t < now ∨ 1099511627776 < t
    · have hE : loseE now l f t = .error 1 := if_pos (by unfold ckErr; omega)
      have HX := Lib.hid (show downM D now l bad f t = ⟨some 1, now, l, bad⟩ from if_pos (by unfold timeErr; omega))
      rw [hE] at R2
      obtain ⟨rfl, hF⟩ := R2
      have HD := Lib.hid (hD.fr0 hF)
      clear hE ht hf
      go_wp2
      go_ret
      exact RetH.mk HX.out rfl HD.out (hF.none _)
    · have hE : loseE now l f t = .ok (rLost f t l) := if_neg (by unfold ckErr; omega)
      have HX := Lib.hid (show downM D now l bad f t = ⟨none, t, rLost f t l, bad⟩ from if_neg (by unfold timeErr; omega))
      rw [hE] at R2
      obtain ⟨rfl, hR, hF⟩ := R2
      have HD := Lib.hid (hD.lost ht hF hR)
      clear hE ht hf hR
      go_wp2
      go_ret
      exact RetH.mk HX.out rfl HD.out (hF.mono (fun _ _ h => .inr h))
/-- A message that is none. -/
theorem hearM_time {D : DC} {now : Int} {l : List Td} {bad : Int} {b : List Int} {f t : Int} (h : timeErr D now f t) : hearM D now l bad b f t = ⟨some 1, now, l, bad⟩ := if_pos h
theorem hearM_bad {D : DC} {now : Int} {l : List Td} {bad : Int} {b : List Int} {f t k : Int} (h : ¬ timeErr D now f t) (hd : decD b = .error k) : hearM D now l bad b f t = ⟨some k, now, l, bad + 1⟩ := by unfold hearM; rw [if_neg h, hd]
theorem hearM_ask {D : DC} {now : Int} {l : List Td} {bad : Int} {b : List Int} {f t : Int} {es : List En} (h : ¬ timeErr D now f t) (hd : decD b = .ok (true, es)) : hearM D now l bad b f t = ⟨some 3, now, l, bad + 1⟩ := by unfold hearM; rw [if_neg h, hd]
theorem hearM_ok {D : DC} {now : Int} {l : List Td} {bad : Int} {b : List Int} {f t : Int} {es : List En} (h : ¬ timeErr D now f t) (hd : decD b = .ok (false, es)) : hearM D now l bad b f t = ⟨none, t, hearL D f t (rAged t l) es, bad⟩ := by unfold hearM; rw [if_neg h, hd]
theorem Dmn.bad' {w w' : World} {base : Nat} {D : DC} {now : Int} {l : List Td} {bad : Int} (h : Dmn w base D now l bad) (f : Fr (fun _ => False) w w') (o : Obj) : Dmn ((w'.setCell ⟨D.bd, 3, none⟩ (.int .i64 (bad + 1))).alloc o) base D now l (bad + 1) ∧ Fr (fun k => k = D.bd ∨ k = D.br) w ((w'.setCell ⟨D.bd, 3, none⟩ (.int .i64 (bad + 1))).alloc o) :=
  ⟨((h.fr0 f).worse).fr0 ((Fr.refl _ _).alloc _), ((f.none _).setCell (p := ⟨D.bd, 3, none⟩) (fun _ => .inl rfl) _).alloc _⟩

set_option maxRecDepth 100000 in
set_option maxHeartbeats 8000000 in
theorem dhear_any {N base : Nat} {D : DC} {now : Int} {l : List Td} {bad : Int} (b : List Int) (a : Option Addr) (c : Nat) (f t : Int) (w : World) (hD : Dmn w base D now l bad) (hbase : base ≤ w.heap.size) (hbad : 0 ≤ bad ∧ bad ≤ 9223372036854775000) (hL : Rd w.heap a N 1 (ivals .u8 b)) (hb : ∀ x ∈ b, 0 ≤ x ∧ x < 256) (hc : b.length ≤ c) (hll : b.length ≤ 9223372036854775000) (hN : N = b.length) :
    Calls Try.prog 11 #[.pointer (some ⟨D.bd, 0, none⟩), .slice a N c, .int .i64 f, .int .i64 t] w (RetH w base D (hearM D now l bad b f t)) := by
  obtain ⟨M, hM⟩ : ∃ M, M = hearM D now l bad b f t := ⟨_, rfl⟩
  rw [← hM]
  have HMM := Lib.hid hM
  have HD := Lib.hid hD
  have HB := Lib.hid hb
  have hc8 := hD.c8
  have hnt := hD.time
  subst hN
  clear hM
  go_enter Try.func11, Try.ntmps11
  by_cases ht : t < now ∨ 1099511627776 < t
  · have HX := Lib.hid (HMM.out.trans (hearM_time (by unfold timeErr; omega)))
    go_wp2_with (fail)
    refine (dtime_no t w hD ht).mono ?_
    rintro e1 w1 ⟨rfl, rfl⟩
    go_wp2
    go_ret
    exact RetH.mk HX.out rfl hD (Fr.refl _ _)
  · go_wp2_with (fail)
    refine (dtime_yes t w hD ht).mono ?_
    rintro e1 w1 ⟨rfl, rfl⟩
    by_cases hf : f < 0 ∨ (D.costs.length : Int) ≤ f
    · have HX := Lib.hid (HMM.out.trans (hearM_time (.inr (.inr hf))))
      go_wp2_with (fail)
      refine (dnear_no f w hD hf).mono ?_
      rintro e2 w2 ⟨rfl, rfl⟩
      go_wp2
      go_ret
      exact RetH.mk HX.out rfl hD (Fr.refl _ _)
    · have HT := Lib.hid (show ¬ timeErr D now f t by unfold timeErr; omega)
      go_wp2_with (fail)
      refine (dnear_yes f w hD hf).mono ?_
      rintro e2 w2 ⟨rfl, rfl⟩
      go_wp2_with (fail)
      refine (decode_any b a c w hL hb hc (by omega) rfl).mono ?_
      intro e3 w3 R3
      obtain ⟨r, hr⟩ : ∃ r, r = decD b := ⟨_, rfl⟩
      rw [← hr] at R3
      have HR := Lib.hid hr.symm
      clear hr hL hb
      cases r with
      | error k =>
        obtain ⟨rfl, hF3⟩ := R3
        have HX := Lib.hid (HMM.out.trans (hearM_bad HT.out HR.out))
        obtain ⟨q1, q2⟩ := HD.out.bad' hF3 (.cells #[.bool false, .slice none 0 0] 39)
        have HQ1 := Lib.hid q1
        have HQ2 := Lib.hid q2
        obtain ⟨c0, -, -, c3, cf, cl⟩ := (HD.out.fr0 hF3).cells
        clear q1 q2 hD
        go_wp2
        go_ret
        exact RetH.mk HX.out rfl HQ1.out HQ2.out
      | ok p =>
        obtain ⟨ask, es⟩ := p
        obtain ⟨aE, cE, obE, rfl, hOE, hF3, hNE, -, h25⟩ := R3
        cases ask with
        | true =>
          have HX := Lib.hid (HMM.out.trans (hearM_ask HT.out HR.out))
          obtain ⟨q1, q2⟩ := HD.out.bad' hF3 (.cells #[.bool true, .slice aE es.length cE] 39)
          have HQ1 := Lib.hid q1
          have HQ2 := Lib.hid q2
          obtain ⟨c0, -, -, c3, cf, cl⟩ := (HD.out.fr0 hF3).cells
          clear q1 q2 hD hOE hNE
          go_wp2
          go_ret
          exact RetH.mk HX.out rfl HQ1.out HQ2.out
        | false =>
          have HX := Lib.hid (HMM.out.trans (hearM_ok HT.out HR.out))
          have HES := Lib.hid (decD_ok HB.out HR.out)
          have hFm := hF3.alloc (.cells #[.bool false, .slice aE es.length cE] 39)
          have hDm := HD.out.fr0 hFm
          have hOm := hOE.alloc (.cells #[.bool false, .slice aE es.length cE] 39)
          have hBm := Blk.made w3 39 [.bool false, .slice aE es.length cE]
          have hs3 := hF3.size
          obtain ⟨c0, -, -, -, -, cl⟩ := hDm.cells
          have hbr := HD.out.lt.2
          have hEt : ageE now l t = .ok (rAged t l) := if_neg (by unfold ckErr; omega)
          have hage := age_E (w3.alloc (.cells #[.bool false, .slice aE es.length cE] 39)) hDm.rib hDm.ok (by simp; omega) t
          rw [hEt] at hage
          clear hOE hD
          go_wp2_with (fail)
          refine hage.mono ?_
          rintro e4 w4 ⟨rfl, hR4, hF4⟩
          have hD4 := hDm.aged ht hF4 hR4
          have hOB := hOm.fr hF4 (fun g hg e => by have := hNE g hg; omega)
          have hB4 := hBm.fr hF4 (fun e => by omega)
          have hF04 : Fr (fun k => k = D.bd ∨ k = D.br) w w4 := (hFm.none _).trans' hF4 (fun _ _ h => .inr h)
          have m1 := hB4.cell 1
          have ml := hB4.lt
          simp only [List.getElem?_cons_succ, List.getElem?_cons_zero] at m1
          have HOB := Lib.hid hOB
          have HNE := Lib.hid hNE
          clear hage hEt hR4 hF4 hDm hOm hBm hFm c0 cl hF3 hOB hNE hB4
          go_wp2
          go_loopw [60] (fun s60 wr => ∃ (k : Nat) (l' : List Td), k ≤ es.length ∧ s60 = .int .i64 k ∧ Dmn wr base D t l' bad ∧ Hid (l' = hearL D f t (rAged t l) (es.take k)) ∧ Fr (fun k => k = D.bd ∨ k = D.br) w wr ∧ Fr (fun k => k = D.br) w4 wr) (fun s _ => es.length - (intOf s).toNat)
          case atStart => exact ⟨0, _, by omega, rfl, hD4, Lib.hid rfl, hF04, Fr.refl _ _⟩
          case round =>
            clear hD4 hF04 m1 ml
            obtain ⟨k, l', hk, rfl, hDr, hl', hF, hF4⟩ := hrel
            have hsr := hF.size
            by_cases hke : k < es.length
            · obtain ⟨g, hga, hgo, hgl, hgc, -⟩ := (HOB.out.fr hF4 (fun g hg e => by have := HNE.out g hg; omega)).pos (by omega)
              have dd := fun (j : Nat) (hj : j < 5) => (hgc (k * 5 + j) (by omega)).trans (flat_get En.cells 5 En.cells_len es k j hke hj)
              have d0 := dd 0 (by omega)
              have d1 := dd 1 (by omega)
              have d2 := dd 2 (by omega)
              have d3 := dd 3 (by omega)
              have d4 := dd 4 (by omega)
              have hstep := hearL_step D f t (rAged t l) es hke
              rw [← hl'.out] at hstep
              obtain ⟨hxe, hxw⟩ := HES.out _ (nth_mem es k hke)
              generalize nth es k = x at *
              obtain ⟨hx1, -, -, hx4⟩ := entErr_ok hxe
              have hxw2 := hxw.1
              obtain ⟨xa, xn, xt, xp, xm⟩ := x
              simp only at hx1 hx4 hxw2
              simp only [En.cells, List.getElem?_cons_zero, List.getElem?_cons_succ, Nat.add_zero] at d0 d1 d2 d3 d4
              have HGA := Lib.hid hga
              subst hga
              have HST := Lib.hid hstep
              have HX1 := Lib.hid hx1
              have hBx := Blk.made wr 45 [.int .u32 xa, .int .i64 xn, .int .i64 xt, .int .u32 xp, .int .i64 xm]
              have hFx := (Fr.refl (fun _ => False) wr).alloc (.cells #[.int .u32 xa, .int .i64 xn, .int .i64 xt, .int .u32 xp, .int .i64 xm] 45)
              have hDx := hDr.fr0 hFx
              obtain ⟨c0, -, c2, -, -, cl⟩ := hDx.cells
              have b0 := hBx.cell 0
              have b1 := hBx.cell 1
              have bl := hBx.lt
              simp only [List.getElem?_cons_succ, List.getElem?_cons_zero] at b0 b1
              clear dd hgc hstep hxe hxw hx1
              go_wp2
              (refine wp_region_mix (fun _ => True) 6 (by kernel_rfl) (by kernel_rfl) (trivial) ?_; simp only [List.take_succ_cons, List.take_zero, List.drop_succ_cons, List.drop_zero])
              (refine wpMix_earlyN 6 (by kernel_rfl) (by kernel_rfl) ?_; simp only [List.take_succ_cons, List.take_zero, List.drop_succ_cons, List.drop_zero]; (repeat (go_big_quiet_step (fail))); refine wpQuiet_nil ?_)
              refine wpMix_nil ?_
              go_wp2_with (fail)
              refine (netIn_any D.own ⟨xa, xn⟩ D.ao D.co _ (hDx.owns.fr (S := fun _ => False) ((Fr.refl _ _).drew) (fun _ _ _ h => h)) (by have := HD.out.o25; omega) rfl).mono ?_
              rintro e5 w5 ⟨rfl, hF5⟩
              have hFx5 := hFx.drew.trans hF5
              have hFx5' := ((Fr.refl (fun _ => False) (wr.alloc (.cells #[.int .u32 xa, .int .i64 xn, .int .i64 xt, .int .u32 xp, .int .i64 xm] 45))).drew.trans hF5)
              have hD5 := hDr.fr0 hFx5
              have hB5 := hBx.fr hFx5' (fun h => h)
              have hF05 := hF.trans (hFx5.none _)
              have hF45 := hF4.trans (hFx5.none _)
              clear hDx hDr hBx hFx hF hF4 c0 c2 cl b0 b1 bl hFx5 hFx5' hF5
              by_cases hm : (⟨xa, xn⟩ : Nt) ∈ D.own
              · rw [decide_eq_true hm]
                have HL2 := Lib.hid (show l' = hearL D f t (rAged t l) (es.take (k + 1)) by rw [HST.out, hear1_own hm])
                clear hm
                go_wp2
                go_roundw
                case rel => exact ⟨k + 1, l', by omega, by go_num, hD5, HL2, hF05, hF45⟩
                case measure => simp [intOf]; omega
              · rw [decide_eq_false hm]
                have HM := Lib.hid hm
                obtain ⟨c0, -, -, -, -, cl⟩ := hD5.cells
                have b0 := hB5.cell 0
                have b1 := hB5.cell 1
                have b4 := hB5.cell 4
                have bl := hB5.lt
                simp only [List.getElem?_cons_succ, List.getElem?_cons_zero] at b0 b1 b4
                have hs5 := hF05.size
                have hck : ¬ ckErr t f t := by unfold ckErr; omega
                clear hm
                go_wp2
                (refine wp_region_mix (fun _ => True) 10 (by kernel_rfl) (by kernel_rfl) (trivial) ?_; simp only [List.take_succ_cons, List.take_zero, List.drop_succ_cons, List.drop_zero])
                (refine wpMix_earlyN 10 (by kernel_rfl) (by kernel_rfl) ?_; simp only [List.take_succ_cons, List.take_zero, List.drop_succ_cons, List.drop_zero]; (repeat (go_big_quiet_step (fail))); refine wpQuiet_nil ?_)
                refine wpMix_nil ?_
                have hDd := hD5.fr0 (Fr.refl (fun _ => False) w5).drew
                have hlearn := learn_any w5.drew hDd.rib hDd.ok (by show base ≤ w5.heap.size; omega) f xa xn xm t hxw2
                go_wp2_with (fail)
                refine hlearn.mono ?_
                intro e6 w6 R6
                cases hle : learnE t l' f xa xn xm t with
                | error q =>
                  rw [hle] at R6
                  obtain ⟨rfl, hF6⟩ := R6
                  obtain rfl := learn_four hle hck HX1.out hx4
                  have HL2 := Lib.hid (show l' = hearL D f t (rAged t l) (es.take (k + 1)) by rw [HST.out, hear1_err HM.out hle])
                  have hFq := (Fr.refl (fun _ => False) w5).drew.trans hF6
                  have hD6 := hD5.fr0 hFq
                  have hF06 := hF05.trans (hFq.none _)
                  have hF46 := hF45.trans (hFq.none _)
                  clear hle hlearn hDd hD5 hB5 hF05 hF45 hF6 c0 cl b0 b1 b4 bl
                  have e44 : ∀ w : World, (binOp .neq 27 (.iface 72 (.int .i64 4)) (.iface 72 (.int .i64 4))).run Try.prog w = .ok (.bool false) w := fun w => by kernel_rfl
                  go_wp2
                  go_roundw
                  case rel => exact ⟨k + 1, l', by omega, by go_num, hD6, HL2, hF06, hF46⟩
                  case measure => simp [intOf]; omega
                | ok l2 =>
                  rw [hle] at R6
                  obtain ⟨rfl, hR6, hF6⟩ := R6
                  have HL2 := Lib.hid (show l2 = hearL D f t (rAged t l) (es.take (k + 1)) by rw [HST.out, hear1_ok HM.out hle])
                  have hD6 := hDd.learnt hle (by omega) hxw2 HM.out hF6 hR6
                  have hF06 := (hF05.drew).trans' hF6 (fun _ _ h => .inr h)
                  have hF46 := (hF45.drew).trans hF6
                  clear hle hlearn hDd hD5 hB5 hF05 hF45 hF6 hR6 c0 cl b0 b1 b4 bl
                  go_wp2
                  go_roundw
                  case rel => exact ⟨k + 1, l2, by omega, by go_num, hD6, HL2, hF06, hF46⟩
                  case measure => simp [intOf]; omega
            · have hke2 : k = es.length := by omega
              have HX2 := Lib.hid (show M = ⟨none, t, l', bad⟩ by rw [HX.out, hl'.out, hke2, List.take_length])
              clear hke2 hl'
              go_wp2
              go_ret
              exact RetH.mk HX2.out rfl hDr hF
end Go.Proofs.Ytfglidaicjjpfaa
end

section
namespace Go.Proofs.Ytfglidaicjjpfaa
open Go.RowKit

/-! ### Cut to so many bits -/
def cutA (a : Int) (k : Nat) : Int := a - a % 2 ^ (32 - k)
theorem nat_and_hi (A j : Nat) (hA : A < 2 ^ 32) (hj : j ≤ 32) : A &&& (2 ^ 32 - 2 ^ j) = A - A % 2 ^ j := by
  have e1 : 2 ^ 32 - 2 ^ j = (2 ^ (32 - j) - 1) <<< j := by
    rw [Nat.shiftLeft_eq, Nat.sub_mul, ← Nat.pow_add, Nat.sub_add_cancel hj, Nat.one_mul]
  have e2 : A - A % 2 ^ j = (A >>> j) <<< j := by
    rw [Nat.shiftLeft_eq, Nat.shiftRight_eq_div_pow]
    have := Nat.div_add_mod A (2 ^ j)
    rw [Nat.mul_comm] at this
    omega
  rw [e1, e2]
  apply Nat.eq_of_testBit_eq
  intro b
  simp only [Nat.testBit_and, Nat.testBit_shiftLeft, Nat.testBit_two_pow_sub_one, Nat.testBit_shiftRight]
  by_cases hb : j ≤ b
  · have e3 : j + (b - j) = b := by omega
    rw [e3]
    by_cases h32 : b - j < 32 - j
    · simp [hb, h32]
    · have : A.testBit b = false := Nat.testBit_lt_two_pow (Nat.lt_of_lt_of_le hA (Nat.pow_le_pow_right (by decide) (by omega)))
      simp [this]
  · simp [hb]
theorem maskV_and (a : Int) (n : Nat) (ha : 0 ≤ a ∧ a < 4294967296) (hn : n ≤ 32) : bits .and .u32 a (maskV n) = cutA a n := by
  have h1 := maskV_eq n (by omega)
  have h2 := pow_le32 n (by omega)
  rw [u32_and a _ ha.1 ha.2 (by omega) (by omega), h1]
  obtain ⟨A, rfl⟩ := Int.eq_ofNat_of_zero_le ha.1
  have e : (4294967296 - (2 : Int) ^ (32 - n)).toNat = 2 ^ 32 - 2 ^ (32 - n) := by
    have : ((2 ^ (32 - n) : Nat) : Int) = (2 : Int) ^ (32 - n) := by simp
    omega
  have hle : A % 2 ^ (32 - n) ≤ A := Nat.mod_le _ _
  rw [e, Int.toNat_natCast, nat_and_hi A (32 - n) (by omega) (by omega), cutA]
  rw [Int.ofNat_sub hle]
  simp
theorem cutA_bd {a : Int} (ha : 0 ≤ a ∧ a < 4294967296) (k : Nat) : 0 ≤ cutA a k ∧ cutA a k < 4294967296 := by
  have h := Int.emod_nonneg a (show (2 : Int) ^ (32 - k) ≠ 0 from Int.ne_of_gt (Int.pow_pos (by decide)))
  have h2 : a % 2 ^ (32 - k) ≤ a := by
    obtain ⟨A, rfl⟩ := Int.eq_ofNat_of_zero_le ha.1
    have : ((2 ^ (32 - k) : Nat) : Int) = (2 : Int) ^ (32 - k) := by simp
    rw [← this, ← Int.natCast_emod]
    exact Int.ofNat_le.2 (Nat.mod_le _ _)
  unfold cutA
  omega
theorem cutA_mod (a : Int) (k : Nat) : cutA a k % 2 ^ (32 - k) = 0 := by
  unfold cutA
  exact Int.emod_eq_zero_of_dvd (by
    have := Int.mul_ediv_add_emod a (2 ^ (32 - k))
    exact ⟨a / 2 ^ (32 - k), by omega⟩)
/-- Cut twice. -/
theorem cutA_cut (a : Int) {i j : Nat} (hij : i ≤ j) (hj : j ≤ 32) : cutA (cutA a j) i = cutA a i := by
  have hd : (2 : Int) ^ (32 - j) ∣ 2 ^ (32 - i) := ⟨2 ^ (j - i), by rw [← Int.pow_add]; congr 1; omega⟩
  have e : (cutA a j) % 2 ^ (32 - i) = a % 2 ^ (32 - i) - a % 2 ^ (32 - j) := by
    unfold cutA
    have h0 : a % 2 ^ (32 - j) = (a % 2 ^ (32 - i)) % 2 ^ (32 - j) := (Int.emod_emod_of_dvd a hd).symm
    have p1 : (0 : Int) < 2 ^ (32 - i) := Int.pow_pos (by decide)
    have p2 : (0 : Int) < 2 ^ (32 - j) := Int.pow_pos (by decide)
    have h1 := Int.emod_nonneg a (Int.ne_of_gt p1)
    have h2 := Int.emod_lt_of_pos a p1
    have h3 : (a % 2 ^ (32 - i)) % 2 ^ (32 - j) ≤ a % 2 ^ (32 - i) := by
      have q1 := Int.mul_ediv_add_emod (a % 2 ^ (32 - i)) (2 ^ (32 - j))
      have q2 := Int.mul_nonneg (Int.le_of_lt p2) (Int.ediv_nonneg h1 (Int.le_of_lt p2))
      omega
    have h4 := Int.emod_nonneg (a % 2 ^ (32 - i)) (Int.ne_of_gt p2)
    have e1 : a - a % 2 ^ (32 - j) = (a % 2 ^ (32 - i) - a % 2 ^ (32 - j)) + 2 ^ (32 - i) * (a / 2 ^ (32 - i)) := by
      have := Int.mul_ediv_add_emod a (2 ^ (32 - i)); omega
    rw [e1, Int.add_mul_emod_self_left]
    exact Int.emod_eq_of_lt (by omega) (by omega)
  show cutA a j - (cutA a j) % 2 ^ (32 - i) = _
  rw [e]
  unfold cutA
  omega
theorem cutA_self {a : Int} {k : Nat} (h : a % 2 ^ (32 - k) = 0) : cutA a k = a := by unfold cutA; omega
theorem cutA_zero {a : Int} (ha : 0 ≤ a ∧ a < 4294967296) : cutA a 0 = 0 := by
  unfold cutA
  have : a % 2 ^ (32 - 0) = a := Int.emod_eq_of_lt ha.1 (by simpa using ha.2)
  omega
theorem netErr_nat (a : Int) (k : Nat) (hk : k ≤ 32) : netErr a k = if a % 2 ^ (32 - k) ≠ 0 then some 3 else none := by
  unfold netErr
  rw [if_neg (by omega), show (32 - (k : Int)).toNat = 32 - k by omega]
theorem netErr_ok {a n : Int} (h : netErr a n = none) : ∃ k : Nat, n = k ∧ k ≤ 32 ∧ a % 2 ^ (32 - k) = 0 := by
  have hn : 0 ≤ n ∧ n ≤ 32 := by
    unfold netErr at h
    split at h
    · cases h
    · omega
  obtain ⟨k, rfl⟩ := Int.eq_ofNat_of_zero_le hn.1
  have hk : k ≤ 32 := by omega
  refine ⟨k, rfl, hk, ?_⟩
  rw [netErr_nat a k hk] at h
  split at h
  · cases h
  · rename_i h0; exact Classical.not_not.1 h0
theorem netErr_cut (a : Int) (k : Nat) (hk : k ≤ 32) : netErr (cutA a k) k = none := by
  rw [netErr_nat _ k hk, if_neg (by simpa using cutA_mod a k)]



def upE (a n : Int) : Except Int (Int × Int) := match netErr a n with
  | some k => .error k
  | none => if n = 0 then .error 2 else .ok (cutA a (n - 1).toNat, n - 1)
def RetNet (w : World) (r : Except Int (Int × Int)) (e : Ending) (w' : World) : Prop :=
  match r with
  | .error k => RetV w (.tuple #[.agg #[.int .u32 0, .int .i64 0], errv k]) e w'
  | .ok p => RetV w (.tuple #[.agg #[.int .u32 p.1, .int .i64 p.2], .nilIface]) e w'
theorem RetNet.err {w w' : World} {r : Except Int (Int × Int)} {k : Int} {e : Ending} (h : r = .error k) (he : e = .returned (.tuple #[.agg #[.int .u32 0, .int .i64 0], errv k])) (hF : Fr (fun _ => False) w w') : RetNet w r e w' := by subst h; exact ⟨he, hF⟩
theorem RetNet.ok {w w' : World} {r : Except Int (Int × Int)} {a n : Int} {e : Ending} (h : r = .ok (a, n)) (he : e = .returned (.tuple #[.agg #[.int .u32 a, .int .i64 n], .nilIface])) (hF : Fr (fun _ => False) w w') : RetNet w r e w' := by subst h; exact ⟨he, hF⟩


/-- Has a net an address? -/
def hasB (a n x : Int) : Bool := decide (netErr a n = none ∧ cutA x n.toNat = a)


/-- Has one net all that another one has? -/
def inB (a n b m : Int) : Bool := decide (netErr a n = none ∧ m ≤ n) && hasB b m a

end Go.Proofs.Ytfglidaicjjpfaa
end

section
namespace Go.Proofs.Ytfglidaicjjpfaa
open Go.RowKit

theorem maskV_or : ∀ k, k < 32 → bits .or .u32 (maskV k) (2 ^ (31 - k) % 4294967296) = maskV (k + 1) := by decide +kernel

/-- An error's number; 0: there is none. -/
def numO : Option Int → Int
  | none => 0
  | some k => k
theorem netErr_pos {a n k : Int} (h : netErr a n = some k) : k ≠ 0 := by
  unfold netErr at h
  split at h
  · cases h; decide
  · split at h
    · cases h; decide
    · cases h


/-- Where a net is in a list: from below 0 (nowhere) on; in a list of whatever length. -/
def PlacesB (w : World) (l : List Nt) (x : Nt) (e : Ending) (w' : World) : Prop := ∃ p : Int, e = .returned (.int .i64 p) ∧ Fr (fun _ => False) w w' ∧ decide (p ≥ 0) = decide (x ∈ l) ∧ decide (p < 0) = !(decide (x ∈ l)) ∧ -1 ≤ p ∧ p ≤ l.length
set_option maxRecDepth 100000 in
set_option maxHeartbeats 2000000 in
theorem placesB_any {n : Nat} (l : List Nt) (x : Nt) (a : Option Addr) (c : Nat) (w : World) (ha : Recs w.heap a 2 Nt.cells l) (hl : l.length ≤ 9223372036854775806) (hn : n = l.length) :
    Calls Try.prog 12 #[.slice a n c, .agg #[.int .u32 x.a, .int .i64 x.n]] w (PlacesB w l x) := by
  subst hn
  go_enter Try.func12, Try.ntmps12
  go_wp2
  go_loopw [5] (fun i wr => ∃ k n : Nat, k ≤ l.length ∧ i = .int .i64 k ∧ wr = (w.alloc (.cells #[.int .u32 x.a, .int .i64 x.n] 43)).drewN n ∧ Hid (∀ j, j < k → nth l j ≠ x)) (fun i _ => l.length - (intOf i).toNat)
  case atStart => exact ⟨0, 0, by omega, rfl, rfl, Lib.hid (fun j hj => absurd hj (Nat.not_lt_zero _))⟩
  case round =>
    obtain ⟨k, n, hk, rfl, rfl, hE⟩ := hrel
    by_cases hlt : k < l.length
    · obtain ⟨g1, o1, rfl, q1, c1⟩ := Recs.pos ha Nt.cells_len (by omega) (by omega)
      have d0 := c1 w rfl k 0 hlt (by omega)
      have d1 := c1 w rfl k 1 hlt (by omega)
      obtain ⟨y, hy⟩ : ∃ y, y = nth l k := ⟨_, rfl⟩
      rw [← hy] at d0 d1
      obtain ⟨ya, yn⟩ := y
      obtain ⟨xa, xn⟩ := x
      simp only [Nt.cells, List.getElem?_cons_zero, List.getElem?_cons_succ, ← Nat.add_assoc, Nat.add_zero] at d0 d1
      have HY := Lib.hid hy
      clear c1 hy
      by_cases he : ya = xa ∧ yn = xn
      · have e1 : (ya == xa) = true := by simp [he.1]
        have e2 : (yn == xn) = true := by simp [he.2]
        have hX := Lib.hid (show (⟨xa, xn⟩ : Nt) ∈ l by rw [← he.1, ← he.2, HY.out]; exact nth_mem l k hlt)
        clear he
        go_wp2
        go_quiet (fail)
        go_wp2
        go_ret
        exact ⟨k, rfl, (((Fr.refl _ w).alloc _).drewN n).drewN nq, by simp [hX.out], by simp [hX.out], by omega, by omega⟩
      · have q : (ya == xa) = false ∨ ((ya == xa) = true ∧ (yn == xn) = false) := by
          simp only [beq_eq_false_iff_ne, beq_iff_eq, ne_eq]
          omega
        have hE' := Lib.hid (show ∀ j, j < k + 1 → nth l j ≠ (⟨xa, xn⟩ : Nt) from fun j hj => by
          rcases Nat.lt_succ_iff_lt_or_eq.1 hj with h | h
          · exact hE.out j h
          · subst h; rw [← HY.out]; intro hh; simp only [Nt.mk.injEq] at hh; exact he hh)
        clear he
        rcases q with e1 | ⟨e1, e2⟩
        all_goals
          go_wp2
          go_quiet (fail)
          go_wp2
          go_roundw
          case rel => exact ⟨k + 1, n + nq, by omega, by go_num, by simp, hE'⟩
          case measure => simp [intOf]; omega
    · obtain rfl : k = l.length := by omega
      have hX := Lib.hid (show x ∉ l from fun h => by
        obtain ⟨j, hj, hh⟩ := List.mem_iff_getElem.1 h
        exact hE.out j hj (by rw [nth_eq l j hj]; exact hh))
      go_wp2
      go_ret
      exact ⟨-1, rfl, ((Fr.refl _ w).alloc _).drewN n, by simp [hX.out], by simp [hX.out], by omega, by omega⟩
end Go.Proofs.Ytfglidaicjjpfaa
end

section
namespace Go.Proofs.Ytfglidaicjjpfaa
open Go.RowKit








end Go.Proofs.Ytfglidaicjjpfaa
end

section
namespace Go.Proofs.Ytfglidaicjjpfaa
open Go.RowKit

theorem lastOf_bd {l : List Hea} (h : ∀ x ∈ l, 1 ≤ x.m ∧ x.m ≤ 16) (f a n : Int) : 1 ≤ lastOf l f a n ∧ lastOf l f a n ≤ 16 := by
  unfold lastOf
  cases hl : lastO l f a n with
  | none => exact ⟨by decide, by decide⟩
  | some m => exact lastO_bd h hl
/-- How far by each neighbour. -/
def pOf (l : List Hea) (costs : List Int) (a n : Int) (k : Nat) : Int := plusM (nth costs k) (lastOf l k a n)
theorem bestM_eq {l : List Hea} {costs : List Int} (a n : Int) (hl : ∀ x ∈ l, 1 ≤ x.m ∧ x.m ≤ 16) (hc : ∀ c ∈ costs, 1 ≤ c ∧ c ≤ 16) : bestM l costs a n = (mK (pOf l costs a n) costs.length, hopsK (pOf l costs a n) (mK (pOf l costs a n) costs.length) costs.length) :=
  chK_eq (fun i => lastO l i a n) costs (pOf l costs a n) (fun _ _ => rfl) hc (fun _ _ h => lastO_bd hl h) costs.length (Nat.le_refl _)


end Go.Proofs.Ytfglidaicjjpfaa
end

section
namespace Go.Proofs.Ytfglidaicjjpfaa
open Go.RowKit

set_option maxRecDepth 100000 in
theorem ten3_any (w : World) : Calls Try.prog 46 #[] w (fun e w' => e = .returned (.agg #[.int .u32 167772160, .int .i64 8]) ∧ w' = w.alloc (.cells #[.int .u32 167772160, .int .i64 8] 43)) := by
  go_enter Try.func46, Try.ntmps46
  go_wp2
  exact bodyPost_ret (v := .agg #[.int .u32 167772160, .int .i64 8]) (by simp [results, Try.results46, go_sem]) rfl ⟨rfl, rfl⟩
end Go.Proofs.Ytfglidaicjjpfaa
end

section
namespace Go
theorem lensub {l m : List Nt} (hn : l.Nodup) (hs : ∀ x ∈ l, x ∈ m) : l.length ≤ m.length := by
  induction l generalizing m with
  | nil => exact Nat.zero_le _
  | cons x l ih =>
    obtain ⟨h1, h2⟩ := List.nodup_cons.1 hn
    have hx := hs x (by simp)
    have := ih (m := m.erase x) h2 (fun y hy => (List.mem_erase_of_ne (fun e : y = x => h1 (by rw [← e]; exact hy))).2 (hs y (by simp [hy])))
    have hl := List.length_erase_of_mem hx
    have hp := List.length_pos_of_mem hx
    simp only [List.length_cons]
    omega
theorem nsx {l m : List Nt} (hl : NSorted l) (hm : NSorted m) (h : ∀ x, x ∈ l ↔ x ∈ m) : l = m := by
  induction l generalizing m with
  | nil =>
    cases m with
    | nil => rfl
    | cons y m => exact absurd ((h y).2 (by simp)) (by simp)
  | cons x l ih =>
    cases m with
    | nil => exact absurd ((h x).1 (by simp)) (by simp)
    | cons y m =>
      obtain ⟨h1, h2⟩ := List.pairwise_cons.1 hl
      obtain ⟨h3, h4⟩ := List.pairwise_cons.1 hm
      have hxy : x = y := by
        rcases List.mem_cons.1 ((h x).1 (by simp)) with e | e
        · exact e
        · rcases List.mem_cons.1 ((h y).2 (by simp)) with e2 | e2
          · exact e2.symm
          · exact absurd (h1 y e2) (ntLt_asymm (h3 x e))
      subst hxy
      congr 1
      refine ih h2 h4 (fun z => ?_)
      constructor
      · intro hz
        rcases List.mem_cons.1 ((h z).1 (by simp [hz])) with e | e
        · subst e; exact absurd (h1 z hz) (ntLt_irrefl z)
        · exact e
      · intro hz
        rcases List.mem_cons.1 ((h z).2 (by simp [hz])) with e | e
        · subst e; exact absurd (h3 z hz) (ntLt_irrefl z)
        · exact e
theorem nsn {l : List Nt} (h : NSorted l) : l.Nodup := List.Pairwise.imp (fun {a b} (hab : ntLt a b) (e : a = b) => ntLt_irrefl a (by rw [← e] at hab; exact hab)) h
end Go
namespace Go.Proofs.Ytfglidaicjjpfaa
open Go.RowKit
theorem TabR.own {D : DC} {l : List Td} {R : List BestR} (h : TabR D l R) {q : Nt} (hq : q ∈ D.own) : q ∈ R.map bnet := (h.mem q).2 ⟨.inl hq, by rw [bestD_own hq]; decide⟩
theorem TabR.ge {D : DC} {l : List Td} {R : List BestR} (h : TabR D l R) (hn : D.own.Nodup) : D.own.length ≤ R.length := by
  have := lensub hn (fun x hx => h.own hx)
  simpa using this
/-- Where all that was heard is that there is no way. -/
theorem bestM_16 {l : List Hea} {costs : List Int} (a n : Int) (h : ∀ x ∈ l, x.m = 16) (hc : ∀ c ∈ costs, 1 ≤ c ∧ c ≤ 16) : bestM l costs a n = (16, []) := by
  have hl : ∀ x ∈ l, 1 ≤ x.m ∧ x.m ≤ 16 := fun x hx => by rw [h x hx]; decide
  have h1 : ∀ f, lastOf l f a n = 16 := fun f => by
    unfold lastOf
    have : ∀ m, lastO l f a n = some m → m = 16 := fun m hm => by
      have key : ∀ l : List Hea, (∀ x ∈ l, x.m = 16) → ∀ m, lastO l f a n = some m → m = 16 := by
        intro l
        refine snocI (P := fun l => (∀ x ∈ l, x.m = 16) → ∀ m, lastO l f a n = some m → m = 16) (fun _ m hm => by cases hm) (fun l x ih hx m hm => ?_) l
        rw [lastO_snoc] at hm
        split at hm
        · cases hm; exact hx x (by simp)
        · exact ih (fun y hy => hx y (by simp [hy])) m hm
      exact key l h m hm
    cases ho : lastO l f a n with
    | none => rfl
    | some m => exact this m ho
  rw [bestM_eq a n hl hc]
  have h2 : ∀ k, k < costs.length → pOf l costs a n k = 16 := fun k hk => by
    unfold pOf plusM
    rw [h1]
    have := hc _ (nth_mem costs k hk)
    rw [if_neg (by omega)]
  have h3 : ∀ k, k ≤ costs.length → mK (pOf l costs a n) k = 16 := by
    intro k
    induction k with
    | zero => intro _; rfl
    | succ k ih =>
      intro hk
      unfold mK
      rw [ih (by omega), h2 k (by omega)]
      rfl
  rw [h3 _ (Nat.le_refl _), hopsK_16 _ (by decide)]
theorem hearM_0 {D : DC} {l : List Td} {bad : Int} {b : List Int} {f : Int} : (hearM D 0 l bad b f 0).now = 0 ∧ bad ≤ (hearM D 0 l bad b f 0).bad ∧ (hearM D 0 l bad b f 0).bad ≤ bad + 1 := by
  unfold hearM
  split
  · exact ⟨rfl, by simp only; omega, by simp only; omega⟩
  · split
    · exact ⟨rfl, by simp only; omega, by simp only; omega⟩
    · exact ⟨rfl, by simp only; omega, by simp only; omega⟩
    · exact ⟨rfl, by simp only; omega, by simp only; omega⟩
/-- A router's blocks are its own: what was there ahead of it stays. -/
theorem Fr.dm {w0 w w' : World} {D : DC} (h : Fr (fun _ => False) w0 w) (f : Fr (fun k => k = D.bd ∨ k = D.br) w w') (h1 : w0.heap.size ≤ D.bd) (h2 : w0.heap.size ≤ D.br) : Fr (fun _ => False) w0 w' := h.trans' f (fun k hk e => by omega)
set_option maxRecDepth 100000 in
set_option maxHeartbeats 2000000 in
theorem routed_any (w : World) : Calls Try.prog 21 #[] w (RetV w (.bool true)) := by
  go_enter Try.func21, Try.ntmps21
  go_wp2_with (fail)
  refine (ten3_any _).mono ?_
  rintro e1 w1 ⟨rfl, hw1⟩
  have hC : Ints w1.heap (some ⟨w.heap.size, 0, none⟩) [1, 2] := by
    rw [hw1]; exact ((Own.made w 3 1 2 [.int .i64 1, .int .i64 2] rfl (by decide)).alloc _).rd
  have hF1 : Fr (fun _ => False) w w1 := by rw [hw1]; exact ((Fr.refl _ _).alloc _).alloc _
  have hN : Recs (w1.alloc (.cells #[.int .u32 167772160, .int .i64 8] 43)).heap (some ⟨w1.heap.size, 0, none⟩) 2 Nt.cells [⟨167772160, 8⟩] := (Own.made w1 43 2 1 (Nt.cells ⟨167772160, 8⟩) rfl (by decide)).rd
  have hFa := (Fr.refl (fun _ => False) w1).alloc (.cells #[.int .u32 167772160, .int .i64 8] 43)
  clear hw1
  go_wp2_with (fail)
  refine (dnew_any [1, 2] _ 2 [⟨167772160, 8⟩] _ 1 _ (hC.fr hFa (fun _ _ _ h => h)) (by decide) (fun h => nomatch h) hN (fun x hx => by rw [List.mem_singleton.1 hx]; decide) (by decide) (fun h => nomatch h) (by decide) rfl rfl).mono ?_
  intro e2 w2 R2
  obtain ⟨D, rfl, hDc, hDo, hlo, -, hD, hF2⟩ := R2.okE (by decide)
  have hF02 := (hF1.trans hFa).trans hF2
  clear R2 hC hN hF1
  go_wp2_with (fail)
  refine (dtab_any w2 (hD w2.heap.size (Nat.le_refl _))).mono ?_
  rintro e3 w3 ⟨R, aR, cR, ob, rfl, hA, hR, hF3⟩
  have hk : R.map bnet = [⟨167772160, 8⟩] := nsx hR.srt (by simp) (fun q => by
    rw [hR.mem, hDo]
    constructor
    · rintro ⟨h | ⟨x, hx, _⟩, _⟩
      · exact h
      · cases hx
    · intro h
      exact ⟨.inl h, by rw [bestD_own (by rw [hDo]; exact h)]; decide⟩)
  have hR1 : R.length = 1 := by have := congrArg List.length hk; simpa using this
  match R, hR1 with
  | [r], _ =>
    have hr : bnet r = ⟨167772160, 8⟩ := by simpa using hk
    have hv := hR.val r (by simp)
    rw [bestD_own (by rw [hDo, hr]; simp)] at hv
    obtain ⟨g, rfl, -, hgl, hgc, -⟩ := hA.own.pos (by simp)
    have d := hgc 2 (by simp)
    have hm : r.m = 1 := congrArg Prod.fst hv
    simp only [List.flatMap_cons, List.flatMap_nil, List.append_nil, BestR.cells, List.getElem?_cons_succ, List.getElem?_cons_zero] at d
    rw [hm] at d
    have hFe := hF02.trans hF3
    clear hgc hA hR hv hm hk hr hD hF3 hF02 hF2
    go_wp2
    go_ret
    exact RetV.mk rfl rfl hFe
end Go.Proofs.Ytfglidaicjjpfaa
end

section
namespace Go.Proofs.Ytfglidaicjjpfaa
open Go.RowKit

/-! What a rib's list says, when something is learnt. -/
theorem lastO_some {l : List Hea} {f a n m : Int} (h1 : ∀ x ∈ l, x.f = f ∧ x.a = a ∧ x.n = n → x.m = m) (h2 : ∃ x ∈ l, x.f = f ∧ x.a = a ∧ x.n = n) : lastO l f a n = some m := by
  revert h1 h2
  refine snocI (P := fun l => (∀ x ∈ l, x.f = f ∧ x.a = a ∧ x.n = n → x.m = m) → (∃ x ∈ l, x.f = f ∧ x.a = a ∧ x.n = n) → lastO l f a n = some m) (fun _ h => by obtain ⟨_, h, _⟩ := h; cases h) (fun l x ih h1 h2 => ?_) l
  rw [lastO_snoc]
  by_cases hx : x.f = f ∧ x.a = a ∧ x.n = n
  · rw [if_pos hx, h1 x (by simp) hx]
  · rw [if_neg hx]
    refine ih (fun y hy => h1 y (by simp [hy])) ?_
    obtain ⟨y, hy, hk⟩ := h2
    rcases List.mem_append.1 hy with hy | hy
    · exact ⟨y, hy, hk⟩
    · rw [List.mem_singleton.1 hy] at hk; exact absurd hk hx
theorem lastO_none {l : List Hea} {f a n : Int} (h : ∀ x ∈ l, ¬ (x.f = f ∧ x.a = a ∧ x.n = n)) : lastO l f a n = none := by
  revert h
  refine snocI (P := fun l => (∀ x ∈ l, ¬ (x.f = f ∧ x.a = a ∧ x.n = n)) → lastO l f a n = none) (fun _ => rfl) (fun l x ih h => ?_) l
  rw [lastO_snoc, if_neg (h x (by simp))]
  exact ih (fun y hy => h y (by simp [hy]))
theorem rib_uniq : ∀ {l : List Td}, l.Pairwise ltd → ∀ x ∈ l, ∀ y ∈ l, x.f = y.f → x.a = y.a → x.n = y.n → x = y := by
  have hno : ∀ x y : Td, ltd x y → ¬ (x.f = y.f ∧ x.a = y.a ∧ x.n = y.n) := fun x y h hk => by
    unfold ltd tdAhead netLess at h
    omega
  intro l
  induction l with
  | nil => intro _ x hx; cases hx
  | cons z l ih =>
    intro h x hx y hy e1 e2 e3
    obtain ⟨h1, h2⟩ := List.pairwise_cons.1 h
    rcases List.mem_cons.1 hx with g1 | g1
    · rcases List.mem_cons.1 hy with g2 | g2
      · rw [g1, g2]
      · rw [← g1] at h1; exact absurd ⟨e1, e2, e3⟩ (hno _ _ (h1 y g2))
    · rcases List.mem_cons.1 hy with g2 | g2
      · rw [← g2] at h1; exact absurd ⟨e1.symm, e2.symm, e3.symm⟩ (hno _ _ (h1 x g1))
      · exact ih h2 x g1 y g2 e1 e2 e3
theorem lastOf_of {now : Int} {l : List Td} (h : RibOk now l) {x : Td} (hx : x ∈ l) : lastOf (hdL l) x.f x.a x.n = x.m := by
  have e : lastO (hdL l) x.f x.a x.n = some x.m := lastO_some (fun z hz hk => by
    obtain ⟨y, hy, rfl⟩ := List.mem_map.1 hz
    rw [rib_uniq h.ord y hy x hx hk.1 hk.2.1 hk.2.2]
    rfl) ⟨Td.hd x, List.mem_map.2 ⟨x, hx, rfl⟩, rfl, rfl, rfl⟩
  unfold lastOf
  rw [e]
  rfl
theorem lastOf_no {l : List Td} {f a n : Int} (h : ∀ x ∈ l, ¬ (x.f = f ∧ x.a = a ∧ x.n = n)) : lastOf (hdL l) f a n = 16 := by
  unfold lastOf
  rw [lastO_none (fun z hz => by obtain ⟨y, hy, rfl⟩ := List.mem_map.1 hz; exact h y hy)]
  rfl
theorem rIs_mem {now : Int} {l : List Td} (h : RibOk now l) {x : Td} (hx : x ∈ l) : rIs l x.f x.a x.n := by
  have key : ∀ (l : List Td), l.Pairwise ltd → ∀ k, k < l.length → ∀ j, j < k → ltd (nth l j) (nth l k) := by
    intro l
    induction l with
    | nil => intro _ k hk; simp at hk
    | cons z l ih =>
      intro h k hk j hj
      obtain ⟨h1, h2⟩ := List.pairwise_cons.1 h
      cases k with
      | zero => omega
      | succ k =>
        rw [nth_cons_succ]
        cases j with
        | zero => exact h1 _ (nth_mem l k (by simpa using hk))
        | succ j => rw [nth_cons_succ]; exact ih h2 k (by simpa using hk) j (by omega)
  have mem_at : ∀ (l : List Td), x ∈ l → ∃ i, i < l.length ∧ nth l i = x := by
    intro l
    induction l with
    | nil => intro h; cases h
    | cons y l ih =>
      intro h
      rcases List.mem_cons.1 h with rfl | h
      · exact ⟨0, by simp, rfl⟩
      · obtain ⟨i, h1, h2⟩ := ih h
        exact ⟨i + 1, by simpa using h1, h2⟩
  obtain ⟨k, hk, he⟩ := mem_at l hx
  have hi : rIdx l x.f x.a x.n = k := rIdx_unique l x.f x.a x.n k (by omega) (fun j hj => by
    have := key l h.ord k hk j hj
    rw [he] at this
    exact this) (fun _ => by rw [he]; unfold tdAhead netLess; omega)
  refine ⟨by rw [hi]; exact hk, ?_⟩
  rw [hi, he]
  exact ⟨rfl, rfl, rfl⟩
theorem mem_set_new {α : Type} {l : List α} {i : Nat} (y : α) (h : i < l.length) : y ∈ l.set i y := by
  induction l generalizing i with
  | nil => simp at h
  | cons z l ih =>
    cases i with
    | zero => simp
    | succ i => rw [List.set_cons_succ]; exact List.mem_cons_of_mem _ (ih (by simpa using h))
theorem mem_set_of {α : Type} {l : List α} {i : Nat} {x y : α} (h : x ∈ l) : x ∈ l.set i y ∨ (∃ h : i < l.length, l[i] = x) := by
  induction l generalizing i with
  | nil => cases h
  | cons z l ih =>
    cases i with
    | zero =>
      rcases List.mem_cons.1 h with rfl | h
      · exact .inr ⟨by simp, rfl⟩
      · exact .inl (by simp [h])
    | succ i =>
      rcases List.mem_cons.1 h with rfl | h
      · exact .inl (by simp)
      · rcases ih (i := i) h with h1 | ⟨h1, h2⟩
        · exact .inl (by simp [h1])
        · exact .inr ⟨by simpa using h1, by simpa using h2⟩
/-- Behind learning one thing. -/
theorem learn_last {now0 now f a n m : Int} {l l' : List Td} (h : RibOk now0 l) (ha : 0 ≤ a ∧ a < 4294967296) (hp : learnE now0 l f a n m now = .ok l') (k a' n' : Int) :
    lastOf (hdL l') k a' n' = if k = f ∧ a' = a ∧ n' = n then m else lastOf (hdL (rAged now l)) k a' n' := by
  obtain ⟨q1, q2, q3, q4, q5, q6, q7, q8, q9⟩ := learn_ok h ha hp
  have hA : RibOk now (rAged now l) := rAged_ok h q2 q3
  obtain ⟨A, hAe⟩ : ∃ A, A = rAged now l := ⟨_, rfl⟩
  rw [← hAe] at q9 hA ⊢
  have core : (⟨f, a, n, m, now⟩ : Td) ∈ l' → (∀ x ∈ l', x = ⟨f, a, n, m, now⟩ ∨ x ∈ A) → (∀ x ∈ A, ¬ (x.f = f ∧ x.a = a ∧ x.n = n) → x ∈ l') → lastOf (hdL l') k a' n' = if k = f ∧ a' = a ∧ n' = n then m else lastOf (hdL A) k a' n' := fun c1 c2 c3 => by
    by_cases hk : k = f ∧ a' = a ∧ n' = n
    · rw [if_pos hk]
      obtain ⟨rfl, rfl, rfl⟩ := hk
      exact lastOf_of q1 c1
    · rw [if_neg hk]
      by_cases he : ∃ x ∈ A, x.f = k ∧ x.a = a' ∧ x.n = n'
      · obtain ⟨x, hx, rfl, rfl, rfl⟩ := he
        rw [lastOf_of q1 (c3 x hx hk), lastOf_of hA hx]
      · have hno : ∀ x ∈ A, ¬ (x.f = k ∧ x.a = a' ∧ x.n = n') := fun x hx hh => he ⟨x, hx, hh⟩
        rw [lastOf_no hno, lastOf_no (fun x hx hh => ?_)]
        rcases c2 x hx with rfl | hx
        · exact hk ⟨hh.1.symm, hh.2.1.symm, hh.2.2.symm⟩
        · exact hno x hx hh
  unfold rPut at q9
  split at q9
  · rename_i hr
    have hmem : nth A (rIdx A f a n) ∈ A := nth_mem A _ hr.1
    split at q9
    · rename_i hm
      cases q9
      by_cases hk : k = f ∧ a' = a ∧ n' = n
      · rw [if_pos hk]
        have := lastOf_of hA hmem
        rw [hr.2.1, hr.2.2.1, hr.2.2.2] at this
        rw [hk.1, hk.2.1, hk.2.2, this, hm.1, hm.2]
      · rw [if_neg hk]
    · cases q9
      refine core (mem_set_new _ hr.1) (fun x hx => ?_) (fun x hx hk => ?_)
      · rcases List.mem_or_eq_of_mem_set hx with h1 | h1
        · exact .inr h1
        · exact .inl h1
      · rcases mem_set_of (i := rIdx A f a n) (y := (⟨f, a, n, m, now⟩ : Td)) hx with h1 | ⟨h1, h2⟩
        · exact h1
        · have : nth A (rIdx A f a n) = x := by rw [← h2]; unfold nth; simp [h1]
          have h9 := hr.2
          rw [this] at h9
          exact absurd h9 hk
  · rename_i hr
    split at q9
    · rename_i hm
      cases q9
      by_cases hk : k = f ∧ a' = a ∧ n' = n
      · rw [if_pos hk, hk.1, hk.2.1, hk.2.2, hm]
        refine lastOf_no (fun x hx hh => hr ?_)
        have := rIs_mem hA hx
        rwa [hh.1, hh.2.1, hh.2.2] at this
      · rw [if_neg hk]
    · split at q9
      · cases q9
      · cases q9
        refine core (by simp) (fun x hx => ?_) (fun x hx _ => ?_)
        · simp only [List.mem_append, List.mem_cons] at hx
          rcases hx with h1 | rfl | h1
          · exact .inr (List.mem_of_mem_take h1)
          · exact .inl rfl
          · exact .inr (List.mem_of_mem_drop h1)
        · rw [← List.take_append_drop (rIdx A f a n) A] at hx
          simp only [List.mem_append, List.mem_cons]
          rcases List.mem_append.1 hx with h1 | h1
          · exact .inl h1
          · exact .inr (.inr h1)
/-- What a message says of a net last. -/
def lastE (es : List En) (a n : Int) : Option Int := es.foldl (fun acc e => if e.a = a ∧ e.n = n then some e.m else acc) none
theorem lastE_snoc (es : List En) (e : En) (a n : Int) : lastE (es ++ [e]) a n = if e.a = a ∧ e.n = n then some e.m else lastE es a n := by
  unfold lastE; rw [List.foldl_append]; rfl
theorem aged_0 {l : List Td} (h : RibOk 0 l) : rAged 0 l = l := by
  have key : ∀ l : List Td, (∀ x ∈ l, age1 0 x = some x) → rAged 0 l = l := by
    intro l
    induction l with
    | nil => intro _; rfl
    | cons x l ih =>
      intro h
      unfold rAged at *
      rw [List.filterMap_cons, h x (by simp)]
      simp only
      rw [ih (fun y hy => h y (by simp [hy]))]
  refine key l (fun x hx => ?_)
  have hxo := h.each x hx
  have h0 := hxo.t0
  have h1 := hxo.t1
  by_cases hm : x.m < 16
  · exact age1_live hm (by omega)
  · rw [age1_dead hm, if_pos (by omega)]
theorem rPut_len {A l' : List Td} {f a n m now : Int} (h : rPut A f a n m now = .ok l') : l'.length ≤ A.length + 1 := by
  unfold rPut at h
  split at h
  · split at h <;> cases h <;> simp
  · split at h
    · cases h; omega
    · split at h
      · cases h
      · cases h
        have := rIdx_le A f a n
        simp only [List.length_append, List.length_cons, List.length_take, List.length_drop]
        omega
theorem learn_room {l : List Td} {f a n m : Int} (h : RibOk 0 l) (hl : l.length < 64) (hf : 0 ≤ f ∧ f < 8) (hn : netErr a n = none) (hm : 1 ≤ m ∧ m ≤ 16) : ∃ l', learnE 0 l f a n m 0 = .ok l' := by
  unfold learnE
  rw [if_neg (by unfold ckErr; omega), hn]
  simp only
  rw [if_neg (by omega), aged_0 h]
  unfold rPut
  split
  · split
    · exact ⟨_, rfl⟩
    · exact ⟨_, rfl⟩
  · split
    · exact ⟨_, rfl⟩
    · rw [if_neg (by omega)]; exact ⟨_, rfl⟩
theorem entErr_parts {e : En} (h : entErr e = none) : netErr e.a e.n = none ∧ 1 ≤ e.m ∧ e.m ≤ 16 := by
  unfold entErr at h
  split at h
  · cases h
  · split at h
    · cases h
    · exact ⟨by assumption, by omega, by omega⟩
/-- A message heard, where there is room. -/
theorem hear_last {D : DC} {f : Int} (hf : 0 ≤ f ∧ f < 8) {l : List Td} (h : RibOk 0 l) : ∀ es : List En, (∀ e ∈ es, entErr e = none ∧ En.wf e) → l.length + es.length ≤ 64 →
    RibOk 0 (hearL D f 0 l es) ∧ (hearL D f 0 l es).length ≤ l.length + es.length ∧ ∀ k a n, lastOf (hdL (hearL D f 0 l es)) k a n = if k = f ∧ (⟨a, n⟩ : Nt) ∉ D.own then (lastE es a n).getD (lastOf (hdL l) k a n) else lastOf (hdL l) k a n := by
  intro es
  refine snocI (P := fun es => (∀ e ∈ es, entErr e = none ∧ En.wf e) → l.length + es.length ≤ 64 →
    RibOk 0 (hearL D f 0 l es) ∧ (hearL D f 0 l es).length ≤ l.length + es.length ∧ ∀ k a n, lastOf (hdL (hearL D f 0 l es)) k a n = if k = f ∧ (⟨a, n⟩ : Nt) ∉ D.own then (lastE es a n).getD (lastOf (hdL l) k a n) else lastOf (hdL l) k a n) (fun _ _ => ⟨h, Nat.le_refl _, fun k a n => by split <;> rfl⟩) (fun es e ih he hl => ?_) es
  rw [List.length_append, List.length_singleton] at hl
  obtain ⟨i1, i2, i3⟩ := ih (fun x hx => he x (by simp [hx])) (by omega)
  obtain ⟨he1, he2⟩ := he e (by simp)
  obtain ⟨p1, p2, p3⟩ := entErr_parts he1
  have hst : hearL D f 0 l (es ++ [e]) = hear1 D f 0 (hearL D f 0 l es) e := by unfold hearL; rw [List.foldl_append]; rfl
  rw [hst]
  obtain ⟨L, hL⟩ : ∃ L, L = hearL D f 0 l es := ⟨_, rfl⟩
  rw [← hL] at i1 i2 i3 ⊢
  rw [List.length_append, List.length_singleton]
  by_cases ho : (⟨e.a, e.n⟩ : Nt) ∈ D.own
  · rw [hear1_own ho]
    refine ⟨i1, by omega, fun k a n => ?_⟩
    rw [i3, lastE_snoc]
    by_cases hk : k = f ∧ (⟨a, n⟩ : Nt) ∉ D.own
    · rw [if_pos hk, if_pos hk, if_neg (fun hh => hk.2 (by rw [← hh.1, ← hh.2]; exact ho))]
    · rw [if_neg hk, if_neg hk]
  · obtain ⟨l', hl'⟩ := learn_room i1 (by omega) hf p1 ⟨p2, p3⟩
    rw [hear1_ok ho hl']
    obtain ⟨q1, -, -, -, -, -, -, -, q9⟩ := learn_ok i1 he2.1 hl'
    rw [aged_0 i1] at q9
    refine ⟨q1, by have := rPut_len q9; omega, fun k a n => ?_⟩
    rw [learn_last i1 he2.1 hl', aged_0 i1, i3, lastE_snoc]
    by_cases hk : k = f ∧ (⟨a, n⟩ : Nt) ∉ D.own
    · rw [if_pos hk, if_pos hk]
      by_cases hq : k = f ∧ a = e.a ∧ n = e.n
      · rw [if_pos hq, if_pos ⟨hq.2.1.symm, hq.2.2.symm⟩]; rfl
      · rw [if_neg hq, if_neg (fun hh => hq ⟨hk.1, hh.1.symm, hh.2.symm⟩)]
    · rw [if_neg hk, if_neg hk, if_neg]
      rintro ⟨h1, h2, h3⟩
      exact hk ⟨h1, by rw [h2, h3]; exact ho⟩
/-- The table, of nets that are not one's own. -/
theorem TabR.other {w : World} {base : Nat} {D : DC} {now : Int} {l : List Td} {bad : Int} (hD : Dmn w base D now l bad) {R : List BestR} (h : TabR D l R) {q : Nt} (hq : q ∉ D.own) : q ∈ R.map bnet ↔ (bestM (hdL l) D.costs q.a q.n).1 < 16 := by
  rw [h.mem, bestD_other hq]
  refine ⟨fun hh => hh.2, fun hh => ⟨.inr ?_, hh⟩⟩
  have hl : ∀ x ∈ hdL l, 1 ≤ x.m ∧ x.m ≤ 16 := fun x hx => by
    obtain ⟨y, hy, rfl⟩ := List.mem_map.1 hx
    have := hD.ok.each y hy
    exact ⟨this.m0, this.m1⟩
  have hc := (nearE_ok hD.near).2
  rw [bestM_eq _ _ hl hc] at hh
  by_cases he : ∃ x ∈ l, (⟨x.a, x.n⟩ : Nt) = q
  · exact he
  · exfalso
    have h3 : ∀ k, k ≤ D.costs.length → mK (pOf (hdL l) D.costs q.a q.n) k = 16 := by
      intro k
      induction k with
      | zero => intro _; rfl
      | succ k ih =>
        intro hk
        unfold mK
        rw [ih (by omega)]
        have h16 : pOf (hdL l) D.costs q.a q.n k = 16 := by
          unfold pOf plusM
          rw [lastOf_no (fun x hx hk => he ⟨x, hx, by rw [hk.2.1, hk.2.2]⟩)]
          have := hc _ (nth_mem D.costs k (by omega))
          rw [if_neg (by omega)]
        rw [h16]
        rfl
    have := h3 _ (Nat.le_refl _)
    simp only at hh
    omega
end Go.Proofs.Ytfglidaicjjpfaa
end

section
namespace Go.Proofs.Ytfglidaicjjpfaa
open Go.RowKit

set_option maxRecDepth 100000 in
set_option maxHeartbeats 1000000 in
theorem ints_any (l m : List Int) (a b : Option Addr) (c d : Nat) (w : World) (ha : Ints w.heap a l) (hb : Ints w.heap b m) (hl : l.length ≤ 9223372036854775807) (hm : m.length ≤ 9223372036854775807) :
    Calls Try.prog 45 #[.slice a l.length c, .slice b m.length d] w (RetQ w (.bool (decide (l = m)))) := by
  go_enter Try.func45, Try.ntmps45
  by_cases hlen : l.length = m.length
  · have hne : ((l.length : Int) != (m.length : Int)) = false := by simp [hlen]
    have HL : Hid (l.length = m.length) := Lib.hid hlen
    clear hlen
    go_wp2
    go_loopw [5] (fun i wr => ∃ k n : Nat, k ≤ l.length ∧ i = .int .i64 k ∧ wr = w.drewN n ∧ Hid (l.take k = m.take k)) (fun i _ => l.length - (intOf i).toNat)
    case atStart => exact ⟨0, 0, by omega, rfl, rfl, rfl⟩
    case round =>
      obtain ⟨k, n, hk, rfl, rfl, hE⟩ := hrel
      by_cases hlt : k < l.length
      · have hlm : k < m.length := by have := HL.out; omega
        obtain ⟨g1, o1, rfl, q1, c1⟩ := Ints.pos ha (by omega)
        obtain ⟨g2, o2, rfl, q2, c2⟩ := Ints.pos hb (by omega)
        have d1 := c1 w rfl k hlt
        have d2 := c2 w rfl k hlm
        clear c1 c2
        by_cases he : nth l k = nth m k
        · have hb : (nth l k != nth m k) = false := by simp [he]
          have hE' : Hid (l.take (k + 1) = m.take (k + 1)) := (by rw [take_succ_nth l k hlt, take_succ_nth m k hlm, hE.out, he] : l.take (k + 1) = m.take (k + 1))
          clear he
          go_wp2
          go_quiet (fail)
          go_wp2
          go_roundw
          case rel => exact ⟨k + 1, n + nq, by omega, by go_num, by simp, hE'⟩
          case measure => simp [intOf]; omega
        · have hb : (nth l k != nth m k) = true := by simp [he]
          have hX : Hid (decide (l = m) = false) := (by
            apply decide_eq_false
            intro h
            exact he (by rw [h]) : decide (l = m) = false)
          clear he
          go_wp2
          go_quiet (fail)
          go_wp2
          go_ret
          exact RetQ.mk (show Value.bool false = _ from (by rw [hX.out])) rfl (n + nq) (by simp)
      · obtain rfl : k = l.length := by omega
        have hX : Hid (decide (l = m) = true) := (by
          apply decide_eq_true
          have h := hE.out
          rw [List.take_length, HL.out, List.take_length] at h
          exact h : decide (l = m) = true)
        go_wp2
        go_ret
        exact RetQ.mk (show Value.bool true = _ from (by rw [hX.out])) rfl (n) (rfl)
  · have hne : ((l.length : Int) != (m.length : Int)) = true := by simp; omega
    have hX : Hid (decide (l = m) = false) := (by
      apply decide_eq_false
      intro h
      exact hlen (by rw [h]) : decide (l = m) = false)
    clear hlen
    go_wp2
    go_ret
    exact RetQ.mk (show Value.bool false = _ from (by rw [hX.out])) rfl (0) (rfl)
theorem ints_any' {n k : Nat} (l m : List Int) (a b : Option Addr) (c d : Nat) (w : World) (ha : Ints w.heap a l) (hb : Ints w.heap b m) (hl : l.length ≤ 9223372036854775807) (hm : m.length ≤ 9223372036854775807) (hn : n = l.length) (hk : k = m.length) :
    Calls Try.prog 45 #[.slice a n c, .slice b k d] w (RetQ w (.bool (decide (l = m)))) := by
  subst hn; subst hk; exact ints_any l m a b c d w ha hb hl hm
end Go.Proofs.Ytfglidaicjjpfaa
end
