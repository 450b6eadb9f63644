import Derived.Test.YtfglidaicjjpfaaGreatDoorQTel33
import Derived.Test.YtfglidaicjjpfaaGreatDoorQTel25
import Derived.Test.YtfglidaicjjpfaaGreatDoorQTel28
import Derived.Test.YtfglidaicjjpfaaGreatDoorQTel30
import Derived.Test.YtfglidaicjjpfaaGreatDoorQTel31
import Derived.Test.YtfglidaicjjpfaaGreatDoorQTel24
import Derived.Test.YtfglidaicjjpfaaGreatDoorQTel20
import Derived.Test.YtfglidaicjjpfaaGreatDoorQTel1
import Derived.Lib.SmallJoins
import Derived.Test.YtfglidaicjjpfaaGreatDoorQTel6
section
namespace Go.Proofs.YtfglidaicjjpfaaGreatDoor
open Go.RowKit
/-- Is an error the one told? -/
theorem error_any (x : Option Int) (k : Int) (w : World) (hg : Hd w) : Calls Tryz.prog 13 #[errT x, .int .i64 k] w (RetV w (.bool (errN x == k))) := by
  go_enter Tryz.func13, Tryz.ntmps13
  go_wp2_with (go_at_call 49; refine (told_any x _ hg).mono ?_)
  rintro e1 w1 ⟨rfl, F1⟩
  go_wp2
  go_ret
  exact RetV.mk rfl rfl F1
end Go.Proofs.YtfglidaicjjpfaaGreatDoor
end

section
namespace Go.Proofs.YtfglidaicjjpfaaGreatDoor
open Go.RowKit Go.Maps

/-! What the law of a router's telling asks, in plain Lean. -/
theorem numO_errN (r : Option Int) : (errN r == numO r) = true := by cases r <;> simp [errN, numO]
/-- Own nets, looked at one by one. -/
def OwnE (costs : List Int) (own : List Nt) (i : Nat) (e : Int) : Prop := i ≤ own.length ∧ ((e = 0 ∧ nearE costs = none ∧ ownErr [] own = ownErr (own.take i) (own.drop i)) ∨ (e ≠ 0 ∧ ∃ k, dnewE costs own = some k ∧ e = k))
theorem nearE_1 {costs : List Int} {k : Int} (h : nearE costs = some k) : k = 1 := by
  unfold nearE at h
  split at h
  · exact (Option.some.inj h).symm
  · cases h
theorem ownE_0 (costs : List Int) (own : List Nt) : OwnE costs own 0 (numO (nearE costs)) := by
  refine ⟨by omega, ?_⟩
  cases h : nearE costs with
  | none => exact .inl ⟨rfl, rfl, rfl⟩
  | some k =>
    have := nearE_1 h
    subst this
    exact .inr ⟨by decide, 1, by unfold dnewE; rw [h], rfl⟩
theorem ownE_bad {costs : List Int} {own : List Nt} {i : Nat} (h : OwnE costs own i 0) (hi : i < own.length) {k : Int} (hk : netErr (nth own i).a (nth own i).n = some k) : OwnE costs own (i + 1) k := by
  obtain ⟨h1, h2 | h2⟩ := h
  · obtain ⟨-, hn, ho⟩ := h2
    refine ⟨hi, .inr ⟨netErr_pos hk, k, ?_, rfl⟩⟩
    unfold dnewE
    rw [hn]
    simp only
    rw [ho, drop_nth own i hi]
    unfold ownErr
    rw [hk]
  · exact absurd rfl h2.1
theorem ownE_twice {costs : List Int} {own : List Nt} {i : Nat} (h : OwnE costs own i 0) (hi : i < own.length) (hk : netErr (nth own i).a (nth own i).n = none) (ht : nth own i ∈ own.take i) : OwnE costs own (i + 1) 5 := by
  obtain ⟨h1, h2 | h2⟩ := h
  · obtain ⟨-, hn, ho⟩ := h2
    refine ⟨hi, .inr ⟨by decide, 5, ?_, rfl⟩⟩
    unfold dnewE
    rw [hn]
    simp only
    rw [ho, drop_nth own i hi]
    unfold ownErr
    rw [hk]
    simp only
    rw [if_pos ht]
  · exact absurd rfl h2.1
theorem ownE_next {costs : List Int} {own : List Nt} {i : Nat} (h : OwnE costs own i 0) (hi : i < own.length) (hk : netErr (nth own i).a (nth own i).n = none) (ht : nth own i ∉ own.take i) : OwnE costs own (i + 1) 0 := by
  obtain ⟨h1, h2 | h2⟩ := h
  · obtain ⟨-, hn, ho⟩ := h2
    refine ⟨hi, .inl ⟨rfl, hn, ?_⟩⟩
    rw [ho, drop_nth own i hi]
    conv => lhs; unfold ownErr
    rw [hk]
    simp only
    rw [if_neg ht, take_succ_nth own i hi]
  · exact absurd rfl h2.1
theorem ownErr_0 : ∀ (r seen : List Nt), ownErr seen r = some 0 → False := by
  intro r
  induction r with
  | nil => intro seen h; cases h
  | cons x r ih =>
    intro seen h
    unfold ownErr at h
    cases hn : netErr x.a x.n with
    | some k => rw [hn] at h; simp only [Option.some.injEq] at h; exact netErr_pos hn h
    | none =>
      rw [hn] at h
      simp only at h
      split at h
      · cases h
      · exact ih _ h
/-- What they have come to. -/
def OwnF (costs : List Int) (own : List Nt) (e : Int) : Prop := (e ≠ 0 → numO (dnewE costs own) = e) ∧ (e = 0 → 25 < own.length → numO (dnewE costs own) = 4) ∧ (e = 0 → own.length ≤ 25 → numO (dnewE costs own) = 0)
theorem ownE_end {costs : List Int} {own : List Nt} {i : Nat} {e : Int} (h : OwnE costs own i e) (he : e ≠ 0 ∨ own.length ≤ i) : OwnF costs own e := by
  unfold OwnF
  obtain ⟨h1, h2 | h2⟩ := h
  · obtain ⟨hz, hn, ho⟩ := h2
    have hi : i = own.length := by omega
    rw [hi, List.drop_length] at ho
    unfold dnewE
    rw [hn]
    simp only
    rw [ho]
    unfold ownErr
    simp only
    refine ⟨fun h => absurd hz h, fun _ h => by rw [if_pos h]; rfl, fun _ h => by rw [if_neg (by omega)]; rfl⟩
  · obtain ⟨hz, k, hk, rfl⟩ := h2
    rw [hk]
    exact ⟨fun _ => rfl, fun h => absurd h hz, fun h => absurd h hz⟩

theorem ownF_bad {costs : List Int} {own : List Nt} {e q : Int} (h : OwnF costs own e) (hq : dnewE costs own = some q) : q ≠ 0 ∧ ((e ≠ 0 ∧ e = q) ∨ (e = 0 ∧ 25 < own.length ∧ q = 4)) := by
  obtain ⟨h1, h2, h3⟩ := h
  rw [hq] at h1 h2 h3
  simp only [numO] at h1 h2 h3
  by_cases he : e = 0
  · by_cases hl : 25 < own.length
    · have := h2 he hl
      exact ⟨by omega, .inr ⟨he, hl, this⟩⟩
    · exfalso
      have hz := h3 he (by omega)
      subst hz
      unfold dnewE at hq
      cases hn : nearE costs with
      | some k => rw [hn] at hq; have := nearE_1 hn; simp only [Option.some.injEq] at hq; omega
      | none =>
        rw [hn] at hq
        simp only at hq
        cases ho : ownErr [] own with
        | some k =>
          rw [ho] at hq
          simp only [Option.some.injEq] at hq
          subst hq
          exact ownErr_0 own [] ho
        | none =>
          rw [ho] at hq
          simp only at hq
          rw [if_neg hl] at hq
          cases hq
  · exact ⟨by have := h1 he; omega, .inl ⟨he, (h1 he).symm⟩⟩
theorem ownF_ok {costs : List Int} {own : List Nt} {e : Int} (h : OwnF costs own e) (hq : dnewE costs own = none) : e = 0 ∧ own.length ≤ 25 := by
  obtain ⟨h1, h2, h3⟩ := h
  rw [hq] at h1 h2
  simp only [numO] at h1 h2
  by_cases he : e = 0
  · refine ⟨he, ?_⟩
    by_cases hl : 25 < own.length
    · have := h2 he hl; omega
    · omega
  · have := h1 he; omega
/-- A test that tells which of two. -/
def TestIs (B : Bool) (P Q : Prop) : Prop := (B = true → P) ∧ (B = false → Q)
theorem TestIs.t {P Q : Prop} (h : P) : TestIs true P Q := ⟨(fun _ => h), (fun h => by cases h)⟩
theorem TestIs.f {P Q : Prop} (h : Q) : TestIs false P Q := ⟨(fun h => by cases h), fun _ => h⟩
/-- A router, and what the document says of it. -/
structure TInv (w0 w : World) (D : DC) (B : Nat) (now : Int) (l : List Td) (bad : Int) (am : Option Addr) (cm : Nat) : Prop where
  dm : Dmn w (B + 1) D now l bad
  blk : Blk w.heap B 56 [.int .i64 now, .slice am l.length cm]
  rd : Recs w.heap am 5 Td.cells l
  new : ∀ b off, am = some ⟨b, off, none⟩ → B < b
  fr : Fr (fun _ => False) w0 w
  lo : w0.heap.size ≤ D.bd ∧ w0.heap.size ≤ D.br
  hi : D.hi ≤ B
namespace TInv
variable {w0 w w' w'' : World} {D : DC} {B : Nat} {now now' : Int} {l l' : List Td} {bad bad' : Int} {am am' : Option Addr} {cm cm' : Nat}
theorem size (h : TInv w0 w D B now l bad am cm) : B + 1 ≤ w.heap.size := h.blk.lt
theorem old (h : TInv w0 w D B now l bad am cm) : w0.heap.size < B := by have := h.lo; have := h.hi; have := h.dm.lbd; omega
theorem fr0 (h : TInv w0 w D B now l bad am cm) (f : Fr (fun _ => False) w w') : TInv w0 w' D B now l bad am cm :=
  ⟨h.dm.fr0 f, h.blk.fr f (fun h => h), h.rd.fr f (fun _ _ _ h => h), h.new, h.fr.trans f, h.lo, h.hi⟩
theorem cells (h : TInv w0 w D B now l bad am cm) : w.cell? ⟨B, 0, none⟩ = some (.int .i64 now) ∧ w.cell? ⟨B, 1, none⟩ = some (.slice am l.length cm) ∧ w.frozen? ⟨B, 0, none⟩ = false ∧ w.frozen? ⟨B, 1, none⟩ = false ∧ B < w.heap.size :=
  ⟨h.blk.cell 0, h.blk.cell 1, h.blk.frozen 0, h.blk.frozen 1, h.blk.lt⟩
/-- The router has turned; the document's rib not yet. -/
theorem mid (h : TInv w0 w D B now l bad am cm) (f : Fr (fun k => k = D.bd ∨ k = D.br) w w') : Blk w'.heap B 56 [.int .i64 now, .slice am l.length cm] ∧ Recs w'.heap am 5 Td.cells l ∧ Fr (fun _ => False) w0 w' := by
  have h1 := h.hi
  have h2 := h.dm.lbd
  have h3 := h.dm.lbr
  have h4 := h.lo
  exact ⟨h.blk.fr f (fun e => by omega), h.rd.fr f (fun b off e hb => by have := h.new b off e; omega), h.fr.trans' f (fun i hi e => by omega)⟩
/-- Nothing was changed, but (perhaps) how many were bad. -/
theorem same (h : TInv w0 w D B now l bad am cm) (hD : Dmn w' (B + 1) D now l bad') (f : Fr (fun k => k = D.bd ∨ k = D.br) w w') : TInv w0 w' D B now l bad' am cm := by
  obtain ⟨q1, q2, q3⟩ := h.mid f
  exact ⟨hD, q1, q2, h.new, q3, h.lo, h.hi⟩
/-- The router has turned, and then the document's rib. -/
theorem put (h : TInv w0 w D B now l bad am cm) (hD : Dmn w' (B + 1) D now' l' bad') (f : Fr (fun k => k = D.bd ∨ k = D.br) w w') (g : Fr (fun _ => False) w' w'') (hrd : Recs w''.heap am' 5 Td.cells l') (hnew : ∀ b off, am' = some ⟨b, off, none⟩ → B < b) :
    TInv w0 ((w''.setCell ⟨B, 0, none⟩ (.int .i64 now')).setCell ⟨B, 1, none⟩ (.slice am' l'.length cm')) D B now' l' bad' am' cm' := by
  obtain ⟨q1, q2, q3⟩ := h.mid f
  obtain ⟨p1, p2⟩ := putB2 (q1.fr g (fun h => h)) (.int .i64 now') (.slice am' l'.length cm')
  have h1 := h.hi
  have h5 := h.old
  exact ⟨(hD.fr0 g).fr p2 (fun k hk => by omega), p1, hrd.fr p2 (fun b off e hb => by have := hnew b off e; omega), hnew, (q3.trans g).trans' p2 (fun i hi e => by omega), h.lo, h.hi⟩
end TInv
/-- The ways that are told are the same, whoever lists them. -/
theorem tell_same {D : DC} {l : List Td} {R S : List BestR} (hR : AllR D l R) (hS : AllR D l S) (tq : Int) : tellL tq R = tellL tq S := by
  have hn : R.map bnet = S.map bnet := nsx hR.srt hS.srt (fun q => by rw [hR.mem, hS.mem])
  have key : ∀ (T : List BestR), AllR D l T → T.map (tell1 tq) = (T.map bnet).map fun q => (⟨q.a, q.n, 0, 0, if tq ∈ (bestD D l q).2 then 16 else (bestD D l q).1⟩ : En) := fun T hT => by
    rw [List.map_map]
    refine List.map_congr_left (fun r hr => ?_)
    have hv := hT.val r hr
    show tell1 tq r = (⟨r.a, r.n, 0, 0, if tq ∈ (bestD D l (bnet r)).2 then 16 else (bestD D l (bnet r)).1⟩ : En)
    rw [← hv]
    rfl
  unfold tellL
  rw [key R hR, key S hS, hn]
set_option maxRecDepth 100000 in
theorem dtell_no {base : Nat} {D : DC} {now : Int} {l : List Td} {bad : Int} (tq : Int) (w : World) (hD : Dmn w base D now l bad) (ht : tq < 0 ∨ (D.costs.length : Int) ≤ tq) :
    Calls Tryz.prog 27 #[.pointer (some ⟨D.bd, 0, none⟩), .int .i64 tq] w (RetS w (.tuple #[.slice none 0 0, errv 1])) := by
  have hnear := dnear_no tq w hD ht
  clear hD ht
  go_enter Tryz.func27, Tryz.ntmps27
  go_wp2_with (fail)
  refine hnear.mono ?_
  rintro e1 w1 ⟨rfl, rfl⟩
  go_wp2
  go_ret2
  exact RetS.mk rfl rfl rfl
/-- What an act may be wrong by, ahead of all. -/
def actBad (N : Nat) (now ac f z : Int) : Prop := z < now ∨ 1099511627776 < z ∨ (ac ≤ 2 ∧ 0 ≤ ac ∧ ¬ (0 ≤ f ∧ f < (N : Int)))
instance (N : Nat) (now ac f z : Int) : Decidable (actBad N now ac f z) := by unfold actBad; infer_instance
theorem actBad_time {D : DC} {N : Nat} {now ac f z : Int} (hN : D.costs.length = N) (h : ac = 0 ∨ ac = 1 ∨ ac = 2) : actBad N now ac f z ↔ timeErr D now f z := by unfold actBad timeErr; omega
theorem actBad_tick {N : Nat} {now ac f z : Int} (h : ac ≠ 0 ∧ ac ≠ 1 ∧ ac ≠ 2) : actBad N now ac f z ↔ (z < now ∨ 1099511627776 < z) := by unfold actBad; omega
/-- The ways through the test of an act. -/
theorem act_ways {N : Nat} {now ac f z : Int} {NR : Bool} (h : TestIs NR (0 ≤ f ∧ f < (N : Int)) (¬ (0 ≤ f ∧ f < (N : Int)))) :
    (decide (z < now) = true ∧ actBad N now ac f z) ∨ (decide (z < now) = false ∧ decide (1099511627776 < z) = true ∧ actBad N now ac f z) ∨ (decide (z < now) = false ∧ decide (1099511627776 < z) = false ∧ decide (ac ≤ 2) = false ∧ ¬ actBad N now ac f z)
    ∨ (decide (z < now) = false ∧ decide (1099511627776 < z) = false ∧ decide (ac ≤ 2) = true ∧ decide (0 ≤ ac) = false ∧ ¬ actBad N now ac f z)
    ∨ (decide (z < now) = false ∧ decide (1099511627776 < z) = false ∧ decide (ac ≤ 2) = true ∧ decide (0 ≤ ac) = true ∧ ((NR = true ∧ ¬ actBad N now ac f z) ∨ (NR = false ∧ actBad N now ac f z))) := by
  unfold actBad
  simp only [decide_eq_true_eq, decide_eq_false_iff_not]
  cases NR with
  | true =>
    have := h.1 rfl
    simp only [true_and, Bool.true_eq_false, false_and, or_false]
    omega
  | false =>
    have := h.2 rfl
    simp only [true_and, Bool.false_eq_true, false_and, false_or]
    omega
/-- What is told of an act ahead of all. -/
def ActE (N : Nat) (now ac f z ev : Int) : Prop := (actBad N now ac f z ∧ ev = 1) ∨ (¬ actBad N now ac f z ∧ ev = 0)
/-- A message of bytes, part by part. -/
def MsgIs (H : Array Obj) (b : List Int) (fv : Int) (ask : Bool) (a : Option Addr) (n : Nat) : Prop := (decD b = .error fv ∧ fv ≠ 0 ∧ ask = false) ∨ ∃ es, decD b = .ok (ask, es) ∧ fv = 0 ∧ n = es.length ∧ Recs H a 5 En.cells es ∧ es.length ≤ 25 ∧ ∀ e ∈ es, En.wf e
theorem decD_pos {b : List Int} {k : Int} (h : decD b = .error k) : k ≠ 0 := by
  unfold decD at h
  split at h
  · cases h; decide
  · split at h
    · cases h; decide
    · split at h
      · cases h; decide
      · cases h
theorem RetMsg.flat {w w' : World} {b : List Int} {e : Ending} (hb : ∀ x ∈ b, 0 ≤ x ∧ x < 256) (h : RetMsg w (decD b) e w') : ∃ (fv : Int) (ask : Bool) (a : Option Addr) (n c : Nat), e = .returned (.tuple #[.agg #[.bool ask, .slice a n c], .int .i64 fv]) ∧ Fr (fun _ => False) w w' ∧ MsgIs w'.heap b fv ask a n ∧ ∀ b' off, a = some ⟨b', off, none⟩ → w.heap.size ≤ b' := by
  cases hd : decD b with
  | error k =>
    rw [hd] at h
    exact ⟨k, false, none, 0, 0, h.1, h.2, .inl ⟨hd, decD_pos hd, rfl⟩, (fun _ _ h => nomatch h)⟩
  | ok p =>
    rw [hd] at h
    obtain ⟨ask, es⟩ := p
    obtain ⟨a, c, ob, h1, h2, h3, h4, h5⟩ := h
    exact ⟨0, ask, a, es.length, c, h1, h3, .inr ⟨es, hd, rfl, rfl, h2.rd, h5, fun e he => (decD_ok hb hd e he).2⟩, own_new h2 h4⟩
theorem MsgIs.fr0 {w w' : World} {b : List Int} {fv : Int} {ask : Bool} {a : Option Addr} {n : Nat} (h : MsgIs w.heap b fv ask a n) (f : Fr (fun _ => False) w w') : MsgIs w'.heap b fv ask a n := by
  rcases h with h | ⟨es, h1, h2, h3, h4, h5⟩
  · exact .inl h
  · exact .inr ⟨es, h1, h2, h3, h4.fr f (fun _ _ _ h => h), h5⟩
/-- The ways that there are, of the first ones. -/
def wayS (R : List BestR) (i : Nat) : List BestR := (R.take i).filter fun x => !(x.m == 16)
theorem wayS_yes {R : List BestR} {i : Nat} (hi : i < R.length) {x : BestR} (hx : x = nth R i) (hm : x.m < 16) : wayS R (i + 1) = wayS R i ++ [x] := by
  unfold wayS
  rw [take_succ_nth R i hi, List.filter_append, ← hx]
  congr 1
  refine List.filter_eq_self.2 (fun y hy => ?_)
  rw [List.mem_singleton.1 hy]
  simp
  omega
theorem wayS_no {R : List BestR} {i : Nat} (hi : i < R.length) {x : BestR} (hx : x = nth R i) (hm : ¬ x.m < 16) (h16 : x.m ≤ 16) : wayS R (i + 1) = wayS R i := by
  unfold wayS
  rw [take_succ_nth R i hi, List.filter_append, ← hx]
  have : ([x].filter fun x => !(x.m == 16)) = [] := by
    refine List.filter_eq_nil_iff.2 (fun y hy => ?_)
    rw [List.mem_singleton.1 hy]
    simp
    omega
  rw [this, List.append_nil]
theorem wayS_all (R : List BestR) : wayS R R.length = R.filter fun x => !(x.m == 16) := by unfold wayS; rw [List.take_length]
theorem tell_flat (tq : Int) (R : List BestR) : ((R.map (tell1 tq)).flatMap En.cells).take (min (R.map (tell1 tq)).length 25 * 5) = (tellL tq R).flatMap En.cells := by
  rw [flat_take En.cells 5 En.cells_len, Nat.min_comm, ← List.take_take, List.take_length]
  rfl
/-- Bytes that can be read. -/
structure BytesB (H : Array Obj) (b : List Int) (a : Option Addr) (c : Nat) : Prop where
  rd : Rd H a b.length 1 (ivals .u8 b)
  bd : ∀ x ∈ b, 0 ≤ x ∧ x < 256
  cap : b.length ≤ c
  len : b.length ≤ 9223372036854775000
theorem BytesB.fr0 {w w' : World} {b : List Int} {a : Option Addr} {c : Nat} (h : BytesB w.heap b a c) (f : Fr (fun _ => False) w w') : BytesB w'.heap b a c := ⟨h.rd.fr f (fun _ _ _ h => h), h.bd, h.cap, h.len⟩
/-- What the document's rib is, behind an act that went well. -/
theorem TInv.msg {w0 w w' : World} {D : DC} {B : Nat} {now : Int} {l : List Td} {bad : Int} {am : Option Addr} {cm : Nat} (h : TInv w0 w D B now l bad am cm) {H : HR} {bad' : Int} (hH : H = ⟨H.err, now, l, bad'⟩) (hD : Dmn w' (B + 1) D H.now H.l H.bad) (f : Fr (fun k => k = D.bd ∨ k = D.br) w w') : TInv w0 w' D B now l bad' am cm := by
  rw [hH] at hD
  exact h.same hD f
end Go.Proofs.YtfglidaicjjpfaaGreatDoor
end

section
namespace Go
open Go.ChangeShapes Go.WideShapes Go.ChangeAt Go.RowKit Go.Deep
section
variable {H : Type} {enc : TypeId × Value → H} {P : Program} {W : World}
/-- A slice of records, opened where it stands. -/
theorem open_recs1 {α : Type} [Inhabited α] {f : α → List Value} {k : Nat} {wf : α → Prop} (hk : 0 < k) (hlen : ∀ q, (f q).length = k) {t e : TypeId} {fuel : Nat} {cs : List Value} {x : DataW H × List MemPlace} (ht : P.underlying t = some (.slice e)) (ce : P.cellsOf e = k)
    (open1 : ∀ fuel cs x, DataW.trod enc P W 0 (fun _ => true) true fuel e cs = some x → ∃ q, cs = f q ∧ wf q)
    (hf : DataW.trod enc P W 0 (fun _ => true) true fuel t cs = some x) :
    ∃ (a : Option Addr) (l : List α) (c : Nat), cs = [.slice a l.length c] ∧ ((∀ y ∈ x.2, y.block < W.heap.size) → Recs W.heap a k f l) ∧ l.length ≤ c ∧ c ≤ maxLen ∧ (∀ x ∈ l, wf x) ∧ (a = none → l = []) ∧
      (c = 0 ∨ ∃ el sp, x.1 = .slice el sp ∧ el.length + sp.length = c) := by
  rcases open_slice ht hf with ⟨hcs, hx⟩ | ⟨a, len', cap', m, n, D, Pl, hcs, _, hl, hm, hmm, hx, hel⟩
  · exact ⟨none, [], 0, hcs, fun _ => Rd.nil _ _ _, by simp, by decide, (by simp), fun _ => rfl, .inl rfl⟩
  · simp only [if_true] at hmm
    subst hmm
    subst hx
    have each : ∀ i, i < m → ∃ q : α, (∀ j, j < k → W.cell? (a.add (i * k + j)) = (f q)[j]?) ∧ wf q := by
      intro i hi
      obtain ⟨cs', h1, h2⟩ := hel i hi
      rw [ce] at h1
      obtain ⟨_, hcl, hcell⟩ := World.cells?_some h1
      obtain ⟨q, rfl, hw⟩ := open1 _ _ _ h2
      refine ⟨q, fun j hj => ?_, hw⟩
      have := hcell j (by omega)
      rw [add_add] at this
      rw [this]
    obtain ⟨q, hq⟩ := choose_lt each
    have hrl : ((List.range len').map q).length = len' := by simp
    refine ⟨some a, (List.range len').map q, m, by rw [hrl]; exact hcs, fun hlt => ?_, by omega, hm, ?_, (fun h => nomatch h), .inr ⟨_, _, rfl, by simp; omega⟩⟩
    · refine ⟨by rw [flat_len _ k hlen], ?_⟩
      by_cases h0 : len' = 0
      · left; subst h0; rfl
      · right
        have hz : ∀ j, j < k → W.cell? (a.add (0 * k + j)) = (f (q 0))[j]? := fun j hj => (hq 0 (by omega)).1 j hj
        have hf0 : ∃ u, (f (q 0))[0]? = some u := ⟨_, List.getElem?_eq_getElem (by rw [hlen]; exact hk)⟩
        obtain ⟨u, hu⟩ := hf0
        obtain ⟨b, off, spot⟩ := a
        have hspot : spot = none := by
          have := hz 0 hk
          rw [hu] at this
          simpa [Addr.add] using World.cell?_spot this
        subst hspot
        refine ⟨b, off, rfl, hlt (.cell b off) (List.mem_append_left _ (MemPlace.mem_row.2 ⟨0, ?_, by simp⟩)), fun w hw i hi => ?_⟩
        · rw [ce]; exact Nat.mul_pos (by omega) hk
        rw [flat_len _ k hlen, hrl] at hi
        have e : w.cell? ⟨b, off + i, none⟩ = W.cell? ⟨b, off + i, none⟩ := by simp only [World.cell?, hw]
        have hd : i = i / k * k + i % k := by rw [Nat.mul_comm]; exact (Nat.div_add_mod i k).symm
        have hi3 : i / k < len' := Nat.div_lt_of_lt_mul (by rw [Nat.mul_comm]; exact hi)
        have hmk : i % k < k := Nat.mod_lt _ hk
        have z0 := (hq (i / k) (by omega)).1 (i % k) hmk
        simp only [add_plain] at z0
        have hn : nth ((List.range len').map q) (i / k) = q (i / k) := by simp [nth, List.getD, hi3]
        rw [e]
        conv => lhs; rw [hd]
        conv => rhs; rw [hd]
        rw [flat_get _ k hlen _ _ _ (by rw [hrl]; exact hi3) hmk, hn]
        exact z0
    · intro x hx
      obtain ⟨i, hi, rfl⟩ := List.mem_map.1 hx
      exact (hq i (by have := List.mem_range.1 hi; omega)).2

open Go.Proofs.YtfglidaicjjpfaaGreatDoor
def EnW (x : En) : Prop := Nt.wf ⟨x.a, x.n⟩ ∧ (Lit.int .i64 x.t).wf = true ∧ (0 ≤ x.p ∧ x.p < 4294967296) ∧ (Lit.int .i64 x.m).wf = true
theorem open_ent {t : TypeId} {f0 f1 f2 f3 g0 g1 : Field} (ht : P.underlying t = some (.struct #[f0, f1, f2, f3])) (ct : P.cellsOf t = 5) (o0 : f0.offset = 0) (o1 : f1.offset = 2) (o2 : f2.offset = 3) (o3 : f3.offset = 4)
    (kn : P.underlying f0.type = some (.struct #[g0, g1])) (cn : P.cellsOf f0.type = 2) (p0 : g0.offset = 0) (p1 : g1.offset = 1) (j0 : P.underlying g0.type = some (.int .u32)) (j1 : P.underlying g1.type = some (.int .i64)) (b0 : P.cellsOf g0.type = 1) (b1 : P.cellsOf g1.type = 1)
    (k1 : P.underlying f1.type = some (.int .i64)) (c1 : P.cellsOf f1.type = 1) (k2 : P.underlying f2.type = some (.int .u32)) (c2 : P.cellsOf f2.type = 1) (k3 : P.underlying f3.type = some (.int .i64)) (c3 : P.cellsOf f3.type = 1) :
    ∀ fuel cs x, DataW.trod enc P W 0 (fun _ => true) true fuel t cs = some x → ∃ q : En, cs = En.cells q ∧ EnW q := by
  intro fuel cs x h
  obtain ⟨y0, y1, y2, y3, n', hx, hl, h0, h1, h2, h3⟩ := Go.Joins.trod_struct4 ht h
  rw [ct] at hl
  match cs, hl with
  | [v0, v1, v2, v3, v4], _ =>
    simp [o0, o1, o2, o3, cn, c1, c2, c3] at h0 h1 h2 h3
    obtain ⟨q, hq, hqw⟩ := open_net kn cn p0 p1 j0 j1 b0 b1 _ _ _ h0
    obtain ⟨x1, q1, _, w1⟩ := DataW.trod_int k1 h1
    obtain ⟨x2, q2, _, w2⟩ := DataW.trod_int k2 h2
    obtain ⟨x3, q3, _, w3⟩ := DataW.trod_int k3 h3
    simp at hq q1 q2 q3
    obtain ⟨rfl, rfl⟩ := hq
    subst q1
    subst q2
    subst q3
    exact ⟨⟨q.a, q.n, x1, x2, x3⟩, rfl, hqw, w1, u32_wf w2, w3⟩
/-- A message, opened. -/
theorem arg_msg {t te : TypeId} {f0 f1 : Field} {r : Reach} {base : Nat} {v : Value} {d : DataW H} {p : List MemPlace} (ht : P.underlying t = some (.struct #[f0, f1])) (ct : P.cellsOf t = 2) (o0 : f0.offset = 0) (o1 : f1.offset = 1)
    (k0 : P.underlying f0.type = some .bool) (c0 : P.cellsOf f0.type = 1) (k1 : P.underlying f1.type = some (.slice te)) (c1 : P.cellsOf f1.type = 1) (ce : P.cellsOf te = 5)
    (open1 : ∀ fuel cs x, DataW.trod enc P W 0 (fun _ => true) true fuel te cs = some x → ∃ q : En, cs = En.cells q ∧ EnW q)
    (hv : Value.okWide P W r base t v) (h : DataW.Trod enc P W 0 (fun _ => true) true t v d p) (hlt : ∀ x ∈ p, x.block < W.heap.size) :
    ∃ (ask : Bool) (a : Option Addr) (l : List En) (c : Nat), v = .agg #[.bool ask, .slice a l.length c] ∧ Recs W.heap a 5 En.cells l ∧ l.length ≤ c ∧ c ≤ maxLen ∧ (∀ x ∈ l, EnW x) ∧
      (c = 0 ∨ ∃ u0 el sp, d = .agg [u0, .slice el sp] ∧ el.length + sp.length = c) := by
  obtain ⟨cs, rfl, hsz⟩ := okWide_struct ht hv
  obtain ⟨fuel, hf⟩ := h
  obtain ⟨y0, y1, n', hx, hl, h0, h1⟩ := trod_struct2 ht hf
  rw [ct] at hl
  simp only [Value.cells] at hl h0 h1
  obtain ⟨cl⟩ := cs
  match cl, hl with
  | [v0, v1], _ =>
    simp [o0, o1, c0, c1] at h0 h1
    obtain ⟨b, q0, _⟩ := DataW.trod_bool k0 h0
    obtain ⟨a, l, c, hcs, hI, hlc, hcm, hlw, hnil, hsy⟩ := open_recs1 (by decide) En.cells_len k1 ce open1 h1
    simp at q0 hcs
    subst q0
    subst hcs
    simp only [Prod.mk.injEq] at hx
    obtain ⟨rfl, rfl⟩ := hx
    refine ⟨b, a, l, c, rfl, hI (fun y hy => hlt y (by simp [hy])), hlc, hcm, hlw, ?_⟩
    rcases hsy with h | ⟨el, sp, h3, h4⟩
    · exact .inl h
    · exact .inr ⟨y0.1, el, sp, by rw [h3], h4⟩
/-- How many bytes a slice within a record that came in may take. -/
theorem part_small {ts : List TypeId} {ds : List (DataW H)} {j k : Nat} {t q r : TypeId} {fs : Array Field} {e' s' parts : List (DataW H)} (hsz : (DataW.weightsEach P ts ds).all (· ≤ reachBytes) = true) (ht : ts[j]? = some t) (hd : ds[j]? = some (.agg parts))
    (he : P.underlying t = some (.struct fs)) (hp : parts[k]? = some (.slice e' s')) (hf : (fs.toList.map (·.type))[k]? = some q) (hq : P.underlying q = some (.slice r)) : (e'.length + s'.length) * P.bytesOf r ≤ reachBytes := by
  refine of_decide_eq_true (List.all_eq_true.1 hsz _ (DataW.weights_mem_each ht hd _ ?_))
  simp only [DataW.weights, he]
  exact DataW.weights_mem_each hf hp _ (by simp [DataW.weights, hq])
end
end Go
end

section
namespace Go
open Go.ChangeShapes Go.WideShapes Go.ChangeAt Go.RowKit Go.Deep Go.Proofs.YtfglidaicjjpfaaGreatDoor
section
variable {H : Type} {enc : TypeId × Value → H} {P : Program} {W : World}
/-- A message: does it ask; its entries, where they lie. -/
structure MsgR where
  ask : Bool
  es : List En
  A : Option Addr
  C : Nat
deriving Inhabited
abbrev MsgR.cells (x : MsgR) : List Value := [.bool x.ask, .slice x.A x.es.length x.C]
theorem MsgR.cells_len (x : MsgR) : (MsgR.cells x).length = 2 := rfl
def MsgR.wf (x : MsgR) : Prop := x.es.length ≤ x.C ∧ x.C ≤ maxLen ∧ (∀ e ∈ x.es, EnW e)
/-- What lies behind a message that is handed in. -/
def msgOpen (W : World) (q : MsgR) (d : DataW H) (pl : List MemPlace) : Prop := MsgR.wf q ∧ ((∀ y ∈ pl, y.block < W.heap.size) → Recs W.heap q.A 5 En.cells q.es) ∧ (q.C = 0 ∨ ∃ u0 el sp, d = .agg [u0, .slice el sp] ∧ el.length + sp.length = q.C)
theorem open_msg1 {t te : TypeId} {f0 f1 : Field} (ht : P.underlying t = some (.struct #[f0, f1])) (ct : P.cellsOf t = 2) (o0 : f0.offset = 0) (o1 : f1.offset = 1)
    (k0 : P.underlying f0.type = some .bool) (c0 : P.cellsOf f0.type = 1) (k1 : P.underlying f1.type = some (.slice te)) (c1 : P.cellsOf f1.type = 1) (ce : P.cellsOf te = 5)
    (open1 : ∀ fuel cs x, DataW.trod enc P W 0 (fun _ => true) true fuel te cs = some x → ∃ q : En, cs = En.cells q ∧ EnW q) :
    ∀ fuel cs x, DataW.trod enc P W 0 (fun _ => true) true fuel t cs = some x → ∃ q : MsgR, cs = MsgR.cells q ∧ msgOpen W q x.1 x.2 := by
  intro fuel cs x h
  obtain ⟨y0, y1, n', hx, hl, h0, h1⟩ := trod_struct2 ht h
  rw [ct] at hl
  match cs, hl with
  | [v0, v1], _ =>
    simp [o0, o1, c0, c1] at h0 h1
    obtain ⟨b, q0, _⟩ := DataW.trod_bool k0 h0
    obtain ⟨a, l, c, hcs, hI, hlc, hcm, hlw, hnil, hsy⟩ := open_recs1 (by decide) En.cells_len k1 ce open1 h1
    simp at q0 hcs
    subst q0
    subst hcs
    refine ⟨⟨b, l, a, c⟩, rfl, ⟨hlc, hcm, hlw⟩, fun hlt => hI (fun y hy => hlt y (by rw [hx]; simp [hy])), ?_⟩
    rcases hsy with h | ⟨el, sp, h3, h4⟩
    · exact .inl h
    · exact .inr ⟨y0.1, el, sp, by rw [hx, h3], h4⟩
end
/-- Messages that are handed in. -/
structure Msgs (H : Array Obj) (a : Option Addr) (l : List MsgR) : Prop where
  top : Recs H a 2 MsgR.cells l
  row : ∀ x ∈ l, Recs H x.A 5 En.cells x.es ∧ (∀ e ∈ x.es, En.wf e) ∧ x.es.length ≤ 9223372036854775806
theorem Msgs.fr0 {w w' : World} {a : Option Addr} {l : List MsgR} (h : Msgs w.heap a l) (f : Fr (fun _ => False) w w') : Msgs w'.heap a l :=
  ⟨h.top.fr f (fun _ _ _ h => h), fun x hx => ⟨(h.row x hx).1.fr f (fun _ _ _ h => h), (h.row x hx).2⟩⟩
theorem enW_wf {e : En} (h : EnW e) : En.wf e := ⟨⟨h.1.1, h.1.2.1⟩, h.2.2.1⟩
end Go
end
