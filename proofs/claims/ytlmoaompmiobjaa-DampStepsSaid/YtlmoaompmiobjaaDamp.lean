import Derived.Test.YtlmoaompmiobjaaSl
import Derived.Laws.ShiftsVar
namespace Go.Proofs.Ytlmoaompmiobjaa
open Go.RowKit

/-- A damp: half, now, penalty, held. -/
structure DS where
  half : Nat
  now : Nat
  pen : Nat
  held : Bool
abbrev DS.cells (d : DS) : List Value := [.int .i64 d.half, .int .i64 d.now, .int .i64 d.pen, .bool d.held]
structure DS.Ok (d : DS) : Prop where
  h1 : 1 ≤ d.half
  h2 : d.half ≤ 1000
  n : d.now ≤ 1099511627776
  p : d.pen ≤ 12000
def DS.pass (d : DS) (t : Int) : Option DS :=
  if t < d.now ∨ 1099511627776 < t then none else
  some ⟨d.half, t.toNat, d.pen / 2 ^ (min (t.toNat / d.half - d.now / d.half) 62), if d.pen / 2 ^ (min (t.toNat / d.half - d.now / d.half) 62) < 750 then false else d.held⟩

/-- A call on a damp: the error, or the new state. -/
def PassPost (w : World) (g : Nat) (d : DS) (r : Option DS) (f : Value → DS → Value) (e : Ending) (w' : World) : Prop :=
  match r with
  | none => e = .returned (f (errv 1) d) ∧ Fr (fun _ => False) w w'
  | some d' => e = .returned (f .nilIface d') ∧ Blk w'.heap g 59 d'.cells ∧ Fr (fun k => k = g) w w' ∧ w'.heap.size = w.heap.size

set_option maxRecDepth 100000 in
set_option maxHeartbeats 1000000 in
theorem pass_any (d : DS) (g : Nat) (t : Int) (w : World) (hB : Blk w.heap g 59 d.cells) (ok : d.Ok) :
    Calls Try.prog 25 #[.pointer (some ⟨g, 0, none⟩), .int .i64 t] w (PassPost w g d (d.pass t) (fun v _ => v)) := by
  obtain ⟨h, n, p, b⟩ := d
  obtain ⟨h1, h2, hn, hp⟩ := ok
  have c0 : w.cell? ⟨g, 0, none⟩ = some (.int .i64 h) := hB.cell 0
  have c1 : w.cell? ⟨g, 1, none⟩ = some (.int .i64 n) := hB.cell 1
  have c2 : w.cell? ⟨g, 2, none⟩ = some (.int .i64 p) := hB.cell 2
  have c3 : w.cell? ⟨g, 3, none⟩ = some (.bool b) := hB.cell 3
  have f0 := hB.frozen
  simp only at h1 h2 hn hp
  go_enter Try.func25, Try.ntmps25
  by_cases hbad : t < n ∨ 1099511627776 < t
  · have hX : Hid (DS.pass ⟨h, n, p, b⟩ t = none) := (by unfold DS.pass; rw [if_pos hbad] : DS.pass ⟨h, n, p, b⟩ t = none)
    go_wp2
    all_goals go_ret
    all_goals rw [hX.out]; exact ⟨rfl, Fr.refl _ _⟩
  · obtain ⟨m, rfl⟩ := Int.eq_ofNat_of_zero_le (show 0 ≤ t by omega)
    have hX : Hid (DS.pass ⟨h, n, p, b⟩ (m : Int) = some ⟨h, m, p / 2 ^ (min (m / h - n / h) 62), if p / 2 ^ (min (m / h - n / h) 62) < 750 then false else b⟩) := (by unfold DS.pass; rw [if_neg hbad]; rfl : DS.pass ⟨h, n, p, b⟩ (m : Int) = _)
    have q1 : ¬ ((m : Int) < n) := by omega
    have q2 : ¬ (1099511627776 < (m : Int)) := by omega
    clear hbad
    have hAB : n / h ≤ m / h := Nat.div_le_div_right (by omega)
    have hA0 : m / h ≤ 1099511627776 := Nat.le_trans (Nat.div_le_self _ _) (by omega)
    have hB0 : n / h ≤ 1099511627776 := Nat.le_trans hAB hA0
    have hwr : ∀ x : Nat, x ≤ 1099511627776 → wrap64 (x : Int) = (x : Int) := fun x hx => by unfold wrap64; omega
    have w1 : wrap64 ((m : Int) / (h : Int)) = ((m / h : Nat) : Int) := by rw [← Int.natCast_ediv]; exact hwr _ (by omega)
    have w2 : wrap64 ((n : Int) / (h : Int)) = ((n / h : Nat) : Int) := by rw [← Int.natCast_ediv]; exact hwr _ (by omega)
    clear hwr
    generalize m / h = A at *
    generalize n / h = B at *
    have hB' : ∀ nq, Blk (w.drewN nq).heap g 59 _ := fun _ => hB
    by_cases hk : A - B ≤ 62
    · have hmin : min (A - B) 62 = A - B := by omega
      have hz : (p : Int) / 2 ^ (A - B) = ((p / 2 ^ (A - B) : Nat) : Int) := by simp
      rw [hmin] at hX
      by_cases hP : p / 2 ^ (A - B) < 750
      · rw [if_pos hP] at hX
        have hPi : (p : Int) / 2 ^ (A - B) < 750 := by rw [hz]; omega
        have HZ := Lib.hid hz
        clear hz hP hmin
        go_wp2
        go_quiet (fail)
        go_wp2
        go_ret
        rw [hX.out]
        exact ⟨rfl, Blk.eq (((hB' nq).set 1 _).set 2 _ |>.set 3 _) (by simp), ((((Fr.refl _ _).drewN nq).at1 1 _).at1 2 _).at1 3 _, by simp⟩
      · rw [if_neg hP] at hX
        have hPi : ¬ (p : Int) / 2 ^ (A - B) < 750 := by rw [hz]; omega
        have HZ := Lib.hid hz
        clear hz hP hmin
        go_wp2
        go_quiet (fail)
        go_wp2
        go_ret
        rw [hX.out]
        exact ⟨rfl, Blk.eq ((hB' nq).set 1 _ |>.set 2 _) (by simp), (((Fr.refl _ _).drewN nq).at1 1 _).at1 2 _, by simp⟩
    · have hmin : min (A - B) 62 = 62 := by omega
      have h0 : p / 2 ^ 62 = 0 := Nat.div_eq_of_lt (by omega)
      rw [hmin, h0] at hX
      rw [if_pos (by decide)] at hX
      have hPi : (p : Int) / 4611686018427387904 = 0 := by omega
      clear hmin
      go_wp2
      go_quiet (fail)
      go_wp2
      go_ret
      rw [hX.out]
      exact ⟨rfl, Blk.eq (((hB' nq).set 1 _).set 2 _ |>.set 3 _) (by simp), ((((Fr.refl _ _).drewN nq).at1 1 _).at1 2 _).at1 3 _, by simp⟩

theorem DS.pass_ok {d d' : DS} {t : Int} (ok : d.Ok) (h : d.pass t = some d') : d'.Ok ∧ d'.half = d.half := by
  unfold DS.pass at h
  by_cases hb : t < d.now ∨ 1099511627776 < t
  · rw [if_pos hb] at h; cases h
  · rw [if_neg hb] at h
    cases h
    refine ⟨⟨ok.h1, ok.h2, ?_, Nat.le_trans (Nat.div_le_self _ _) ok.p⟩, rfl⟩
    show t.toNat ≤ _
    omega

def DS.bump (d : DS) : DS := ⟨d.half, d.now, min (d.pen + 1000) 12000, if 2000 < min (d.pen + 1000) 12000 then true else d.held⟩
set_option maxRecDepth 100000 in
theorem DS.bump_ok {d : DS} (ok : d.Ok) : d.bump.Ok := ⟨ok.h1, ok.h2, ok.n, Nat.min_le_right _ _⟩

def NewPost (half : Int) (w : World) (e : Ending) (w' : World) : Prop :=
  ((half < 1 ∨ 1000 < half) ∧ e = .returned (.tuple #[.pointer none, errv 1]) ∧ Fr (fun _ => False) w w') ∨
  (∃ g h : Nat, half = h ∧ (⟨h, 0, 0, false⟩ : DS).Ok ∧ e = .returned (.tuple #[.pointer (some ⟨g, 0, none⟩), .nilIface]) ∧ w.heap.size ≤ g ∧ Blk w'.heap g 59 (⟨h, 0, 0, false⟩ : DS).cells ∧ Fr (fun _ => False) w w')

set_option maxRecDepth 100000 in
set_option maxHeartbeats 1000000 in
theorem new_any (half : Int) (w : World) :
    Calls Try.prog 13 #[.int .i64 half] w (NewPost half w) := by
  go_enter Try.func13, Try.ntmps13
  by_cases hbad : half < 1 ∨ 1000 < half
  · have hbad2 := Lib.hid hbad
    go_wp2
    all_goals go_ret2
    all_goals exact .inl ⟨hbad2.out, rfl, Fr.refl _ _⟩
  · have q1 : ¬ half < 1 := by omega
    have q2 : ¬ 1000 < half := by omega
    clear hbad
    obtain ⟨h, rfl⟩ := Int.eq_ofNat_of_zero_le (show 0 ≤ half by omega)
    go_wp2
    go_ret2
    exact .inr ⟨w.heap.size, h, rfl, ⟨by show 1 ≤ h; omega, by show h ≤ 1000; omega, Nat.zero_le _, Nat.zero_le _⟩, rfl, Nat.le_refl _, Blk.made w _ (⟨h, 0, 0, false⟩ : DS).cells, (Fr.refl _ _).alloc _⟩

def DS.flap (d : DS) (t : Int) : Option DS := (d.pass t).map DS.bump
theorem DS.bump_lo (h n p : Nat) (b : Bool) (hc : p + 1000 ≤ 12000) (hc2 : 2000 < p + 1000) : (⟨h, n, p, b⟩ : DS).bump = ⟨h, n, p + 1000, true⟩ := by
  have hm : min (p + 1000) 12000 = p + 1000 := by omega
  simp only [DS.bump, hm, if_pos hc2]
theorem DS.bump_no (h n p : Nat) (b : Bool) (hc : p + 1000 ≤ 12000) (hc2 : ¬ 2000 < p + 1000) : (⟨h, n, p, b⟩ : DS).bump = ⟨h, n, p + 1000, b⟩ := by
  have hm : min (p + 1000) 12000 = p + 1000 := by omega
  simp only [DS.bump, hm, if_neg hc2]
theorem DS.bump_hi (h n p : Nat) (b : Bool) (hc : ¬ p + 1000 ≤ 12000) : (⟨h, n, p, b⟩ : DS).bump = ⟨h, n, 12000, true⟩ := by
  have hm : min (p + 1000) 12000 = 12000 := by omega
  simp only [DS.bump, hm]; rfl
theorem DS.flap_none {d : DS} {t : Int} (h : d.pass t = none) : d.flap t = none := by simp [DS.flap, h]
theorem DS.flap_some {d d' d2 : DS} {t : Int} (h : d.pass t = some d') (h2 : d'.bump = d2) : d.flap t = some d2 := by simp [DS.flap, h, h2]
theorem DS.flap_ok {d d' : DS} {t : Int} (ok : d.Ok) (h : d.flap t = some d') : d'.Ok := by
  unfold DS.flap at h
  cases hp : d.pass t with
  | none => rw [hp] at h; cases h
  | some d1 => rw [hp] at h; cases h; exact DS.bump_ok (DS.pass_ok ok hp).1

set_option maxRecDepth 100000 in
set_option maxHeartbeats 1000000 in
theorem flap_any (d : DS) (g : Nat) (t : Int) (w : World) (hB : Blk w.heap g 59 d.cells) (ok : d.Ok) :
    Calls Try.prog 14 #[.pointer (some ⟨g, 0, none⟩), .int .i64 t] w (PassPost w g d (d.flap t) (fun v _ => v)) := by
  go_enter Try.func14, Try.ntmps14
  go_wp2_with (go_at_call 25; refine (pass_any d g t _ hB ok).mono ?_)
  intro e w1 h1
  cases hd : d.pass t with
  | none =>
    rw [hd] at h1
    obtain ⟨rfl, hF⟩ := h1
    have hX := Lib.hid (DS.flap_none hd)
    clear hd
    go_wp2
    go_ret
    rw [hX.out]
    exact ⟨rfl, hF⟩
  | some d1 =>
    rw [hd] at h1
    obtain ⟨rfl, hB1, hF, hS⟩ := h1
    obtain ⟨ok1, -⟩ := DS.pass_ok ok hd
    have HD := Lib.hid hd
    clear hd hB ok
    obtain ⟨h, n, p, b⟩ := d1
    have hp : p ≤ 12000 := ok1.p
    have c2 : w1.cell? ⟨g, 2, none⟩ = some (.int .i64 p) := hB1.cell 2
    have c3 : w1.cell? ⟨g, 3, none⟩ = some (.bool b) := hB1.cell 3
    have f0 := hB1.frozen
    by_cases hc : p + 1000 ≤ 12000
    · by_cases hc2 : 2000 < p + 1000
      · have hX := Lib.hid (DS.flap_some (d2 := ⟨h, n, p + 1000, true⟩) HD.out (DS.bump_lo h n p b hc hc2))
        clear HD
        go_wp2
        go_ret
        rw [hX.out]
        exact ⟨rfl, Blk.eq (hB1.set 2 _ |>.set 3 _) (by simp), (hF.at1 2 _).at1 3 _, by simpa using hS⟩
      · have hX := Lib.hid (DS.flap_some (d2 := ⟨h, n, p + 1000, b⟩) HD.out (DS.bump_no h n p b hc hc2))
        clear HD
        go_wp2
        go_ret
        rw [hX.out]
        exact ⟨rfl, Blk.eq (hB1.set 2 _) (by simp), hF.at1 2 _, by simpa using hS⟩
    · have hX := Lib.hid (DS.flap_some (d2 := ⟨h, n, 12000, true⟩) HD.out (DS.bump_hi h n p b hc))
      clear HD
      go_wp2
      go_ret
      rw [hX.out]
      exact ⟨rfl, Blk.eq (hB1.set 2 _ |>.set 3 _) (by simp), (hF.at1 2 _).at1 3 _, by simpa using hS⟩

def AtPost (d : DS) (g : Nat) (t : Int) (w : World) (e : Ending) (w' : World) : Prop :=
  (d.pass t = none ∧ e = .returned (.tuple #[.int .i64 0, .bool false, errv 1]) ∧ Fr (fun _ => False) w w') ∨
  (∃ d', d.pass t = some d' ∧ e = .returned (.tuple #[.int .i64 d'.pen, .bool d'.held, .nilIface]) ∧ Blk w'.heap g 59 d'.cells ∧ Fr (fun k => k = g) w w' ∧ w'.heap.size = w.heap.size)

set_option maxRecDepth 100000 in
set_option maxHeartbeats 1000000 in
theorem at_any (d : DS) (g : Nat) (t : Int) (w : World) (hB : Blk w.heap g 59 d.cells) (ok : d.Ok) :
    Calls Try.prog 15 #[.pointer (some ⟨g, 0, none⟩), .int .i64 t] w (AtPost d g t w) := by
  go_enter Try.func15, Try.ntmps15
  go_wp2_with (go_at_call 25; refine (pass_any d g t _ hB ok).mono ?_)
  intro e w1 h1
  cases hd : d.pass t with
  | none =>
    rw [hd] at h1
    obtain ⟨rfl, hF⟩ := h1
    have HD := Lib.hid hd
    clear hd
    go_wp2
    go_ret3
    exact .inl ⟨HD.out, rfl, hF⟩
  | some d1 =>
    rw [hd] at h1
    obtain ⟨rfl, hB1, hF, hS⟩ := h1
    have HD := Lib.hid hd
    clear hd hB ok
    have c2 : w1.cell? ⟨g, 2, none⟩ = some (.int .i64 d1.pen) := hB1.cell 2
    have c3 : w1.cell? ⟨g, 3, none⟩ = some (.bool d1.held) := hB1.cell 3
    go_wp2
    go_quiet (fail)
    go_wp2
    go_ret3
    exact .inr ⟨d1, HD.out, rfl, hB1, hF.drewN nq, hS⟩

theorem DS.pass_some {d d' : DS} {t : Int} (h : d.pass t = some d') : (d.now : Int) ≤ t ∧ t ≤ 1099511627776 ∧ d'.half = d.half ∧ d'.now = t.toNat ∧ d'.pen = d.pen / 2 ^ (min (t.toNat / d.half - d.now / d.half) 62) ∧ d'.held = if d'.pen < 750 then false else d.held := by
  unfold DS.pass at h
  by_cases hb : t < d.now ∨ 1099511627776 < t
  · rw [if_pos hb] at h; cases h
  · rw [if_neg hb] at h
    have h := Option.some.inj h
    subst h
    exact ⟨by omega, by omega, rfl, rfl, rfl, rfl⟩
theorem DS.pass_is (d : DS) (t : Int) (h1 : (d.now : Int) ≤ t) (h2 : t ≤ 1099511627776) : ∃ d', d.pass t = some d' := by
  unfold DS.pass; rw [if_neg (by omega)]; exact ⟨_, rfl⟩
/-- To ask on the way changes nothing. -/
theorem DS.pass_pass {d d1 d2 : DS} {a b : Int} (ok : d.Ok) (h1 : d.pass a = some d1) (h2 : d1.pass b = some d2) : ∃ d3, d.pass b = some d3 ∧ d3.pen = d2.pen ∧ d3.held = d2.held := by
  obtain ⟨p1, p2, p3, p4, p5, p6⟩ := DS.pass_some h1
  obtain ⟨q1, q2, q3, q4, q5, q6⟩ := DS.pass_some h2
  rw [p4] at q1
  obtain ⟨d3, h3⟩ := d.pass_is b (by omega) q2
  obtain ⟨r1, r2, r3, r4, r5, r6⟩ := DS.pass_some h3
  have hp : d.pen ≤ 12000 := ok.p
  have e1 : d.now / d.half ≤ a.toNat / d.half := Nat.div_le_div_right (by omega)
  have e2 : a.toNat / d.half ≤ b.toNat / d.half := Nat.div_le_div_right (by omega)
  have key : d3.pen = d2.pen := by
    rw [r5, q5, p3, p4, p5, Nat.div_div_eq_div_mul, ← Nat.pow_add]
    generalize b.toNat / d.half = B at *
    generalize a.toNat / d.half = A at *
    generalize d.now / d.half = N at *
    by_cases hs : B - N ≤ 62
    · congr 2; omega
    · have big : ∀ k, 62 ≤ k → d.pen / 2 ^ k = 0 := fun k hk => by
        apply Nat.div_eq_of_lt
        exact Nat.lt_of_lt_of_le (show d.pen < 2 ^ 62 by omega) (Nat.pow_le_pow_right (by decide) hk)
      rw [big _ (by omega), big _ (by omega)]
  refine ⟨d3, h3, key, ?_⟩
  rw [r6, q6, p6, key]
  have hle : d2.pen ≤ d1.pen := by rw [q5]; exact Nat.div_le_self _ _
  split
  · rfl
  · rw [if_neg (by omega)]

def DS.step (d : DS) (t : Int) : DS := (d.flap t).getD d
theorem DS.step_ok {d : DS} (ok : d.Ok) (t : Int) : (d.step t).Ok := by
  unfold DS.step
  cases h : d.flap t with
  | none => exact ok
  | some d' => exact DS.flap_ok ok h

theorem flap_post {w w' : World} {g : Nat} {d : DS} {t : Int} {e : Ending} (hB : Blk w.heap g 59 d.cells) (h : PassPost w g d (d.flap t) (fun v _ => v) e w') :
    ∃ v, e = .returned v ∧ Blk w'.heap g 59 (d.step t).cells ∧ Fr (fun k => k = g) w w' := by
  unfold DS.step
  cases hf : d.flap t with
  | none => rw [hf] at h; exact ⟨_, h.1, hB.fr h.2 (fun x => x), h.2.none _⟩
  | some d' => rw [hf] at h; exact ⟨_, h.1, h.2.1, h.2.2.1⟩

set_option maxRecDepth 100000 in
set_option maxHeartbeats 2000000 in
theorem steps_any (half : Int) (l : List Int) (al : Option Addr) (cl : Nat) (a b : Int) (w : World) (hl : Ints w.heap al l) (hln : l.length ≤ 9223372036854775807) :
    Calls Try.prog 5 #[.int .i64 half, .slice al l.length cl, .int .i64 a, .int .i64 b] w (RetV w (.bool true)) := by
  go_enter Try.func5, Try.ntmps5
  go_wp2_with (go_at_call 13; refine (new_any 10 _).mono ?_)
  intro e1 w1 h1
  obtain ⟨c, -⟩ | ⟨g0, h0, -, -, rfl, -, -, hF1⟩ := h1
  · omega
  go_wp2_with (go_at_call 13; refine (new_any half _).mono ?_)
  intro e2 w2 h2
  obtain ⟨c2, rfl, hF2⟩ | ⟨g, h, hh, ok, rfl, hg, hB2, hF2⟩ := h2
  · clear c2
    go_wp2_with (go_at_call 13; refine (new_any half _).mono ?_)
    intro e3 w3 h3
    obtain ⟨c3, rfl, hF3⟩ | ⟨g3, h3, hh3, ok3, rfl, hg3, hB3, hF3⟩ := h3
    · clear c3
      go_wp2
      go_ret
      exact RetV.mk rfl rfl ((hF1.trans hF2).trans hF3)
    · clear hh3
      go_wp2
      go_ret
      exact RetV.mk rfl rfl ((hF1.trans hF2).trans hF3)
  · subst hh
    go_wp2_with (go_at_call 13; refine (new_any h _).mono ?_)
    intro e3 w3 h3
    obtain ⟨c3, -⟩ | ⟨g', h', hh', ok', rfl, hg', hB3', hF3⟩ := h3
    · have := ok.h1
      have := ok.h2
      simp only at *
      omega
    · obtain rfl : h = h' := by omega
      clear hh'
      have hgg : g ≠ g' := by have := hB2.lt; omega
      have hFw : Fr (fun _ => False) w w3 := (hF1.trans hF2).trans hF3
      have hB2 := hB2.fr hF3 (fun x => x)
      have hgw : w.heap.size ≤ g := by have := hF1.size; omega
      have hgw' : w.heap.size ≤ g' := by have := (hF1.trans hF2).size; omega
      clear hF1 hF2 hF3 hg hg' ok'
      go_wp2
      go_loopw [15] (fun i wr => ∃ (k : Nat) (D : DS), k ≤ l.length ∧ i = .int .i64 k ∧ D.Ok ∧ Blk wr.heap g 59 D.cells ∧ Blk wr.heap g' 59 D.cells ∧ Fr (fun _ => False) w wr) (fun i _ => l.length - (intOf i).toNat)
      case atStart => exact ⟨0, _, by omega, rfl, ok, hB2, hB3', hFw⟩
      case round =>
        clear hB2 hB3' hFw ok
        obtain ⟨k, D, hk, rfl, ok, hB2, hB3, hFw⟩ := hrel
        by_cases hlt : k < l.length
        · obtain ⟨b1, o1, rfl, q1, c1⟩ := Ints.pos hl (by omega)
          have c2 := (hFw.cell (p := ⟨b1, o1 + k, none⟩) q1 (fun x => x)).trans (c1 w rfl k hlt)
          clear c1
          go_wp2_with (go_at_call 14; refine (flap_any D g _ _ hB2 ok).mono ?_)
          intro e4 w4 h4
          obtain ⟨v4, rfl, hB4, hF4⟩ := flap_post hB2 h4
          have hB5 := hB3.fr hF4 (fun x => hgg x.symm)
          have c3 := (hF4.cell (p := ⟨b1, o1 + k, none⟩) (by have := hFw.size; show b1 < _; omega) (by show ¬ b1 = g; omega)).trans c2
          clear h4
          go_wp2_with (go_at_call 14; refine (flap_any D g' _ _ hB5 ok).mono ?_)
          intro e5 w5 h5
          obtain ⟨v5, rfl, hB6, hF6⟩ := flap_post hB5 h5
          have hB7 := hB4.fr hF6 (fun x => hgg x)
          have hF8 := (hFw.trans' hF4 (fun i hi h => by omega)).trans' hF6 (fun i hi h => by omega)
          clear h5
          go_wp2
          go_roundw
          case rel => exact ⟨k + 1, _, by omega, by go_num, DS.step_ok ok _, hB7, hB6, hF8⟩
          case measure => simp [intOf]; omega
        · obtain rfl : k = l.length := by omega
          go_wp2_with (go_at_call 15; refine (at_any D g a _ hB2 ok).mono ?_)
          intro e4 w4 h4
          rcases h4 with ⟨p4, rfl, hF4⟩ | ⟨D1, p4, rfl, hB4, hF4, hS4⟩
          · clear p4
            have hB4 := hB2.fr hF4 (fun x => x)
            have hB5 := hB3.fr hF4 (fun x => x)
            have hF5 := hFw.trans hF4
            go_wp2_with (go_at_call 15; refine (at_any D g b _ hB4 ok).mono ?_)
            intro e6 w6 h6
            rcases h6 with ⟨p6, rfl, hF6⟩ | ⟨D2, p6, rfl, hB6, hF6, hS6⟩
            · clear p6
              go_wp2_with (go_at_call 15; refine (at_any D g' b _ (hB5.fr hF6 (fun x => x)) ok).mono ?_)
              intro e7 w7 h7
              rcases h7 with ⟨p7, rfl, hF7⟩ | ⟨D3, p7, rfl, hB7, hF7, hS7⟩
              · clear p7
                go_wp2
                go_ret
                exact RetV.mk rfl rfl ((hF5.trans hF6).trans hF7)
              · clear p7
                go_wp2
                go_ret
                exact RetV.mk rfl rfl ((hF5.trans hF6).trans' hF7 (fun i hi h => by omega))
            · clear p6
              go_wp2_with (go_at_call 15; refine (at_any D g' b _ (hB5.fr hF6 (fun x => hgg x.symm)) ok).mono ?_)
              intro e7 w7 h7
              rcases h7 with ⟨p7, rfl, hF7⟩ | ⟨D3, p7, rfl, hB7, hF7, hS7⟩
              · clear p7
                go_wp2
                go_ret
                exact RetV.mk rfl rfl ((hF5.trans' hF6 (fun i hi h => by omega)).trans hF7)
              · clear p7
                go_wp2
                go_ret
                exact RetV.mk rfl rfl ((hF5.trans' hF6 (fun i hi h => by omega)).trans' hF7 (fun i hi h => by omega))
          · have hB5 := hB3.fr hF4 (fun x => hgg x.symm)
            have hF5 := hFw.trans' hF4 (fun i hi h => by omega)
            obtain ⟨ok1, -⟩ := DS.pass_ok ok p4
            have P4 := Lib.hid p4
            clear p4
            go_wp2_with (go_at_call 15; refine (at_any D1 g b _ hB4 ok1).mono ?_)
            intro e6 w6 h6
            rcases h6 with ⟨p6, rfl, hF6⟩ | ⟨D2, p6, rfl, hB6, hF6, hS6⟩
            · clear p6
              go_wp2_with (go_at_call 15; refine (at_any D g' b _ (hB5.fr hF6 (fun x => x)) ok).mono ?_)
              intro e7 w7 h7
              rcases h7 with ⟨p7, rfl, hF7⟩ | ⟨D3, p7, rfl, hB7, hF7, hS7⟩
              · clear p7
                go_wp2
                go_ret
                exact RetV.mk rfl rfl ((hF5.trans hF6).trans hF7)
              · clear p7
                go_wp2
                go_ret
                exact RetV.mk rfl rfl ((hF5.trans hF6).trans' hF7 (fun i hi h => by omega))
            · obtain ⟨D4, s1, s2, s3⟩ := DS.pass_pass ok P4.out p6
              have S1 := Lib.hid s1
              have S2 := Lib.hid s2
              have S3 := Lib.hid s3
              clear p6 s1 s2 s3
              go_wp2_with (go_at_call 15; refine (at_any D g' b _ (hB5.fr hF6 (fun x => hgg x.symm)) ok).mono ?_)
              intro e7 w7 h7
              rcases h7 with ⟨p7, rfl, hF7⟩ | ⟨D3, p7, rfl, hB7, hF7, hS7⟩
              · rw [S1.out] at p7; cases p7
              · rw [S1.out] at p7
                obtain rfl := Option.some.inj p7
                clear p7
                rw [S2.out, S3.out]
                go_wp2
                go_ret
                exact RetV.mk rfl rfl ((hF5.trans' hF6 (fun i hi h => by omega)).trans' hF7 (fun i hi h => by omega))
end Go.Proofs.Ytlmoaompmiobjaa
