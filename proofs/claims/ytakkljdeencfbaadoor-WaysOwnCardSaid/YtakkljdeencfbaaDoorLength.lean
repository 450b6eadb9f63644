import Derived.Test.YtakkljdeencfbaaDoorCTab
namespace Go.Proofs.YtakkljdeencfbaaDoor
open Go.RowKit

/-- One step of a way: its cost; none: it is no step. -/
def wstep (n : Nat) (rs : List (List Int)) (p : Option Int) (x : Int) : Option Int :=
  if x < 0 ∨ (n : Int) ≤ x then none else
    match p with
    | none => some 0
    | some q => if at2 rs q.toNat x.toNat = 0 ∨ at2 rs q.toNat x.toNat = 16 then none else some (at2 rs q.toNat x.toNat)
theorem wstep_bad {n : Nat} {rs : List (List Int)} {p : Option Int} {x : Int} (h : x < 0 ∨ (n : Int) ≤ x) : wstep n rs p x = none := if_pos h
theorem wstep_none {n : Nat} {rs : List (List Int)} {x : Int} (h : ¬ (x < 0 ∨ (n : Int) ≤ x)) : wstep n rs none x = some 0 := if_neg h
theorem wstep_some {n : Nat} {rs : List (List Int)} {q x : Int} (h : ¬ (x < 0 ∨ (n : Int) ≤ x)) : wstep n rs (some q) x = if at2 rs q.toNat x.toNat = 0 ∨ at2 rs q.toNat x.toNat = 16 then none else some (at2 rs q.toNat x.toNat) := if_neg h
def goLen (n : Nat) (rs : List (List Int)) (p : Option Int) (s : Int) : List Int → Option Int
  | [] => some s
  | x :: l => match wstep n rs p x with
    | none => none
    | some d => goLen n rs (some x) (s + d) l
def lengthE (n : Int) (l : List Lk) (v : List Int) : Except Int Int :=
  match costsE n l with
  | .error k => .error k
  | .ok rs => if v = [] then .error 3 else
    match goLen n.toNat rs none 0 v with
    | none => .error 3
    | some s => .ok s
theorem goLen_cons (n : Nat) (rs : List (List Int)) (p : Option Int) (s x : Int) (l : List Int) : goLen n rs p s (x :: l) = match wstep n rs p x with
    | none => none
    | some d => goLen n rs (some x) (s + d) l := rfl
def prevOf (v : List Int) (k : Nat) : Option Int := if k = 0 then none else some (nth v (k - 1))

/-- A number, or an error. -/
def RetInt (w : World) (r : Except Int Int) (e : Ending) (w' : World) : Prop :=
  match r with
  | .error k => RetV w (.tuple #[.int .i64 0, errv k]) e w'
  | .ok x => RetV w (.tuple #[.int .i64 x, .nilIface]) e w'
theorem RetInt.err {w w' : World} {r : Except Int Int} {k : Int} {e : Ending} (h : r = .error k) (h1 : e = .returned (.tuple #[.int .i64 0, errv k])) (h2 : Fr (fun _ => False) w w') : RetInt w r e w' := by
  subst h; exact ⟨h1, h2⟩
theorem RetInt.ok {w w' : World} {r : Except Int Int} {x : Int} {e : Ending} (h : r = .ok x) (h1 : e = .returned (.tuple #[.int .i64 x, .nilIface])) (h2 : Fr (fun _ => False) w w') : RetInt w r e w' := by
  subst h; exact ⟨h1, h2⟩

set_option maxRecDepth 100000 in
set_option maxHeartbeats 2000000 in
theorem length_any (n : Int) (l : List Lk) (a : Option Addr) (c : Nat) (v : List Int) (av : Option Addr) (cv : Nat) (w : World) (hL : Links w.heap a l) (hl : l.length ≤ 9223372036854775807) (hw : ∀ x ∈ l, (Lit.int .i64 x.a).wf = true ∧ (Lit.int .i64 x.b).wf = true ∧ (Lit.int .i64 x.c).wf = true)
    (hV : Ints w.heap av v) (hv : v.length ≤ 35184372088832) :
    Calls Tryd.prog 24 #[.int .i64 n, .slice a l.length c, .slice av v.length cv] w (RetInt w (lengthE n l v)) := by
  go_enter Tryd.func24, Tryd.ntmps24
  go_wp2_with (go_at_call 8; refine (costs_any n l a c _ hL hl hw).mono ?_)
  intro e1 w1 R1
  rcases costsE_cases n l with ⟨q, _, hq⟩ | ⟨m, rfl, m1, m8, _, hq, hT⟩
  · have hX := Lib.hid (show lengthE n l v = .error q by unfold lengthE; rw [hq])
    rw [hq] at R1
    obtain ⟨rfl, hF1⟩ := R1
    clear hq
    go_wp2
    go_ret2
    exact RetInt.err hX.out rfl hF1
  · have hXX : lengthE m l v = if v = [] then .error 3 else match goLen m (costsM m l) none 0 v with
        | none => .error 3
        | some s => .ok s := by unfold lengthE; rw [hq, Int.toNat_natCast]
    obtain ⟨ac, cc, ob, G, C, rfl, hM, hF1⟩ := R1.get (n := m) hq hT.sq.len
    clear hq R1
    generalize costsM m l = R at *
    by_cases h0 : v.length = 0
    · have hv0 : v = [] := List.eq_nil_of_length_eq_zero h0
      have hX := Lib.hid (show lengthE m l v = .error 3 by rw [hXX, if_pos hv0])
      have he : ((v.length : Int) == 0) = true := by simp [h0]
      clear hXX hv0 h0
      go_wp2
      go_ret2
      exact RetInt.err hX.out rfl hF1
    · have hv0 : v ≠ [] := fun h => h0 (by rw [h]; rfl)
      have HX := Lib.hid (show lengthE m l v = match goLen m R none 0 v with
        | none => .error 3
        | some s => .ok s by rw [hXX, if_neg hv0])
      have he : ((v.length : Int) == 0) = false := by simp [h0]
      have HT := Lib.hid hT
      clear hXX hv0 h0 hT
      go_wp2
      go_loopw [29, 10] (fun s29 s10 wr => ∃ (k : Nat) (s : Int), k ≤ v.length ∧ s29 = .int .i64 k ∧ s10 = .int .i64 s ∧ 0 ≤ s ∧ s ≤ 16 * k ∧ w1 = wr ∧ Hid (goLen m R none 0 v = goLen m R (prevOf v k) s (v.drop k)) ∧ (0 < k → 0 ≤ nth v (k - 1) ∧ nth v (k - 1) < m)) (fun s _ _ => v.length - (intOf s).toNat)
      case atStart => exact ⟨0, 0, by omega, rfl, rfl, by omega, by omega, rfl, rfl, fun h => absurd h (by omega)⟩
      case round =>
        obtain ⟨k, s, hk, rfl, rfl, s0, s1, rfl, hE, hp⟩ := hrel
        by_cases hkl : k < v.length
        · obtain ⟨bv, ov, rfl, hbv, hcv⟩ := Ints.pos hV (by omega)
          have hck := (hF1.cell (p := ⟨bv, ov + k, none⟩) hbv (fun h => h)).trans (hcv w rfl k hkl)
          have hd := drop_nth v k hkl
          by_cases hbad : nth v k < 0 ∨ (m : Int) ≤ nth v k
          · have hX := Lib.hid (show lengthE m l v = .error 3 by rw [HX.out, hE.out, hd, goLen_cons, wstep_bad hbad])
            clear hd hp hcv
            go_wp2
            all_goals go_ret2
            all_goals exact RetInt.err hX.out rfl hF1
          · by_cases hk0 : k = 0
            · have hE2 := Lib.hid (show goLen m R none 0 v = goLen m R (prevOf v (k + 1)) s (v.drop (k + 1)) by
                rw [hE.out, hd, goLen_cons]
                have e1 : prevOf v k = none := if_pos hk0
                rw [e1, wstep_none hbad]; show goLen m R (some (nth v k)) (s + 0) _ = _; rw [Int.add_zero]; rfl)
              have hkk : ((k : Int) == 0) = true := by simp [hk0]
              have HK0 := Lib.hid hk0
              clear hd hp hcv hk0
              go_wp2
              go_roundw
              case rel => exact ⟨k + 1, s, by omega, by go_num, rfl, s0, by omega, trivial, hE2, fun _ => by rw [Nat.add_sub_cancel]; omega⟩
              case measure => simp [intOf]; omega
            · have hkk : ((k : Int) == 0) = false := by simp [hk0]
              have hcp := (hF1.cell (p := ⟨bv, ov + (k - 1), none⟩) hbv (fun h => h)).trans (hcv w rfl (k - 1) (by omega))
              obtain ⟨p0, p1⟩ := hp (by omega)
              have hpr : prevOf v k = some (nth v (k - 1)) := if_neg hk0
              rw [Lib.hid hpr |>.out] at hE
              obtain ⟨q, hq⟩ := Int.eq_ofNat_of_zero_le p0
              obtain ⟨x, hx⟩ := Int.eq_ofNat_of_zero_le (show 0 ≤ nth v k by omega)
              rw [hq] at hcp hE
              rw [hx] at hck hd hbad
              have hxm : x < m := by omega
              have hqm : q < m := by omega
              have hb2 := HT.out.bd q x hqm hxm
              obtain ⟨d, hdd⟩ : ∃ d, d = at2 R q x := ⟨_, rfl⟩
              obtain ⟨bt, ot, rfl, x1, x2, x3⟩ := OMat.cells hM HT.out.sq.len HT.out.sq.rows q x hqm hxm
              have hst : wstep m R (some (q : Int)) x = if d = 0 ∨ d = 16 then none else some d := by rw [hdd]; exact wstep_some hbad
              rw [← hdd] at hb2
              have x2' : w1.cell? ⟨G q, x, none⟩ = some (.int .i64 d) := by rw [hdd]; exact x2
              clear hdd x2 x3 hpr hp hcv
              by_cases hz : d = 0 ∨ d = 16
              · have hX := Lib.hid (show lengthE m l v = .error 3 by rw [HX.out, hE.out, hd, goLen_cons, hst, if_pos hz])
                have hz1 : (d == 0) = true ∨ ((d == 0) = false ∧ (d == 16) = true) := by
                  rcases hz with h | h
                  · left; simp [h]
                  · right; simp [h]
                clear hd hst hE hq hx p0 p1 hz
                have hkp : 1 ≤ k := by omega
                rcases hz1 with hz1 | ⟨hz1, hz2⟩
                · go_wp2
                  go_ret2
                  exact RetInt.err hX.out rfl hF1
                · go_wp2
                  go_ret2
                  exact RetInt.err hX.out rfl hF1
              · have hz1 : (d == 0) = false := by simp; omega
                have hz2 : (d == 16) = false := by simp; omega
                have hE2 := Lib.hid (show goLen m R none 0 v = goLen m R (prevOf v (k + 1)) (s + d) (v.drop (k + 1)) by
                  rw [hE.out, hd, goLen_cons, hst, if_neg hz]; show goLen m R (some (x : Int)) (s + d) _ = _; rw [← hx]; rfl)
                have HXX := Lib.hid hx
                have hkp : 1 ≤ k := by omega
                clear hd hst hE hq hx p0 p1 hz
                go_wp2
                go_roundw
                case rel => exact ⟨k + 1, s + d, by omega, by go_num, rfl, by omega, by omega, trivial, hE2, fun _ => by rw [Nat.add_sub_cancel, HXX.out]; omega⟩
                case measure => simp [intOf]; omega
        · obtain rfl : k = v.length := by omega
          have hX := Lib.hid (show lengthE m l v = .ok s by rw [HX.out, hE.out, List.drop_length]; rfl)
          clear hp
          go_wp2
          go_ret2
          exact RetInt.ok hX.out rfl hF1
end Go.Proofs.YtakkljdeencfbaaDoor
