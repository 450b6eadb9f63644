import Derived.Test.YtlmoaompmiobjaaSl
namespace Go.Proofs.Ytlmoaompmiobjaa
open Go.RowKit

/-- What is wrong with a table of next ones. -/
def rowsErr (n : Nat) : List (List Int) → Option Int
  | [] => none
  | r :: rs => if r.length ≠ n then some 3 else if r.any (fun k => decide (k < -1) || decide ((n : Int) ≤ k)) then some 1 else rowsErr n rs

/-- A parcel's way on from 'cur', as long as there is fuel. -/
def goTr (rs : List (List Int)) (to : Int) : Nat → Int → List Int → Except Int (List Int)
  | 0, cur, acc => if cur = to then .ok acc else if nth (nth rs cur.toNat) to.toNat < 0 then .error 2 else .error 4
  | f + 1, cur, acc => if cur = to then .ok acc else if nth (nth rs cur.toNat) to.toNat < 0 then .error 2 else goTr rs to f (nth (nth rs cur.toNat) to.toNat) (acc ++ [nth (nth rs cur.toNat) to.toNat])

def traceM (rs : List (List Int)) (fr to ttl : Int) : Except Int (List Int) :=
  match rowsErr rs.length rs with
  | some e => .error e
  | none => if fr < 0 ∨ (rs.length : Int) ≤ fr ∨ to < 0 ∨ (rs.length : Int) ≤ to ∨ ttl < 0 ∨ 255 < ttl then .error 1 else goTr rs to ttl.toNat fr [fr]

/-- An error, or a list in new memory. -/
def RetRes (w : World) (r : Except Int (List Int)) (e : Ending) (w' : World) : Prop :=
  match r with
  | .error k => RetV w (.tuple #[.slice none 0 0, errv k]) e w'
  | .ok l => RetNew w 3 1 l.length (ivals .i64 l) (fun v => .tuple #[v, .nilIface]) e w'

theorem RetRes.err {w w' : World} {r : Except Int (List Int)} {k : Int} {e : Ending} (h : r = .error k) (h1 : e = .returned (.tuple #[.slice none 0 0, errv k])) (h2 : Fr (fun _ => False) w w') : RetRes w r e w' := by
  subst h; exact ⟨h1, h2⟩
theorem RetRes.ok {w w' : World} {r : Except Int (List Int)} {l : List Int} {e : Ending} (h : r = .ok l) (h1 : RetNew w 3 1 l.length (ivals .i64 l) (fun v => .tuple #[v, .nilIface]) e w') : RetRes w r e w' := by
  subst h; exact h1

theorem rowsErr_none {n : Nat} {rs : List (List Int)} (h : rowsErr n rs = none) : ∀ r ∈ rs, r.length = n ∧ ∀ k ∈ r, -1 ≤ k ∧ k < n := by
  induction rs with
  | nil => intro r hr; cases hr
  | cons r rs ih =>
    simp only [rowsErr] at h
    by_cases h1 : r.length = n
    · rw [if_neg (by simpa using h1)] at h
      split at h
      · cases h
      · rename_i h2
        intro r' hr'
        rcases List.mem_cons.1 hr' with rfl | hr'
        · refine ⟨h1, fun k hk => ?_⟩
          have h3 : ¬ ∃ x ∈ r', x < -1 ∨ (n : Int) ≤ x := by simpa using h2
          have h4 : ¬ (k < -1 ∨ (n : Int) ≤ k) := fun hc => h3 ⟨k, hk, hc⟩
          omega
        · exact ih h r' hr'
    · rw [if_pos (by simpa using h1)] at h
      cases h
theorem rows_at {n : Nat} {rs : List (List Int)} (h : rowsErr n rs = none) (i : Nat) (hi : i < rs.length) : (nth rs i).length = n ∧ ∀ j, j < n → -1 ≤ nth (nth rs i) j ∧ nth (nth rs i) j < n := by
  obtain ⟨h1, h2⟩ := rowsErr_none h _ (nth_mem rs i hi)
  exact ⟨h1, fun j hj => h2 _ (nth_mem _ j (by omega))⟩

set_option maxRecDepth 100000 in
set_option maxHeartbeats 1000000 in
theorem trace_any (rs : List (List Int)) (a : Option Addr) (c : Nat) (A : Nat → Option Addr) (C : Nat → Nat) (fr to ttl : Int) (w : World) (hM : Mat w.heap a rs A C) (hl : rs.length ≤ 9223372036854775807) :
    Calls Try.prog 11 #[.slice a rs.length c, .int .i64 fr, .int .i64 to, .int .i64 ttl] w (RetRes w (traceM rs fr to ttl)) := by
  go_enter Try.func11, Try.ntmps11
  go_wp2
  go_loop [20] (fun i => ∃ k : Nat, k ≤ rs.length ∧ i = .int .i64 k ∧ Hid (rowsErr rs.length (rs.drop k) = rowsErr rs.length rs)) (fun i => rs.length - (intOf i).toNat)
  case atStart => exact ⟨0, by omega, rfl, rfl⟩
  case round =>
    obtain ⟨k, hk, rfl, hE⟩ := hrel
    by_cases hlt : k < rs.length
    · obtain ⟨b, off, rfl, hb, hc⟩ := hM.pos (by omega)
      have hck := hc w rfl k hlt
      have hlk := hM.lens k hlt
      clear hc
      by_cases hlen : (nth rs k).length = rs.length
      · have hne : (((nth rs k).length : Int) != (rs.length : Int)) = false := by simp [hlen]
        have HL : Hid ((nth rs k).length = rs.length) := Lib.hid hlen
        clear hlen
        go_wp2
        go_loop [31] (fun i => ∃ j : Nat, j ≤ (nth rs k).length ∧ i = .int .i64 j ∧ Hid (((nth rs k).drop j).any (fun k => decide (k < -1) || decide ((rs.length : Int) ≤ k)) = (nth rs k).any (fun k => decide (k < -1) || decide ((rs.length : Int) ≤ k)))) (fun i => (nth rs k).length - (intOf i).toNat)
        case atStart => exact ⟨0, by omega, rfl, rfl⟩
        case round =>
          obtain ⟨j, hj, rfl, hA⟩ := hrel
          by_cases hjl : j < (nth rs k).length
          · obtain ⟨b2, off2, hA2, hb2, hc2⟩ := Ints.pos (hM.row k hlt) (by omega)
            have hcj := hc2 w rfl j hjl
            have hd := drop_nth (nth rs k) j hjl
            have HD := Lib.hid hd
            clear hc2 hd
            by_cases hbad : nth (nth rs k) j < -1 ∨ (rs.length : Int) ≤ nth (nth rs k) j
            · have hX : Hid (traceM rs fr to ttl = .error 1) := by
                have h1 : (nth rs k).any (fun k => decide (k < -1) || decide ((rs.length : Int) ≤ k)) = true := by
                  rw [← hA.out, HD.out]; simp [hbad]
                have : rowsErr rs.length rs = some 1 := by rw [← hE.out, drop_nth rs k hlt]; simp only [rowsErr, HL.out, h1]; simp
                exact (by simp [traceM, this] : traceM rs fr to ttl = .error 1)
              rcases hbad with hbad | hbad
              · go_wp2
                go_ret2
                exact RetRes.err hX.out rfl (Fr.refl _ _)
              · have hb3 : ¬ nth (nth rs k) j < -1 := by omega
                go_wp2
                go_ret2
                exact RetRes.err hX.out rfl (Fr.refl _ _)
            · have g1 : ¬ nth (nth rs k) j < -1 := fun h => hbad (.inl h)
              have g2 : ¬ (rs.length : Int) ≤ nth (nth rs k) j := fun h => hbad (.inr h)
              have hA' : Hid (((nth rs k).drop (j + 1)).any (fun k => decide (k < -1) || decide ((rs.length : Int) ≤ k)) = (nth rs k).any (fun k => decide (k < -1) || decide ((rs.length : Int) ≤ k))) := by
                have h0 := hA.out
                rw [HD.out] at h0
                simp only [List.any_cons, g1, g2, decide_false, Bool.or_self, Bool.false_or] at h0
                exact h0
              clear hbad
              go_wp2
              go_round
              case rel => exact ⟨j + 1, by omega, by go_num, hA'⟩
              case measure => simp [intOf]; omega
          · obtain rfl : j = (nth rs k).length := by omega
            have hE' : Hid (rowsErr rs.length (rs.drop (k + 1)) = rowsErr rs.length rs) := by
              have h1 : (nth rs k).any (fun k => decide (k < -1) || decide ((rs.length : Int) ≤ k)) = false := by
                rw [← hA.out, List.drop_length]; rfl
              have h0 := hE.out
              rw [drop_nth rs k hlt] at h0
              simp only [rowsErr, HL.out, h1] at h0
              exact (by simpa using h0 : rowsErr rs.length (rs.drop (k + 1)) = rowsErr rs.length rs)
            go_wp2
            go_round
            case rel => exact ⟨k + 1, by omega, by go_num, hE'⟩
            case measure => simp [intOf]; omega
      · have hne : (((nth rs k).length : Int) != (rs.length : Int)) = true := by simp; omega
        have hX : Hid (traceM rs fr to ttl = .error 3) := by
          have : rowsErr rs.length rs = some 3 := by rw [← hE.out, drop_nth rs k hlt]; simp [rowsErr, hlen]
          exact (by simp [traceM, this] : traceM rs fr to ttl = .error 3)
        clear hlen
        go_wp2
        go_ret2
        exact RetRes.err hX.out rfl (Fr.refl _ _)
    · obtain rfl : k = rs.length := by omega
      have hN : rowsErr rs.length rs = none := by rw [← hE.out, List.drop_length]; rfl
      by_cases hbad : fr < 0 ∨ (rs.length : Int) ≤ fr ∨ to < 0 ∨ (rs.length : Int) ≤ to ∨ ttl < 0 ∨ 255 < ttl
      · have hX : Hid (traceM rs fr to ttl = .error 1) := (by simp only [traceM, hN]; rw [if_pos hbad] : traceM rs fr to ttl = .error 1)
        clear hN hE
        go_wp2
        all_goals go_ret2
        all_goals exact RetRes.err hX.out rfl (Fr.refl _ _)
      · have hR := rows_at hN
        have hX : Hid (traceM rs fr to ttl = goTr rs to ttl.toNat fr [fr]) := (by simp only [traceM, hN]; rw [if_neg hbad] : traceM rs fr to ttl = goTr rs to ttl.toNat fr [fr])
        clear hN hE
        obtain ⟨b1, b2, b3, b4, b5, b6⟩ : 0 ≤ fr ∧ fr < (rs.length : Int) ∧ 0 ≤ to ∧ to < (rs.length : Int) ∧ 0 ≤ ttl ∧ ttl ≤ 255 := by omega
        clear hbad
        go_wp2
        generalize decide (fr < 0) = z1
        generalize decide ((rs.length : Int) ≤ fr) = z2
        generalize decide (to < 0) = z3
        generalize decide ((rs.length : Int) ≤ to) = z4
        generalize decide (ttl < 0) = z5
        generalize decide (255 < ttl) = z6
        go_loopg [1, 15] (ttl.toNat) (fun f s1 s15 wr => ∃ (cur : Int) (acc : List Int) (a' : Option Addr) (c' : Nat) (ob : Option Nat), s1 = .int .i64 cur ∧ s15 = .slice a' acc.length c' ∧ 0 ≤ cur ∧ cur < (rs.length : Int) ∧ Own wr.heap 3 1 a' acc.length c' (ivals .i64 acc) ob ∧ (∀ g, ob = some g → w.heap.size ≤ g) ∧ Fr (fun _ => False) w wr ∧ acc.length + f = ttl.toNat + 1 ∧ Hid (traceM rs fr to ttl = goTr rs to f cur acc))
        case atStart => exact ⟨fr, [fr], _, _, some w.heap.size, rfl, rfl, b1, b2, Own.made w 3 1 1 [.int .i64 fr] rfl (by decide), fun g h => by cases h; exact Nat.le_refl _, (Fr.refl _ _).alloc _, by simp; omega, hX⟩
        case round =>
          obtain ⟨cur, acc, a', c', ob, rfl, rfl, q1, q2, hO, hob, hF, hlen, hT⟩ := hrel
          obtain ⟨q, rfl⟩ := Int.eq_ofNat_of_zero_le q1
          obtain ⟨t, rfl⟩ := Int.eq_ofNat_of_zero_le b3
          by_cases hct : q = t
          · have hne : ((q : Int) != (t : Int)) = false := by simp [hct]
            have hX2 : Hid (traceM rs fr (t : Int) ttl = .ok acc) := by
              have h0 := hT.out
              have h1 : goTr rs (t : Int) gk (q : Int) acc = .ok acc := by cases gk <;> simp [goTr, hct]
              exact (h0.trans h1 : traceM rs fr (t : Int) ttl = .ok acc)
            clear hct hT
            go_wp2
            go_ret2
            exact RetRes.ok hX2.out ⟨a', c', ob, rfl, hO, hF, hob⟩
          · have hne : ((q : Int) != (t : Int)) = true := by simp; omega
            have hci : ¬ (q : Int) = (t : Int) := by omega
            have hM' := hM.fr hF (fun _ _ h => h)
            obtain ⟨b, off, rfl, hb, hc⟩ := hM'.pos (by omega)
            have hcq := hc wr rfl q (by omega)
            clear hc
            obtain ⟨r1, r2⟩ := hR q (by omega)
            obtain ⟨bb, off2, hA2, hb2, hc2⟩ := Ints.pos (hM'.row q (by omega)) (by omega)
            have hct2 := hc2 wr rfl t (by omega)
            clear hc2
            obtain ⟨r3, r4⟩ := r2 t (by omega)
            have hll := hM.lens q (by omega)
            by_cases hneg : nth (nth rs q) t < 0
            · have hX2 : Hid (traceM rs fr (t : Int) ttl = .error 2) := by
                have h0 := hT.out
                have h1 : goTr rs (t : Int) gk (q : Int) acc = .error 2 := by cases gk <;> simp [goTr, hci, hneg]
                exact (h0.trans h1 : traceM rs fr (t : Int) ttl = .error 2)
              clear hct hci hT r2
              go_wp2
              go_ret2
              exact RetRes.err hX2.out rfl hF
            · cases gk with
              | zero =>
                have hX2 : Hid (traceM rs fr (t : Int) ttl = .error 4) := by
                  have h0 := hT.out
                  have h1 : goTr rs (t : Int) 0 (q : Int) acc = .error 4 := by simp [goTr, hci, hneg]
                  exact (h0.trans h1 : traceM rs fr (t : Int) ttl = .error 4)
                clear hct hci hT r2
                go_wp2
                go_ret2
                exact RetRes.err hX2.out rfl hF
              | succ f =>
                have hX2 : Hid (traceM rs fr (t : Int) ttl = goTr rs (t : Int) f (nth (nth rs q) t) (acc ++ [nth (nth rs q) t])) := by
                  have h0 := hT.out
                  have h1 : goTr rs (t : Int) (f + 1) (q : Int) acc = goTr rs (t : Int) f (nth (nth rs q) t) (acc ++ [nth (nth rs q) t]) := by simp [goTr, hci, hneg]
                  exact (h0.trans h1 : traceM rs fr (t : Int) ttl = _)
                clear hct hci hT r2
                go_wp2_with (at_builtin; refine wpList_app rfl _ _ 28 rfl Try.underlying28 infoInt rfl (by decide) rfl rfl (hO.alloc _) ((Own.made wr 3 1 1 [.int .i64 (nth (nth rs q) t)] rfl (by decide)).rd) (ivals_one .i64 [nth (nth rs q) t]) (by omega) (by omega) ?_)
                intro a2 c2 w2 ob2 z1 z2 z3
                go_wp2
                go_roundg f
                case measure => omega
                case rel =>
                  refine ⟨nth (nth rs q) t, acc ++ [nth (nth rs q) t], a2, c2, ob2, rfl, by simp, by omega, by omega, by simpa using z1, ?_, ?_, by simp; omega, hX2⟩
                  · exact app_new hob z3 (by have := hF.size; simp; omega)
                  · exact Fr.app (hF.alloc _) z2 hob
end Go.Proofs.Ytlmoaompmiobjaa
