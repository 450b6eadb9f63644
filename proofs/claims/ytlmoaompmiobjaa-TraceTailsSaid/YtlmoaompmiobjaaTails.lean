import Derived.Test.YtlmoaompmiobjaaTrace
import Derived.Test.YtlmoaompmiobjaaSame
namespace Go.Proofs.Ytlmoaompmiobjaa
open Go.RowKit

theorem goTr_pre (rs : List (List Int)) (to : Int) : ∀ (f : Nat) (cur : Int) (pre acc : List Int), goTr rs to f cur (pre ++ acc) = (goTr rs to f cur acc).map (pre ++ ·) := by
  intro f
  induction f with
  | zero => intro cur pre acc; simp only [goTr]; split <;> (try split) <;> rfl
  | succ f ih =>
    intro cur pre acc
    simp only [goTr]
    split
    · rfl
    · split
      · rfl
      · rw [List.append_assoc]; exact ih _ _ _

theorem goTr_tail (rs : List (List Int)) (to : Int) (hR : rowsErr rs.length rs = none) (b3 : 0 ≤ to) (b4 : to < rs.length) : ∀ (f : Nat) (cur : Int) (l : List Int), 0 ≤ cur → cur < rs.length → goTr rs to f cur [cur] = .ok l →
    ∀ k, k < l.length → k ≤ f ∧ 0 ≤ nth l k ∧ nth l k < rs.length ∧ goTr rs to (f - k) (nth l k) [nth l k] = .ok (l.drop k) := by
  intro f
  induction f with
  | zero =>
    intro cur l h0 h1 h k hk
    have hh := h
    simp only [goTr] at h
    split at h
    · cases h
      have : k = 0 := by simpa using hk
      subst this
      exact ⟨Nat.le_refl _, h0, h1, hh⟩
    · split at h <;> cases h
  | succ f ih =>
    intro cur l h0 h1 h k hk
    have hh := h
    simp only [goTr] at h
    split at h
    · cases h
      have : k = 0 := by simpa using hk
      subst this
      exact ⟨Nat.zero_le _, h0, h1, hh⟩
    · rename_i hct
      split at h
      · cases h
      · rename_i hneg
        rw [goTr_pre] at h
        obtain ⟨r1, r2⟩ := rows_at hR cur.toNat (by omega)
        obtain ⟨r3, r4⟩ := r2 to.toNat (by omega)
        cases hg : goTr rs to f (nth (nth rs cur.toNat) to.toNat) [nth (nth rs cur.toNat) to.toNat] with
        | error e => rw [hg] at h; cases h
        | ok l' =>
          rw [hg] at h
          cases h
          cases k with
          | zero => exact ⟨Nat.zero_le _, h0, h1, hh⟩
          | succ k =>
            obtain ⟨q1, q2, q3, q4⟩ := ih _ l' (by omega) r4 hg k (by simpa using hk)
            refine ⟨by omega, ?_, ?_, ?_⟩
            · exact q2
            · exact q3
            · rw [Nat.add_sub_add_right]; exact q4

theorem traceM_tail {rs : List (List Int)} {fr to ttl : Int} {l : List Int} (h : traceM rs fr to ttl = .ok l) (k : Nat) (hk : k < l.length) : traceM rs (nth l k) to (ttl - k) = .ok (l.drop k) ∧ 0 ≤ ttl ∧ ttl ≤ 255 ∧ k ≤ ttl := by
  unfold traceM at h ⊢
  cases hR : rowsErr rs.length rs with
  | some e => rw [hR] at h; cases h
  | none =>
    rw [hR] at h
    simp only at h ⊢
    split at h
    · cases h
    · rename_i hb
      obtain ⟨q1, q2, q3, q4⟩ := goTr_tail rs to hR (by omega) (by omega) ttl.toNat fr l (by omega) (by omega) h k hk
      rw [if_neg (by omega)]
      refine ⟨?_, by omega, by omega, by omega⟩
      have : (ttl - k).toNat = ttl.toNat - k := by omega
      rw [this]
      exact q4

set_option maxRecDepth 100000 in
set_option maxHeartbeats 1000000 in
theorem tails_any (rs : List (List Int)) (a : Option Addr) (c : Nat) (A : Nat → Option Addr) (C : Nat → Nat) (fr to ttl k : Int) (w : World) (hM : Mat w.heap a rs A C) (hl : rs.length ≤ 9223372036854775807) :
    Calls Try.prog 4 #[.slice a rs.length c, .int .i64 fr, .int .i64 to, .int .i64 ttl, .int .i64 k] w (RetV w (.bool true)) := by
  go_enter Try.func4, Try.ntmps4
  go_wp2_with (go_at_call 11; refine (trace_any [[0]] _ 1 _ _ 0 0 0 _ (Mat.one w 0 _ _) (by simp)).mono ?_)
  intro e1 w1 R1
  obtain ⟨a1, c1, ob1, rfl, hO1, hF1, hN1⟩ : RetNew _ 3 1 1 (ivals .i64 [0]) (fun v => .tuple #[v, .nilIface]) e1 w1 := R1
  have hFw : Fr (fun _ => False) w w1 := (((Fr.refl _ w).alloc _).alloc _).trans hF1
  clear hO1 hF1 hN1
  go_wp2_with (go_at_call 11; refine (trace_any rs a c A C fr to ttl _ (hM.fr hFw (fun _ _ h => h)) hl).mono ?_)
  intro e2 w2 R2
  cases hT : traceM rs fr to ttl with
  | error e =>
    rw [hT] at R2
    obtain ⟨rfl, hF2⟩ := R2
    clear hT
    go_wp2
    go_ret
    exact RetV.mk rfl rfl (hFw.trans hF2)
  | ok l =>
    rw [hT] at R2
    obtain ⟨a2, c2, ob2, rfl, hO2, hF2, hN2⟩ := R2
    have hle := hO2.le
    have hFw2 := hFw.trans hF2
    by_cases hk : k < 0 ∨ (l.length : Int) ≤ k
    · clear hT
      go_wp2
      all_goals go_ret
      all_goals exact RetV.mk rfl rfl hFw2
    · have hk0 : 0 ≤ k := by omega
      obtain ⟨k, rfl⟩ := Int.eq_ofNat_of_zero_le hk0
      have hkl : k < l.length := by omega
      clear hk
      obtain ⟨t1, t2, t3, t4⟩ := traceM_tail hT k hkl
      have HT := Lib.hid t1
      clear hT t1
      obtain ⟨g, rfl, rfl, hg, hc, hfz⟩ := hO2.pos (by omega)
      have hrd : Ints w2.heap (some ⟨g, k, none⟩) (l.drop k) := by have := Ints.drop hO2.rd k; rwa [Nat.zero_add] at this
      have hck := (hc k (by omega)).trans (ivals_get .i64 l k hkl)
      clear hc hfz
      go_wp2_with (go_at_call 11; refine (trace_any rs a c A C (nth l k) to (ttl - k) _ (hM.fr hFw2 (fun _ _ h => h)) hl).mono ?_)
      intro e3 w3 R3
      rw [HT.out] at R3
      obtain ⟨a3, c3, ob3, rfl, hO3, hF3, hN3⟩ := R3
      have hle3 := hO3.le
      have hFw3 := hFw2.trans hF3
      have hrd3 := hrd.fr0 hF3 (fun _ _ h => h)
      have hcap := hO2.cap
      have hcap2 : ¬ c2 = k := by omega
      have hlen : (l.drop k).length = l.length - k := List.length_drop
      go_wp2_with (go_at_call 12; refine (ints_any' (l.drop k) (l.drop k) a3 (some ⟨g, k, none⟩) c3 (c2 - k) w3 hO3.rd hrd3 hle3 hle3 hlen.symm hlen.symm).mono ?_)
      rintro e4 w4 ⟨rfl, n4, rfl⟩
      go_wp2
      go_ret
      exact RetV.mk rfl rfl (hFw3.drewN n4)
end Go.Proofs.Ytlmoaompmiobjaa
