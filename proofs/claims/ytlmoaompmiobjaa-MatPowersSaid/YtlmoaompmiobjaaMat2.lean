import Derived.Test.YtlmoaompmiobjaaConcat
import Derived.Test.YtlmoaompmiobjaaMat1
namespace Go.Proofs.Ytlmoaompmiobjaa
open Go.RowKit

def errOpt : Option Int → Value
  | none => .nilIface
  | some k => errv k
/-- A table: 1 to 8 rows, as long as there are rows, distances 0 to 16. -/
structure Tab (n : Nat) (rs : List (List Int)) : Prop where
  len : rs.length = n
  n1 : 1 ≤ n
  n8 : n ≤ 8
  rows : ∀ i, i < n → (nth rs i).length = n
  dist : ∀ i k, i < n → k < n → 0 ≤ nth (nth rs i) k ∧ nth (nth rs i) k ≤ 16
noncomputable def matErr (rs : List (List Int)) : Option Int :=
  open Classical in
  if rs.length < 1 ∨ 8 < rs.length then some 3 else if ∃ r ∈ rs, r.length ≠ rs.length then some 3 else if ∃ d ∈ rs.flatten, d < 0 ∨ 16 < d then some 1 else none
theorem matErr_none {rs : List (List Int)} : matErr rs = none ↔ Tab rs.length rs := by
  unfold matErr
  constructor
  · intro h
    split at h
    · cases h
    · split at h
      · cases h
      · split at h
        · cases h
        · rename_i h1 h2 h3
          have h4 : ∀ i, i < rs.length → (nth rs i).length = rs.length := fun i hi => Classical.byContradiction fun hc => h2 ⟨_, nth_mem rs i hi, hc⟩
          refine ⟨rfl, by omega, by omega, h4, fun i k hi hk => ?_⟩
          have : nth (nth rs i) k ∈ rs.flatten := List.mem_flatten.2 ⟨_, nth_mem rs i hi, nth_mem _ k (by rw [h4 i hi]; exact hk)⟩
          have : ¬ (nth (nth rs i) k < 0 ∨ 16 < nth (nth rs i) k) := fun hc => h3 ⟨_, this, hc⟩
          omega
  · intro h
    have h1 := h.n1
    have h8 := h.n8
    rw [if_neg (by omega), if_neg, if_neg]
    · rintro ⟨d, hd, hc⟩
      obtain ⟨r, hr, hd⟩ := List.mem_flatten.1 hd
      obtain ⟨i, hi, rfl⟩ := List.mem_iff_getElem.1 hr
      obtain ⟨k, hk, rfl⟩ := List.mem_iff_getElem.1 hd
      have h2 := h.rows i hi
      rw [nth_eq rs i hi] at h2
      have := h.dist i k hi (by omega)
      rw [nth_eq rs i hi, nth_eq _ k hk] at this
      omega
    · rintro ⟨r, hr, hc⟩
      obtain ⟨i, hi, rfl⟩ := List.mem_iff_getElem.1 hr
      have h2 := h.rows i hi
      rw [nth_eq rs i hi] at h2
      exact hc h2

theorem lens_eq (n : Nat) (rs : List (List Int)) (h : ∀ r ∈ rs, r.length = n) : lens rs = rs.length * n := by
  induction rs with
  | nil => simp [lens]
  | cons r rs ih =>
    have h1 := ih (fun x hx => h x (by simp [hx]))
    have h2 := h r (by simp)
    simp only [lens, List.length_cons, h1, h2, Nat.add_mul]
    omega

set_option maxRecDepth 100000 in
set_option maxHeartbeats 1000000 in
theorem check_any (rs : List (List Int)) (a : Option Addr) (c : Nat) (A : Nat → Option Addr) (C : Nat → Nat) (w : World) (hM : Mat w.heap a rs A C) (hl : rs.length ≤ 9223372036854775807) :
    Calls Try.prog 18 #[.slice a rs.length c] w (RetV w (errOpt (matErr rs))) := by
  go_enter Try.func18, Try.ntmps18
  by_cases hb : rs.length < 1 ∨ 8 < rs.length
  · have hX := Lib.hid (show matErr rs = some 3 from if_pos hb)
    have hbi : (rs.length : Int) < 1 ∨ 8 < (rs.length : Int) := by omega
    clear hb
    go_wp2
    all_goals go_ret
    all_goals exact RetV.mk (x := errv 3) (by rw [hX.out]; rfl) rfl (Fr.refl _ _)
  · have HB := Lib.hid hb
    have h1 : 1 ≤ rs.length := by omega
    have h8 : rs.length ≤ 8 := by omega
    clear hb
    go_wp2
    go_loop [19] (fun i => ∃ k : Nat, k ≤ rs.length ∧ i = .int .i64 k ∧ Hid (∀ r ∈ rs.take k, r.length = rs.length)) (fun i => rs.length - (intOf i).toNat)
    case atStart => exact ⟨0, by omega, rfl, fun r hr => by simp at hr⟩
    case round =>
      obtain ⟨k, hk, rfl, hE⟩ := hrel
      by_cases hlt : k < rs.length
      · obtain ⟨b, off, rfl, hb, hc⟩ := hM.pos (by omega)
        have hck := hc w rfl k hlt
        have hlk := hM.lens k hlt
        clear hc
        by_cases hlen : (nth rs k).length = rs.length
        · have hne : (((nth rs k).length : Int) != (rs.length : Int)) = false := by simp [hlen]
          have hE' : Hid (∀ r ∈ rs.take (k + 1), r.length = rs.length) := (fun r hr => by
            rw [take_succ_nth rs k hlt] at hr
            rcases List.mem_append.1 hr with hr | hr
            · exact hE.out r hr
            · simp at hr; rw [hr]; exact hlen : ∀ r ∈ rs.take (k + 1), r.length = rs.length)
          clear hlen
          go_wp2
          go_round
          case rel => exact ⟨k + 1, by omega, by go_num, hE'⟩
          case measure => simp [intOf]; omega
        · have hne : (((nth rs k).length : Int) != (rs.length : Int)) = true := by simp; omega
          have hX := Lib.hid (show matErr rs = some 3 by unfold matErr; rw [if_neg HB.out, if_pos ⟨_, nth_mem rs k hlt, hlen⟩])
          clear hlen
          go_wp2
          go_ret
          exact RetV.mk (x := errv 3) (by rw [hX.out]; rfl) rfl (Fr.refl _ _)
      · obtain rfl : k = rs.length := by omega
        have hrows : ∀ r ∈ rs, r.length = rs.length := by have := hE.out; rwa [List.take_length] at this
        have hln : lens rs ≤ 64 := by rw [lens_eq _ rs hrows]; exact Nat.mul_le_mul h8 h8
        have HR := Lib.hid hrows
        clear hrows
        have hC := fun (c : Nat) (hM : Mat w.heap a rs A C) => concat_any rs a c A C w hM (by omega) (by omega)
        generalize hq : rs.flatten = q at hC
        have HQ := Lib.hid hq
        clear hq
        go_wp2_with (go_at_call 27; refine (hC c hM).mono ?_)
        intro e1 w1 R1
        obtain ⟨a1, c1, ob1, rfl, hO1, hF1, hN1⟩ := R1
        have hle := hO1.le
        go_wp2
        go_loopw [33] (fun i wr => ∃ k : Nat, k ≤ q.length ∧ i = .int .i64 k ∧ Fr (fun _ => False) w1 wr ∧ Hid (∀ d ∈ q.take k, ¬ (d < 0 ∨ 16 < d))) (fun i _ => q.length - (intOf i).toNat)
        case atStart => exact ⟨0, by omega, rfl, Fr.refl _ _, fun r hr => by simp at hr⟩
        case round =>
          obtain ⟨k, hk, rfl, hF, hE2⟩ := hrel
          by_cases hlt : k < q.length
          · obtain ⟨b, off, rfl, hb, hc⟩ := Ints.pos (hO1.rd.fr0 hF (fun _ _ h => h)) (by omega)
            have hck := hc wr rfl k hlt
            clear hc
            have hdv : distV (nth q k) = (if nth q k < 0 ∨ 16 < nth q k then errv 1 else .nilIface) := rfl
            by_cases hbad : nth q k < 0 ∨ 16 < nth q k
            · rw [if_pos hbad] at hdv
              have hX := Lib.hid (show matErr rs = some 1 by
                unfold matErr
                rw [if_neg HB.out, if_neg (fun ⟨r, hr, hc⟩ => hc (HR.out r hr)), if_pos ⟨_, by rw [HQ.out]; exact nth_mem q k hlt, hbad⟩])
              clear hbad
              go_wp2_with (go_at_call 28; refine (dist_any _ _).mono ?_)
              intro e2 w2 R2
              obtain ⟨rfl, hF2⟩ := R2
              rw [hdv]
              clear hdv
              go_wp2
              go_ret
              exact RetV.mk (x := errv 1) (by rw [hX.out]; rfl) rfl ((hF1.trans hF).trans hF2)
            · rw [if_neg hbad] at hdv
              have hE' : Hid (∀ d ∈ q.take (k + 1), ¬ (d < 0 ∨ 16 < d)) := (fun r hr => by
                rw [take_succ_nth q k hlt] at hr
                rcases List.mem_append.1 hr with hr | hr
                · exact hE2.out r hr
                · simp at hr; rw [hr]; exact hbad : ∀ d ∈ q.take (k + 1), ¬ (d < 0 ∨ 16 < d))
              clear hbad
              go_wp2_with (go_at_call 28; refine (dist_any _ _).mono ?_)
              intro e2 w2 R2
              obtain ⟨rfl, hF2⟩ := R2
              rw [hdv]
              clear hdv
              go_wp2
              go_roundw
              case rel => exact ⟨k + 1, by omega, by go_num, hF.trans hF2, hE'⟩
              case measure => simp [intOf]; omega
          · obtain rfl : k = q.length := by omega
            have hX := Lib.hid (show matErr rs = none by
              unfold matErr
              rw [if_neg HB.out, if_neg (fun ⟨r, hr, hc⟩ => hc (HR.out r hr)), if_neg]
              rintro ⟨d, hd, hc⟩
              rw [HQ.out] at hd
              have := hE2.out d (by rw [List.take_length]; exact hd)
              exact this hc)
            go_wp2
            go_ret
            exact RetV.mk (x := .nilIface) (by rw [hX.out]; rfl) rfl (hF1.trans hF)
end Go.Proofs.Ytlmoaompmiobjaa
