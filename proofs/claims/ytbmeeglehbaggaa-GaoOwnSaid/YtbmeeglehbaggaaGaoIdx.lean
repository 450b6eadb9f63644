import Derived.Test.YtbmeeglehbaggaaRecs
import Derived.Test.YtbmeeglehbaggaaSl
namespace Go.Proofs.Ytbmeeglehbaggaa
open Go.RowKit

/-! slices.IndexFunc at []api.Deal (printed by tools/mkdel.py, its first part). -/
/-- The first of which it is so. -/
def ddeal_Idx (w : World) (l : List Lk) (p : Lk → Bool) (e : Ending) (w' : World) : Prop :=
  ∃ i : Int, e = .returned (.int .i64 i) ∧ Fr (fun _ => False) w w' ∧ ((∃ k : Nat, k < l.length ∧ i = k ∧ p (nth l k) = true ∧ ∀ j, j < k → p (nth l j) = false) ∨ (i = -1 ∧ ∀ j, j < l.length → p (nth l j) = false))
set_option maxRecDepth 100000 in
set_option maxHeartbeats 1000000 in
theorem ddeal_idx {n : Nat} (l : List Lk) (p : Lk → Bool) (a : Option Addr) (c : Nat) (b6 : Nat) (w : World) (hL : Recs w.heap a 3 Lk.cells l) (hn : l.length = n) (hl : n ≤ 9223372036854775806)
    (hp : ∀ (x : Lk), x ∈ l → ∀ (w' : World), Fr (fun _ => False) w w' → Calls Try.prog 68 #[.agg #[.int .i64 x.a, .int .i64 x.b, .int .i64 x.c], .pointer (some ⟨b6, 0, none⟩)] w' (RetV w' (.bool (p x)))) :
    Calls Try.prog 86 #[.slice a n c, .func (.func 68) #[] #[.pointer (some ⟨b6, 0, none⟩)]] w (ddeal_Idx w l p) := by
  have HN := Lib.hid hn
  have HP := Lib.hid hp
  clear hn hp
  go_enter Try.func86, Try.ntmps86
  go_wp2
  go_loopw [8] (fun s8 wr => ∃ (k : Nat), k ≤ n ∧ s8 = .int .i64 k ∧ Fr (fun _ => False) w wr ∧ Hid (∀ j, j < k → p (nth l j) = false)) (fun s _ => n - (intOf s).toNat)
  case atStart => exact ⟨0, by omega, rfl, Fr.refl _ _, Lib.hid (fun j hj => absurd hj (Nat.not_lt_zero _))⟩
  case round =>
    obtain ⟨k, hk, rfl, hF, hE⟩ := hrel
    by_cases hkl : k < n
    · have hkl' : k < l.length := by rw [HN.out]; exact hkl
      obtain ⟨b, off, rfl, hbb, hc⟩ := Recs.pos hL Lk.cells_len (by omega) (by omega)
      have dd := fun (j : Nat) (hj : j < 3) => (hF.cell (p := ⟨b, off + (k * 3 + j), none⟩) hbb (fun h => h)).trans (hc w rfl k j hkl' hj)
      have d0 := dd 0 (by omega)
      have d1 := dd 1 (by omega)
      have d2 := dd 2 (by omega)
      obtain ⟨x, hx⟩ : ∃ x, x = nth l k := ⟨_, rfl⟩
      rw [← hx] at d0 d1 d2
      obtain ⟨xa, xb, xc⟩ := x
      simp only [Lk.cells, List.getElem?_cons_zero, List.getElem?_cons_succ, ← Nat.add_assoc, Nat.add_zero] at d0 d1 d2
      have HX := Lib.hid hx
      clear hc hx dd hkl'
      go_wp2_with (fail)
      refine (HP.out ⟨xa, xb, xc⟩ (by rw [HX.out]; exact nth_mem l k (by rw [HN.out]; exact hkl)) wr hF).mono ?_
      rintro e1 w1 ⟨rfl, hF1⟩
      cases hpx : p ⟨xa, xb, xc⟩ with
      | false =>
        have HPX := Lib.hid hpx
        clear hpx
        go_wp2
        go_roundw
        case rel => exact ⟨k + 1, by omega, by go_num, hF.trans hF1, Lib.hid (fun j hj => by
          rcases Nat.lt_succ_iff_lt_or_eq.1 hj with h | h
          · exact hE.out j h
          · subst h; rw [← HX.out]; exact HPX.out)⟩
        case measure => simp [intOf]; omega
      | true =>
        have HPX := Lib.hid hpx
        clear hpx
        go_wp2
        go_ret
        exact ⟨k, rfl, hF.trans hF1, .inl ⟨k, by rw [HN.out]; exact hkl, rfl, by rw [← HX.out]; exact HPX.out, hE.out⟩⟩
    · obtain rfl : k = n := by omega
      go_wp2
      go_ret
      exact ⟨-1, rfl, hF, .inr ⟨rfl, fun j hj => hE.out j (by rw [← HN.out]; exact hj)⟩⟩
end Go.Proofs.Ytbmeeglehbaggaa
