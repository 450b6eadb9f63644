import Derived.Test.YtgfbkebbnfcgkaaRibW2
namespace Go.Proofs.Ytgfbkebbnfcgkaa
open Go.RowKit

def idxI (l : List Td) (f a n : Int) : Int := if rIdx l f a n < l.length then rIdx l f a n else -1
set_option maxRecDepth 100000 in
set_option maxHeartbeats 1000000 in
theorem idxf_any (l : List Td) (ad : Option Addr) (c : Nat) (f a n : Int) (b6 b7 : Nat) (w : World) (hL : Recs w.heap ad 5 Td.cells l) (hl : l.length ≤ 64) (h6 : w.cell? ⟨b6, 0, none⟩ = some (.int .i64 f)) (h7 : w.cell? ⟨b7, 0, none⟩ = some (.int .u32 a)) (h8 : w.cell? ⟨b7, 1, none⟩ = some (.int .i64 n)) (l6 : b6 < w.heap.size) (l7 : b7 < w.heap.size) :
    Calls Try.prog 51 #[.slice ad l.length c, .func (.func 52) #[] #[.pointer (some ⟨b6, 0, none⟩), .pointer (some ⟨b7, 0, none⟩)]] w (RetV w (.int .i64 (idxI l f a n))) := by
  go_enter Try.func51, Try.ntmps51
  go_wp2
  go_loopw [8] (fun s8 wr => ∃ (k : Nat), k ≤ l.length ∧ s8 = .int .i64 k ∧ Fr (fun _ => False) w wr ∧ Hid (∀ j, j < k → tdAhead (nth l j) f a n)) (fun s _ => l.length - (intOf s).toNat)
  case atStart => exact ⟨0, by omega, rfl, Fr.refl _ _, Lib.hid (fun j hj => absurd hj (Nat.not_lt_zero _))⟩
  case round =>
    obtain ⟨k, hk, rfl, hF, hE⟩ := hrel
    by_cases hkl : k < l.length
    · obtain ⟨b, off, rfl, hbb, hc⟩ := Recs.pos hL Td.cells_len (by omega) (by omega)
      have d0 := (hF.cell (p := ⟨b, off + (k * 5 + 0), none⟩) hbb (fun h => h)).trans (hc w rfl k 0 hkl (by omega))
      have d1 := (hF.cell (p := ⟨b, off + (k * 5 + 1), none⟩) hbb (fun h => h)).trans (hc w rfl k 1 hkl (by omega))
      have d2 := (hF.cell (p := ⟨b, off + (k * 5 + 2), none⟩) hbb (fun h => h)).trans (hc w rfl k 2 hkl (by omega))
      have d3 := (hF.cell (p := ⟨b, off + (k * 5 + 3), none⟩) hbb (fun h => h)).trans (hc w rfl k 3 hkl (by omega))
      have d4 := (hF.cell (p := ⟨b, off + (k * 5 + 4), none⟩) hbb (fun h => h)).trans (hc w rfl k 4 hkl (by omega))
      have g6 := (hF.cell (p := ⟨b6, 0, none⟩) l6 (fun h => h)).trans h6
      have g7 := (hF.cell (p := ⟨b7, 0, none⟩) l7 (fun h => h)).trans h7
      have g8 := (hF.cell (p := ⟨b7, 1, none⟩) l7 (fun h => h)).trans h8
      have l6' := Nat.lt_of_lt_of_le l6 hF.size
      have l7' := Nat.lt_of_lt_of_le l7 hF.size
      obtain ⟨x, hx⟩ : ∃ x, x = nth l k := ⟨_, rfl⟩
      rw [← hx] at d0 d1 d2 d3 d4
      simp only [Td.cells, List.getElem?_cons_zero, List.getElem?_cons_succ, ← Nat.add_assoc, Nat.add_zero] at d0 d1 d2 d3 d4
      have HX := Lib.hid hx
      clear hc hx
      cases hah : aheadB x f a n with
      | true =>
        have HA := Lib.hid (show tdAhead x f a n from of_decide_eq_true hah)
        go_wp2_with (go_at_call 52; refine (learn1_any x f a n b6 b7 _ g6 g7 g8 l6' l7').mono ?_)
        intro e1 w1 R1
        rw [hah] at R1
        obtain ⟨rfl, hF1⟩ := R1
        clear hah
        go_wp2
        go_roundw
        case rel => exact ⟨k + 1, by omega, by go_num, hF.trans hF1, Lib.hid (fun j hj => by
          rcases Nat.lt_succ_iff_lt_or_eq.1 hj with h | h
          · exact hE.out j h
          · subst h; rw [← HX.out]; exact HA.out)⟩
        case measure => simp [intOf]; omega
      | false =>
        have HA := Lib.hid (show rIdx l f a n = k from rIdx_unique l f a n k (by omega) hE.out (fun _ => by rw [← HX.out]; exact of_decide_eq_false hah))
        go_wp2_with (go_at_call 52; refine (learn1_any x f a n b6 b7 _ g6 g7 g8 l6' l7').mono ?_)
        intro e1 w1 R1
        rw [hah] at R1
        obtain ⟨rfl, hF1⟩ := R1
        clear hah
        go_wp2
        go_ret
        exact RetV.mk (x := .int .i64 k) (by unfold idxI; rw [HA.out, if_pos hkl]) rfl (hF.trans hF1)
    · obtain rfl : k = l.length := by omega
      have HA := Lib.hid (show rIdx l f a n = l.length from rIdx_unique l f a n _ (by omega) hE.out (fun h => absurd h (by omega)))
      go_wp2
      go_ret
      exact RetV.mk (x := .int .i64 (-1)) (by unfold idxI; rw [HA.out, if_neg (by omega)]) rfl hF
end Go.Proofs.Ytgfbkebbnfcgkaa
