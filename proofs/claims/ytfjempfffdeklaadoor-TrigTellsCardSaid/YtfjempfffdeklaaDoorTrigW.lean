import Derived.Test.YtfjempfffdeklaaDoorTrigMath
import Derived.Test.YtfjempfffdeklaaDoorNetW
import Derived.Test.YtfjempfffdeklaaDoorInsNet
namespace Go.Proofs.YtfjempfffdeklaaDoor
open Go.RowKit

/-- News in memory. -/
def IsTrig (H : Array Obj) (bt : Nat) (hold now last : Int) (l : List Nt) (ob : Option Nat) : Prop :=
  ∃ a c, Blk H bt 175 [.int .i64 hold, .int .i64 now, .int .i64 last, .slice a l.length c] ∧ Own H 37 2 a l.length c (l.flatMap Nt.cells) ob ∧ ob ≠ some bt
theorem IsTrig.fr {w w' : World} {S : Nat → Prop} {bt : Nat} {hold now last : Int} {l : List Nt} {ob : Option Nat} (h : IsTrig w.heap bt hold now last l ob) (f : Fr S w w') (hs : ∀ k, S k → k ≠ bt ∧ ob ≠ some k) : IsTrig w'.heap bt hold now last l ob := by
  obtain ⟨a, c, h1, h2, h3⟩ := h
  exact ⟨a, c, h1.fr f (fun hb => (hs _ hb).1 rfl), h2.fr f (fun g hg hS => (hs g hS).2 hg), h3⟩
theorem IsTrig.fr0 {w w' : World} {bt : Nat} {hold now last : Int} {l : List Nt} {ob : Option Nat} (h : IsTrig w.heap bt hold now last l ob) (f : Fr (fun _ => False) w w') : IsTrig w'.heap bt hold now last l ob := h.fr f (fun _ h => h.elim)
theorem IsTrig.new (w : World) (hold : Int) : IsTrig (w.alloc (.cells #[.int .i64 hold, .int .i64 0, .int .i64 (-1), .slice none 0 0] 175)).heap w.heap.size hold 0 (-1) [] none :=
  ⟨none, 0, Blk.made w 175 [.int .i64 hold, .int .i64 0, .int .i64 (-1), .slice none 0 0], Own.nil _ _ _, fun h => nomatch h⟩

set_option maxRecDepth 100000 in
set_option maxHeartbeats 1000000 in
theorem trigNew_ok (hold : Int) (w : World) (h : 0 ≤ hold ∧ hold ≤ 1000) : Calls Tryd.prog 54 #[.int .i64 hold] w (fun e w' => e = .returned (.tuple #[.pointer (some ⟨w.heap.size, 0, none⟩), .nilIface]) ∧ w' = w.alloc (.cells #[.int .i64 hold, .int .i64 0, .int .i64 (-1), .slice none 0 0] 175)) := by
  go_enter Tryd.func54, Tryd.ntmps54
  go_wp2
  go_ret2
  exact ⟨rfl, rfl⟩
set_option maxRecDepth 100000 in
set_option maxHeartbeats 1000000 in
theorem trigNew_bad (hold : Int) (w : World) (h : hold < 0 ∨ 1000 < hold) : Calls Tryd.prog 54 #[.int .i64 hold] w (fun e w' => e = .returned (.tuple #[.pointer none, errv 1]) ∧ w = w') := by
  go_enter Tryd.func54, Tryd.ntmps54
  go_wp2
  all_goals go_ret2
  all_goals exact ⟨rfl, rfl⟩

set_option maxRecDepth 100000 in
set_option maxHeartbeats 1000000 in
theorem trigCheck_any {bt : Nat} {hold now0 last : Int} {l : List Nt} {ob : Option Nat} (w : World) (hR : IsTrig w.heap bt hold now0 last l ob) (now : Int) : Calls Tryd.prog 101 #[.pointer (some ⟨bt, 0, none⟩), .int .i64 now] w (RetS w (errO (tkO now0 now))) := by
  obtain ⟨a, c, h1, h2, h3⟩ := hR
  have c1 := h1.cell 1
  simp only [List.getElem?_cons_succ, List.getElem?_cons_zero] at c1
  go_enter Tryd.func101, Tryd.ntmps101
  by_cases hc : tkErr now0 now
  · have hX := Lib.hid (show tkO now0 now = some 1 from if_pos hc)
    have hc2 : now < now0 ∨ 1099511627776 < now := hc
    clear hc
    go_wp2
    all_goals go_ret
    all_goals exact RetS.mk (x := errv 1) (by rw [hX.out]; rfl) rfl rfl
  · have hX := Lib.hid (show tkO now0 now = none from if_neg hc)
    have hc2 : ¬ (now < now0 ∨ 1099511627776 < now) := hc
    clear hc
    go_wp2
    all_goals go_ret
    all_goals exact RetS.mk (x := .nilIface) (by rw [hX.out]; rfl) rfl rfl

set_option maxRecDepth 100000 in
set_option maxHeartbeats 1000000 in
theorem note1_any (y x : Nt) (b4 : Nat) (w : World) (h7 : w.cell? ⟨b4, 0, none⟩ = some (.int .u32 x.a)) (h8 : w.cell? ⟨b4, 1, none⟩ = some (.int .i64 x.n)) (l7 : b4 < w.heap.size) :
    Calls Tryd.prog 103 #[.agg #[.int .u32 y.a, .int .i64 y.n], .pointer (some ⟨b4, 0, none⟩)] w (RetV w (.bool (!lessB y.a y.n x.a x.n))) := by
  go_enter Tryd.func103, Tryd.ntmps103
  go_wp2_with (go_at_call 104; refine (less_any _ _ _ _ _).mono ?_)
  intro e1 w1 R1
  obtain ⟨rfl, hF1⟩ := R1
  go_wp2
  go_ret
  exact RetV.mk (x := .bool (!lessB y.a y.n x.a x.n)) rfl rfl (((Fr.refl _ _).alloc _).trans hF1)

def nIdxI (l : List Nt) (x : Nt) : Int := if nIdx l x < l.length then nIdx l x else -1
set_option maxRecDepth 100000 in
set_option maxHeartbeats 1000000 in
theorem nidxf_any (l : List Nt) (ad : Option Addr) (c : Nat) (x : Nt) (b4 : Nat) (w : World) (hL : Recs w.heap ad 2 Nt.cells l) (hl : l.length ≤ 64) (h7 : w.cell? ⟨b4, 0, none⟩ = some (.int .u32 x.a)) (h8 : w.cell? ⟨b4, 1, none⟩ = some (.int .i64 x.n)) (l7 : b4 < w.heap.size) :
    Calls Tryd.prog 102 #[.slice ad l.length c, .func (.func 103) #[] #[.pointer (some ⟨b4, 0, none⟩)]] w (RetV w (.int .i64 (nIdxI l x))) := by
  go_enter Tryd.func102, Tryd.ntmps102
  go_wp2
  go_loopw [8] (fun s8 wr => ∃ (k : Nat), k ≤ l.length ∧ s8 = .int .i64 k ∧ Fr (fun _ => False) w wr ∧ Hid (∀ j, j < k → ntLt (nth l j) x)) (fun s _ => l.length - (intOf s).toNat)
  case atStart => exact ⟨0, by omega, rfl, Fr.refl _ _, Lib.hid (fun j hj => absurd hj (Nat.not_lt_zero _))⟩
  case round =>
    obtain ⟨k, hk, rfl, hF, hE⟩ := hrel
    by_cases hkl : k < l.length
    · obtain ⟨b, off, rfl, hbb, hc⟩ := Recs.pos hL Nt.cells_len (by omega) (by omega)
      have d0 := (hF.cell (p := ⟨b, off + (k * 2 + 0), none⟩) hbb (fun h => h)).trans (hc w rfl k 0 hkl (by omega))
      have d1 := (hF.cell (p := ⟨b, off + (k * 2 + 1), none⟩) hbb (fun h => h)).trans (hc w rfl k 1 hkl (by omega))
      have g7 := (hF.cell (p := ⟨b4, 0, none⟩) l7 (fun h => h)).trans h7
      have g8 := (hF.cell (p := ⟨b4, 1, none⟩) l7 (fun h => h)).trans h8
      have l7' := Nat.lt_of_lt_of_le l7 hF.size
      obtain ⟨y, hy⟩ : ∃ y, y = nth l k := ⟨_, rfl⟩
      rw [← hy] at d0 d1
      simp only [Nt.cells, List.getElem?_cons_zero, List.getElem?_cons_succ, ← Nat.add_assoc, Nat.add_zero] at d0 d1
      have HX := Lib.hid hy
      clear hc hy
      cases hah : lessB y.a y.n x.a x.n with
      | true =>
        have HA := Lib.hid (show ntLt y x from of_decide_eq_true hah)
        go_wp2_with (go_at_call 103; refine (note1_any y x b4 _ g7 g8 l7').mono ?_)
        intro e1 w1 R1
        rw [hah] at R1
        obtain ⟨rfl, hF1⟩ := R1
        clear hah
        go_wp2
        go_roundw
        case rel => exact ⟨k + 1, by omega, by go_num, hF.trans hF1, Lib.hid (fun j hj => by
          rcases Nat.lt_succ_iff_lt_or_eq.1 hj with h | h
          · exact hE.out j h
          · subst h; rw [← HX.out]; exact HA.out)⟩
        case measure => simp [intOf]; omega
      | false =>
        have HA := Lib.hid (show nIdx l x = k from nIdx_unique l x k (by omega) hE.out (fun _ => by rw [← HX.out]; exact of_decide_eq_false hah))
        go_wp2_with (go_at_call 103; refine (note1_any y x b4 _ g7 g8 l7').mono ?_)
        intro e1 w1 R1
        rw [hah] at R1
        obtain ⟨rfl, hF1⟩ := R1
        clear hah
        go_wp2
        go_ret
        exact RetV.mk (x := .int .i64 k) (by unfold nIdxI; rw [HA.out, if_pos hkl]) rfl (hF.trans hF1)
    · obtain rfl : k = l.length := by omega
      have HA := Lib.hid (show nIdx l x = l.length from nIdx_unique l x _ (by omega) hE.out (fun h => absurd h (by omega)))
      go_wp2
      go_ret
      exact RetV.mk (x := .int .i64 (-1)) (by unfold nIdxI; rw [HA.out, if_neg (by omega)]) rfl hF
end Go.Proofs.YtfjempfffdeklaaDoor
