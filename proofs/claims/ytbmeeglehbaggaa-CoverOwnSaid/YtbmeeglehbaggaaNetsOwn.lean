import Derived.Test.YtbmeeglehbaggaaNetClone
namespace Go.Proofs.Ytbmeeglehbaggaa
open Go.RowKit
/-- A copy of nets. -/
theorem netsCopy_any {n : Nat} (l : List Nt) (a : Option Addr) (c : Nat) (w : World) (hr : Recs w.heap a 2 Nt.cells l) (hn : n = l.length) (hl : n * 16 ≤ 140737488351232) :
    Calls Try.prog 16 #[.slice a n c] w (RetNew w 26 2 n (l.flatMap Nt.cells) id) := by
  subst hn
  go_enter Try.func16, Try.ntmps16
  go_wp2_with (at_builtin; refine wpList_app rfl _ _ 36 rfl Try.underlying36 infoNt rfl (by decide) rfl rfl (Ownd.made w 26 2 0 [] rfl (by decide)) (hr.fr (S := fun _ => False) ((Fr.refl _ _).alloc _) (fun _ _ _ h => h)) (nts_one l) (by omega) (by omega) ?_)
  intro a' c' w' ob' h1 h2 h3
  go_wp2
  go_ret
  refine ⟨a', c', ob', by simp, by simpa using h1, ?_, ?_⟩
  · exact ((Fr.refl _ _).alloc _).trans' h2 (fun i hi h => by cases h; omega)
  · intro g hg
    rcases h3 with h3 | ⟨g', h3, h4⟩
    · rw [h3] at hg; cases hg; exact Nat.le_refl _
    · rw [h3] at hg; cases hg; exact Nat.le_trans (by simp) h4
theorem ntset_n (l : List Nt) (i : Nat) (x : Int) (h : i < l.length) : (l.flatMap Nt.cells).set (i * 2 + 1) (.int .i64 x) = (l.set i ⟨(nth l i).a, x⟩).flatMap Nt.cells := by
  induction l generalizing i with
  | nil => simp at h
  | cons y l ih =>
    cases i with
    | zero => rfl
    | succ i =>
      have := ih i (by simpa using h)
      rw [nth_cons_succ, List.set_cons_succ, List.flatMap_cons, List.flatMap_cons, ← this]
      rw [List.set_append_right _ _ (by simp; omega)]
      congr 2
      simp; omega
theorem netsSpoil_any {n : Nat} (ob : Option Nat) (a : Option Addr) (c : Nat) (l : List Nt) (x : Int) (w : World) (hl : l.length = n) (hO : Ownd w.heap 26 2 a n c (l.flatMap Nt.cells) ob) :
    Calls Try.prog 17 #[.slice a n c, .int .i64 x] w (fun e w' => e = .returned (.tuple #[]) ∧ Fr (fun k => ob = some k) w w') := by
  have hle := hO.le
  go_enter Try.func17, Try.ntmps17
  go_wp2
  go_loopw [4] (fun s4 wr => ∃ i : Nat, i ≤ n ∧ s4 = .int .i64 i ∧ Fr (fun k => ob = some k) w wr ∧ ∃ l' : List Nt, l'.length = n ∧ Ownd wr.heap 26 2 a n c (l'.flatMap Nt.cells) ob) (fun s _ => n - (intOf s).toNat)
  case atStart => exact ⟨0, by omega, rfl, Fr.refl _ _, l, hl, hO⟩
  case round =>
    obtain ⟨i, hi, rfl, hF, l', hl', hO'⟩ := hrel
    by_cases hlt : i < n
    · obtain ⟨g, rfl, rfl, h5, h6, h7⟩ := hO'.pos (by omega)
      have hc0 := (h6 (i * 2 + 0) (by omega)).trans (flat_get _ 2 Nt.cells_len l' i 0 (by omega) (by omega))
      have hc := (h6 (i * 2 + 1) (by omega)).trans (flat_get _ 2 Nt.cells_len l' i 1 (by omega) (by omega))
      have hf := h7 (i * 2 + 1)
      have hset := hO'.set rfl (i * 2 + 1) (.int .i64 x)
      rw [ntset_n l' i x (by omega)] at hset
      simp only [Nt.cells, List.getElem?_cons_zero, List.getElem?_cons_succ, Nat.add_zero] at hc0 hc
      clear h6 h7
      go_wp2
      go_roundw
      case rel => exact ⟨i + 1, by omega, by go_num, hF.setCell (fun _ => rfl) _, _, by rw [List.length_set, hl'], hset⟩
      case measure => simp [intOf]; omega
    · obtain rfl : i = n := by omega
      go_wp2
      go_end0
      exact ⟨rfl, hF⟩
end Go.Proofs.Ytbmeeglehbaggaa
