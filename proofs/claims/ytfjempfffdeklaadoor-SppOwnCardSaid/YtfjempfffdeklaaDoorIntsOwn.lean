import Derived.Test.YtfjempfffdeklaaDoorSl
namespace Go.Proofs.YtfjempfffdeklaaDoor
open Go.RowKit

set_option maxRecDepth 100000 in
/-- A copy of numbers. -/
theorem intsCopy_any {n : Nat} (l : List Int) (a : Option Addr) (c : Nat) (w : World) (hr : Ints w.heap a l) (hn : n = l.length) (hl : n * 8 ≤ 140737488351232) :
    Calls Tryd.prog 18 #[.slice a n c] w (RetNew w 3 1 n (ivals .i64 l) id) := by
  subst hn
  go_enter Tryd.func18, Tryd.ntmps18
  go_wp2_with (at_builtin; refine wpList_app rfl _ _ 38 rfl Tryd.underlying38 infoInt rfl (by decide) rfl rfl (Ownd.made w 3 1 0 [] rfl (by decide)) (hr.fr (S := fun _ => False) ((Fr.refl _ _).alloc _) (fun _ _ _ h => h)) (ivals_one _ _) (by omega) (by omega) ?_)
  intro a' c' w' ob' h1 h2 h3
  go_wp2
  go_ret
  refine ⟨a', c', ob', by simp, by simpa using h1, ?_, ?_⟩
  · exact ((Fr.refl _ _).alloc _).trans' h2 (fun i hi h => by cases h; omega)
  · intro g hg
    rcases h3 with h3 | ⟨g', h3, h4⟩
    · rw [h3] at hg; cases hg; exact Nat.le_refl _
    · rw [h3] at hg; cases hg; exact Nat.le_trans (by simp) h4

set_option maxRecDepth 100000 in
set_option maxHeartbeats 1000000 in
theorem intsSpoil_any {n : Nat} (ob : Option Nat) (a : Option Addr) (c : Nat) (l : List Int) (x : Int) (w : World) (hl : l.length = n) (hO : Ownd w.heap 3 1 a n c (ivals .i64 l) ob) :
    Calls Tryd.prog 67 #[.slice a n c, .int .i64 x] w (fun e w' => e = .returned (.tuple #[]) ∧ Fr (fun k => ob = some k) w w') := by
  have hle := hO.le
  go_enter Tryd.func67, Tryd.ntmps67
  go_wp2
  go_loopw [4] (fun s4 wr => ∃ i : Nat, i ≤ n ∧ s4 = .int .i64 i ∧ Fr (fun k => ob = some k) w wr ∧ ∃ l' : List Int, l'.length = n ∧ Ownd wr.heap 3 1 a n c (ivals .i64 l') ob) (fun s _ => n - (intOf s).toNat)
  case atStart => exact ⟨0, by omega, rfl, Fr.refl _ _, l, hl, hO⟩
  case round =>
    obtain ⟨i, hi, rfl, hF, l', hl', hO'⟩ := hrel
    by_cases hlt : i < n
    · obtain ⟨g, rfl, rfl, h5, h6, h7⟩ := hO'.pos (by omega)
      have hc := (h6 i (by omega)).trans (ivals_get .i64 l' i (by omega))
      have hf := h7 i
      have hset := hO'.set rfl i (.int .i64 x)
      have e : (ivals .i64 l').set i (.int .i64 x) = ivals .i64 (l'.set i x) := by simp [ivals, List.map_set]
      rw [e] at hset
      clear h6 h7 e
      go_wp2
      go_roundw
      case rel => exact ⟨i + 1, by omega, by go_num, hF.setCell (p := ⟨g, i, none⟩) (fun _ => rfl) _, l'.set i x, by rw [List.length_set, hl'], hset⟩
      case measure => simp [intOf]; omega
    · obtain rfl : i = n := by omega
      go_wp2
      go_end0
      exact ⟨rfl, hF⟩
end Go.Proofs.YtfjempfffdeklaaDoor
