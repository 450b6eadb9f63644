import Derived.Test.YtfjempfffdeklaaDoorLkInfo
import Derived.WalkSpells
namespace Go.Proofs.YtfjempfffdeklaaDoor
open Go.RowKit

set_option maxRecDepth 100000 in
set_option maxHeartbeats 1000000 in
/-- slices.Clone at links. -/
theorem clone_lk {n : Nat} (l : List Lk) (a : Option Addr) (c : Nat) (w : World) (hr : Recs w.heap a 3 Lk.cells l) (hn : n = l.length) (hl : n * 24 ≤ 140737488351232) (hnil : a = none → l = []) :
    Calls Tryd.prog 87 #[.slice a n c] w (RetNew w 147 3 n (l.flatMap Lk.cells) id) := by
  subst hn
  have he := fun n c w => Lib.run_eql_slice_nil (P := Tryd.prog) w 71 147 a n c 0 0 Tryd.underlying71
  cases a with
  | none =>
    obtain rfl := hnil rfl
    go_enter Tryd.func87, Tryd.ntmps87
    go_wp2
    go_ret
    exact ⟨none, 0, none, rfl, Ownd.nil _ _ _, Fr.refl _ _, fun g h => by cases h⟩
  | some a =>
    go_enter Tryd.func87, Tryd.ntmps87
    go_wp2_with (at_builtin; refine wpList_app rfl _ _ 71 rfl Tryd.underlying71 infoLk rfl (by decide) rfl rfl (Ownd.made w 147 3 0 [] rfl (by decide)) (hr.fr (S := fun _ => False) ((Fr.refl _ _).alloc _) (fun _ _ _ h => h)) (lk_one l) (by omega) (by omega) ?_)
    intro a' c' w' ob' h1 h2 h3
    go_wp2
    go_ret
    refine ⟨a', c', ob', by simp, by simpa using h1, ?_, ?_⟩
    · exact ((Fr.refl _ _).alloc _).trans' h2 (fun i hi h => by cases h; omega)
    · intro g hg
      rcases h3 with h3 | ⟨g', h3, h4⟩
      · rw [h3] at hg; cases hg; exact Nat.le_refl _
      · rw [h3] at hg; cases hg; exact Nat.le_trans (by simp) h4
end Go.Proofs.YtfjempfffdeklaaDoor
