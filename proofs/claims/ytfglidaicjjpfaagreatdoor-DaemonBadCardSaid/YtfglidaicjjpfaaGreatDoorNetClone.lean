import Derived.Test.YtfglidaicjjpfaaGreatDoorNets
import Derived.WalkSpells
namespace Go.Proofs.YtfglidaicjjpfaaGreatDoor
open Go.RowKit
theorem nts_one (l : List Nt) : ∀ u ∈ l.flatMap Nt.cells, u.oneCell' = true := fun u hu => by
  obtain ⟨x, _, hx⟩ := List.mem_flatMap.1 hu
  exact nt_one x u hx
/-- slices.Clone at nets. -/
theorem clone_net {n : Nat} (l : List Nt) (a : Option Addr) (c : Nat) (w : World) (hr : Recs w.heap a 2 Nt.cells l) (hn : n = l.length) (hl : n * 16 ≤ 140737488351232) (hnil : a = none → l = []) :
    Calls Tryz.prog 35 #[.slice a n c] w (RetNew w 52 2 n (l.flatMap Nt.cells) id) := by
  subst hn
  have he := fun n c w => Lib.run_eql_slice_nil (P := Tryz.prog) w 23 52 a n c 0 0 Tryz.underlying23
  cases a with
  | none =>
    obtain rfl := hnil rfl
    go_enter Tryz.func35, Tryz.ntmps35
    go_wp2
    go_ret
    exact ⟨none, 0, none, rfl, Own.nil _ _ _, Fr.refl _ _, fun g h => by cases h⟩
  | some a =>
    go_enter Tryz.func35, Tryz.ntmps35
    go_wp2_with (at_builtin; refine wpList_app rfl _ _ 23 rfl Tryz.underlying23 infoNt rfl (by decide) rfl rfl (Own.made w 52 2 0 [] rfl (by decide)) (hr.fr (S := fun _ => False) ((Fr.refl _ _).alloc _) (fun _ _ _ h => h)) (nts_one l) (by omega) (by omega) ?_)
    intro a' c' w' ob' h1 h2 h3
    go_wp2
    go_ret
    refine ⟨a', c', ob', by simp, by simpa using h1, ?_, ?_⟩
    · exact ((Fr.refl _ _).alloc _).trans' h2 (fun i hi h => by cases h; omega)
    · intro g hg
      rcases h3 with h3 | ⟨g', h3, h4⟩
      · rw [h3] at hg; cases hg; exact Nat.le_refl _
      · rw [h3] at hg; cases hg; exact Nat.le_trans (by simp) h4
end Go.Proofs.YtfglidaicjjpfaaGreatDoor
