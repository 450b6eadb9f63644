import Derived.Test.YtfglidaicjjpfaaGreatDoorErr
section
namespace Go.Proofs.YtfglidaicjjpfaaGreatDoor
open Go.RowKit

theorem infoInt : (Tryz.prog.info? 3).map (fun i => (i.zero, i.size, i.bytes)) = some (some (.int .i64 0), 1, 8) := by kernel_rfl




set_option maxHeartbeats 400000 in
theorem clone_int (a : Option Addr) (l : List Int) (c : Nat) (w : World) (hl : l.length * 8 ≤ 140737488351232) (hr : Ints w.heap a l) (hnil : a = none → l = []) :
    Calls Tryz.prog 34 #[.slice a l.length c] w (RetNew w 3 1 l.length (ivals .i64 l) id) := by
  have he := fun n c w => Lib.run_eql_slice_nil (P := Tryz.prog) w 22 3 a n c 0 0 Tryz.underlying22
  cases a with
  | none =>
    obtain rfl := hnil rfl
    go_enter Tryz.func34, Tryz.ntmps34
    go_wp2
    go_ret
    exact ⟨none, 0, none, rfl, Ownd.nil _ _ _, Fr.refl _ _, fun g h => by cases h⟩
  | some a =>
    go_enter Tryz.func34, Tryz.ntmps34
    go_wp2_with (at_builtin; refine wpList_app rfl _ _ 22 rfl Tryz.underlying22 infoInt rfl (by decide) rfl rfl (Ownd.made w 3 1 0 [] rfl (by decide)) (hr.fr (S := fun _ => False) ((Fr.refl _ _).alloc _) (fun _ _ _ h => h)) (ivals_one _ _) (by omega) (by omega) ?_)
    intro a' c' w' ob' h1 h2 h3
    go_wp2
    go_ret
    refine ⟨a', c', ob', by simp, by simpa using h1, ?_, ?_⟩
    · exact ((Fr.refl _ _).alloc _).trans' h2 (fun i hi h => by cases h; omega)
    · intro g hg
      rcases h3 with h3 | ⟨g', h3, h4⟩
      · rw [h3] at hg; cases hg; exact Nat.le_refl _
      · rw [h3] at hg; cases hg; exact Nat.le_trans (by simp) h4



end Go.Proofs.YtfglidaicjjpfaaGreatDoor
end
