import Derived.Test.YtfjempfffdeklaaDoorTold
import Derived.Test.YtfjempfffdeklaaDoorNobody
namespace Go.Proofs.YtfjempfffdeklaaDoor
open Go.ChangeShapes Go.WideShapes Go.ChangeAt Go.RowKit Go.Deep Go.Extern.Stop Go.Stop Go.Extern

/-! Both variables laid: the handle, 'nobody'. -/
abbrev laidB : List (String × DataW Unit) := [("errors.errorType", Rows.laid_errors_errorType), ("waywarden/line.nobody", Rows.laid_waywarden_line_nobody)]
theorem both_of_laid {W : World} (h : laidMetH Tryd.prog laidB W) : Hd W ∧ Nb W := by
  have h' : laidMet Tryd.prog laidN W ∧ handlesMet Tryd.prog laidL W := h
  exact ⟨handle_of_laid (show laidMet Tryd.prog [] W ∧ handlesMet Tryd.prog laidL W from ⟨laidMet_nil _ _, h'.2⟩), nobody_of_met h'.1⟩
/-- A world that meets the condition. -/
noncomputable def laidWorldB (os : Os) : World :=
  let w0 := laidWorld os
  { w0 with heap := w0.heap.modify 0 fun
      | .cells _ t frozen => .cells #[.int .i64 16, .int .i64 (-1)] t frozen
      | o => o }
theorem laidWorldB_met (os : Os) (args : Array Value) : laidMetH Tryd.prog laidB ((laidWorldB os).forCall (fun _ _ => 0) ⟨#[], args, []⟩).memory :=
  laidMetH_of_parts (laidMet_of_run' 8 (by kernel_rfl) (by kernel_rfl)) (by kernel_rfl)
end Go.Proofs.YtfjempfffdeklaaDoor
