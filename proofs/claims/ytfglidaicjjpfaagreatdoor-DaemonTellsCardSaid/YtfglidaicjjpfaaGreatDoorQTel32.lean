import Derived.Test.YtfglidaicjjpfaaGreatDoorRow
import Derived.Test.YtfglidaicjjpfaaGreatDoorRows
section
namespace Go.Proofs.YtfglidaicjjpfaaGreatDoor
open Go.ChangeShapes Go.WideShapes Go.ChangeAt Go.RowKit

theorem own : ownKnob Tryz.prog.godebug = none := by kernel_rfl
theorem laidOut : laidOutB Tryz.prog = true := by kernel_rfl
theorem cellsInt : Tryz.prog.cellsOf 3 = 1 := by kernel_rfl
theorem cellsInts : Tryz.prog.cellsOf 22 = 1 := by kernel_rfl

theorem bulk_len {H : Type} (l : List (DataW H)) : l.length ≤ Rows.uptoBulkAll l := by
  induction l with
  | nil => simp [Rows.uptoBulkAll]
  | cons d r ih =>
    have : 1 ≤ Rows.uptoBulk d := by
      cases d with
      | lit l => cases l <;> simp [Rows.uptoBulk]
      | _ => simp [Rows.uptoBulk]
    simp only [List.length_cons, Rows.uptoBulkAll]
    omega
/-- A slice's cells are counted. -/
theorem bulk_slice {H : Type} {d : DataW H} {c : Nat} (h : c = 0 ∨ ∃ el sp, d = .slice el sp ∧ el.length + sp.length = c) : c ≤ Rows.uptoBulk d := by
  rcases h with rfl | ⟨el, sp, rfl, rfl⟩
  · omega
  · have h1 := bulk_len el
    have h2 := bulk_len sp
    simp only [Rows.uptoBulk]
    omega
theorem small_all {H : Type} {l : List (DataW H)} (hk : Rows.uptoSmall H l = true) : Rows.uptoBulkAll l ≤ 1048576 := of_decide_eq_true hk
end Go.Proofs.YtfglidaicjjpfaaGreatDoor
end
