import Derived.Test.YtlmoaompmiobjaaRow
import Derived.Test.YtlmoaompmiobjaaRows
namespace Go.Proofs.Ytlmoaompmiobjaa
open Go.ChangeShapes Go.WideShapes Go.ChangeAt Go.RowKit

theorem own : ownKnob Try.prog.godebug = none := by kernel_rfl
theorem laidOut : laidOutB Try.prog = true := by kernel_rfl
theorem cellsInt : Try.prog.cellsOf 3 = 1 := by kernel_rfl
theorem cellsInts : Try.prog.cellsOf 28 = 1 := by kernel_rfl
end Go.Proofs.Ytlmoaompmiobjaa
