import Derived.Test.YtenaboichkejhaaDoorRows
import Derived.Test.YtenaboichkejhaaDoorBase
namespace Go.Proofs.YtenaboichkejhaaDoor
open Go.RowKit

/-- An error's value. -/
abbrev errv (k : Int) : Value := .iface 41 (.int .i64 k)
theorem infoInt : (Tryd.prog.info? 3).map (fun i => (i.zero, i.size, i.bytes)) = some (some (.int .i64 0), 1, 8) := by kernel_rfl





end Go.Proofs.YtenaboichkejhaaDoor
