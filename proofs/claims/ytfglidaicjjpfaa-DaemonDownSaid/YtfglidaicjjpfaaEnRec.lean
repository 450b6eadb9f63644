import Derived.Test.YtfglidaicjjpfaaErr
import Derived.Test.YtfglidaicjjpfaaRecs
namespace Go.Proofs.Ytfglidaicjjpfaa
open Go.RowKit
/-- An entry: a net, a tag, a hop, how far. -/
structure En where
  (a n t p m : Int)
deriving Inhabited, DecidableEq
abbrev En.cells (x : En) : List Value := [.int .u32 x.a, .int .i64 x.n, .int .i64 x.t, .int .u32 x.p, .int .i64 x.m]
theorem En.cells_len (x : En) : (En.cells x).length = 5 := rfl
theorem infoEn : (Try.prog.info? 45).map (fun i => (i.zero, i.size, i.bytes)) = some (some (.agg #[.int .u32 0, .int .i64 0, .int .i64 0, .int .u32 0, .int .i64 0]), 5, 40) := by kernel_rfl
theorem en_one (x : En) : ∀ u ∈ En.cells x, u.oneCell' = true := by simp [Value.oneCell']
end Go.Proofs.Ytfglidaicjjpfaa
