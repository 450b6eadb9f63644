import Derived.Test.YtfjempfffdeklaaDoorErr
namespace Go.Proofs.YtfjempfffdeklaaDoor
open Go.RowKit

set_option maxRecDepth 100000 in
theorem ten3_any (w : World) : Calls Tryd.prog 69 #[] w (fun e w' => e = .returned (.agg #[.int .u32 167772160, .int .i64 8]) ∧ w' = w.alloc (.cells #[.int .u32 167772160, .int .i64 8] 37)) := by
  go_enter Tryd.func69, Tryd.ntmps69
  go_wp2
  exact bodyPost_ret (v := .agg #[.int .u32 167772160, .int .i64 8]) (by simp [results, Tryd.results69, go_sem]) rfl ⟨rfl, rfl⟩
end Go.Proofs.YtfjempfffdeklaaDoor
