import Derived.Test.YtbmeeglehbaggaaErr
namespace Go.Proofs.Ytbmeeglehbaggaa
open Go.RowKit

set_option maxRecDepth 100000 in
theorem ten3_any (w : World) : Calls Try.prog 35 #[] w (fun e w' => e = .returned (.agg #[.int .u32 167772160, .int .i64 8]) ∧ w' = w.alloc (.cells #[.int .u32 167772160, .int .i64 8] 26)) := by
  go_enter Try.func35, Try.ntmps35
  go_wp2
  exact bodyPost_ret (v := .agg #[.int .u32 167772160, .int .i64 8]) (by simp [results, Try.results35, go_sem]) rfl ⟨rfl, rfl⟩
end Go.Proofs.Ytbmeeglehbaggaa
