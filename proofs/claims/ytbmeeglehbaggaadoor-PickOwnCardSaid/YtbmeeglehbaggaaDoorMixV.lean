import Derived.Test.YtbmeeglehbaggaaDoorSl
import Derived.Laws.ShiftsVar
namespace Go.Proofs.YtbmeeglehbaggaaDoor
open Go.RowKit
/-! api.Mix: what it tells hangs on its two numbers alone. -/
def mixU (a b : Int) : Int := bits .xor .u64 (IntKind.u64.wrap (IntKind.u64.wrap a * 11400714819323198485)) (IntKind.u64.wrap (IntKind.u64.wrap b * 14029467366897019727))
def mixW (a b : Int) : Int := IntKind.u64.wrap (bits .xor .u64 (mixU a b) (mixU a b / 2147483648) * 13787848793156543929)
def mixV (a b : Int) : Int := wrap64 (bits .and .u64 (bits .xor .u64 (mixW a b) (mixW a b / 536870912)) 4294967295)
set_option maxRecDepth 100000 in
set_option maxHeartbeats 1000000 in
theorem mixv_any (a b : Int) (w : World) : Calls Tryd.prog 46 #[.int .i64 a, .int .i64 b] w (RetS w (.int .i64 (mixV a b))) := by
  have hV := Lib.hid (show mixV a b = wrap64 (bits .and .u64 (bits .xor .u64 (mixW a b) (mixW a b / 536870912)) 4294967295) from rfl)
  have hW := Lib.hid (show mixW a b = IntKind.u64.wrap (bits .xor .u64 (mixU a b) (mixU a b / 2147483648) * 13787848793156543929) from rfl)
  have hU := Lib.hid (show mixU a b = bits .xor .u64 (IntKind.u64.wrap (IntKind.u64.wrap a * 11400714819323198485)) (IntKind.u64.wrap (IntKind.u64.wrap b * 14029467366897019727)) from rfl)
  go_enter Tryd.func46, Tryd.ntmps46
  go_wp2
  go_ret
  exact RetS.mk (by rw [hV.out, hW.out, hU.out]) rfl rfl
end Go.Proofs.YtbmeeglehbaggaaDoor
