import Derived.Test.YtfjempfffdeklaaDoorErr
import Derived.Shelf.Small.Bits
namespace Go.Proofs
open Go.Shelf
def Tryd.bitsLz_ren : Go.Shelf.Ren := ⟨fun | 133 => 128 | 128 => 143 | n => n, fun | 51 => 35 | 3 => 3 | 4 => 4 | 46 => 203 | 5 => 5 | 9 => 9 | n => n, fun | n => n⟩
theorem Tryd.bitsLz : Go.Proofs.Lays.n133 Tryd.prog Tryd.bitsLz_ren := {
  mixed := by kernel_rfl
  f128 := Tryd.func143.trans (congrArg some (by kernel_rfl))
  f133 := Tryd.func128.trans (congrArg some (by kernel_rfl))
  t3 := Tryd.underlying3
  a3 := Tryd.isAgg3
  z3 := Tryd.sizeOf3
  v3 := Tryd.zeroValue3
  t4 := Tryd.underlying4
  a4 := Tryd.isAgg4
  z4 := Tryd.sizeOf4
  v4 := Tryd.zeroValue4
  t5 := Tryd.underlying5
  a5 := Tryd.isAgg5
  z5 := Tryd.sizeOf5
  v5 := Tryd.zeroValue5
  t9 := Tryd.underlying9
  a9 := Tryd.isAgg9
  z9 := Tryd.sizeOf9
  v9 := Tryd.zeroValue9
  t46 := Tryd.underlying203
  a46 := Tryd.isAgg203
  z46 := Tryd.sizeOf203
  v46 := Tryd.zeroValue203
  t51 := Tryd.underlying35
  a51 := Tryd.isAgg35
  z51 := Tryd.sizeOf35
  v51 := Tryd.zeroValue35
  }

end Go.Proofs
namespace Go.Proofs.YtfjempfffdeklaaDoor
open Go.RowKit
theorem lz32_any (x : Int) (w : World) (h0 : 0 ≤ x) (h1 : x ≤ 4294967295) :
    Calls Tryd.prog 128 #[.int .u32 x] w fun e w' => e = .returned (.int .i64 (32 - (Lib.bitLen x.toNat : Int))) ∧ w' = w := Any.bits_LeadingZeros32 Tryd.bitsLz x w h0 h1
end Go.Proofs.YtfjempfffdeklaaDoor
