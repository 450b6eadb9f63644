import Derived.Test.YtgfbkebbnfcgkaaQRt1
section
namespace Go
/-- What was heard: of whom, of which net, how far. -/
structure Hea where
  f : Int
  a : Int
  n : Int
  m : Int
deriving Inhabited, DecidableEq
abbrev Hea.cells (x : Hea) : List Value := [.int .i64 x.f, .int .u32 x.a, .int .i64 x.n, .int .i64 x.m]
theorem Hea.cells_len (x : Hea) : (Hea.cells x).length = 4 := rfl
end Go
namespace Go.Proofs.Ytgfbkebbnfcgkaa
open Go.RowKit

end Go.Proofs.Ytgfbkebbnfcgkaa
end
