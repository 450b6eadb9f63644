import Derived.Test.YtfjempfffdeklaaDoorTold
namespace Go.Proofs.YtfjempfffdeklaaDoor
open Go.RowKit
/-- Is an error the one told? -/
theorem error_any (x : Option Int) (k : Int) (w : World) (hg : Hd w) : Calls Tryd.prog 16 #[errT x, .int .i64 k] w (RetV w (.bool (errN x == k))) := by
  go_enter Tryd.func16, Tryd.ntmps16
  go_wp2_with (go_at_call 73; refine (told_any x _ hg).mono ?_)
  rintro e1 w1 ⟨rfl, F1⟩
  go_wp2
  go_ret
  exact RetV.mk rfl rfl F1
end Go.Proofs.YtfjempfffdeklaaDoor
