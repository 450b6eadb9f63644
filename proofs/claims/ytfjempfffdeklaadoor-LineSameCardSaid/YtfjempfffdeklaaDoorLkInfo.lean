import Derived.Test.YtfjempfffdeklaaDoorRecs
import Derived.Test.YtfjempfffdeklaaDoorRows
namespace Go.Proofs.YtfjempfffdeklaaDoor
open Go.RowKit

theorem infoLk : (Tryd.prog.info? 147).map (fun i => (i.zero, i.size, i.bytes)) = some (some (.agg #[.int .i64 0, .int .i64 0, .int .i64 0]), 3, 24) := by kernel_rfl
theorem lk_one (l : List Lk) : ∀ u ∈ l.flatMap Lk.cells, u.oneCell' = true := fun u hu => by
  obtain ⟨y, _, hy⟩ := List.mem_flatMap.1 hu
  simp only [Lk.cells, List.mem_cons, List.not_mem_nil, or_false] at hy
  rcases hy with rfl | rfl | rfl <;> rfl
end Go.Proofs.YtfjempfffdeklaaDoor
