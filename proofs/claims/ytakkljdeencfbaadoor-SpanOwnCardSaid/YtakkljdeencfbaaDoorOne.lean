import Derived.Test.YtakkljdeencfbaaDoorGOk
import Derived.Test.YtakkljdeencfbaaDoorGraph
namespace Go.Proofs.YtakkljdeencfbaaDoor
open Go.RowKit

theorem one_any (w : World) : Calls Tryd.prog 17 #[] w (fun e w' => e = .returned (.slice (some ⟨w.heap.size, 0, none⟩) 1 1) ∧ w' = w.alloc (.cells #[.int .i64 0, .int .i64 1, .int .i64 3] 32)) := by
  go_enter Tryd.func17, Tryd.ntmps17
  go_wp2
  go_ret
  exact ⟨rfl, rfl⟩
abbrev oneL : List Lk := [⟨0, 1, 3⟩]
theorem one_links (w : World) : Links (w.alloc (.cells #[.int .i64 0, .int .i64 1, .int .i64 3] 32)).heap (some ⟨w.heap.size, 0, none⟩) oneL :=
  (Own.made w 32 3 1 [.int .i64 0, .int .i64 1, .int .i64 3] rfl (by decide)).rd
theorem one_wf : ∀ x ∈ oneL, (Lit.int .i64 x.a).wf = true ∧ (Lit.int .i64 x.b).wf = true ∧ (Lit.int .i64 x.c).wf = true := fun x hx => by
  rw [List.mem_singleton.1 hx]
  exact ⟨rfl, rfl, rfl⟩
theorem one_graph : graphErr 2 oneL = none := by rfl
end Go.Proofs.YtakkljdeencfbaaDoor
