import Derived.Test.YtgfbkebbnfcgkaaRows
import Derived.Test.YtgfbkebbnfcgkaaBase
namespace Go.Proofs.Ytgfbkebbnfcgkaa
open Go.RowKit

/-- An error's value. -/
abbrev errv (k : Int) : Value := .iface 60 (.int .i64 k)
def errO : Option Int → Value
  | none => .nilIface
  | some k => errv k
/-- A plain value, the world the same. -/
def RetS (w : World) (v : Value) (e : Ending) (w' : World) : Prop := e = .returned v ∧ w = w'
theorem RetS.mk {w w' : World} {v u x : Value} {e : Ending} (h : x = v) (he : e = .returned u) (hw : w = w') (hu : u = x := by rfl) : RetS w v e w' := by
  subst h; subst hu; exact ⟨he, hw⟩
theorem rd_lit (w : World) (T : TypeId) (xs : List Value) : Rd (w.alloc (.cells xs.toArray T)).heap (some ⟨w.heap.size, 0, none⟩) 1 xs.length xs := (Ownd.made w T xs.length 1 xs (by omega) (by decide)).rd
/-- A literal of one element, behind one block. -/
theorem rd_lit1 (w : World) (o : Obj) (T : TypeId) (xs : List Value) : Rd ((w.alloc o).alloc (.cells xs.toArray T)).heap (some ⟨w.heap.size + 1, 0, none⟩) 1 xs.length xs := by
  have := rd_lit (w.alloc o) T xs
  rwa [show (w.alloc o).heap.size = w.heap.size + 1 by simp] at this
end Go.Proofs.Ytgfbkebbnfcgkaa
