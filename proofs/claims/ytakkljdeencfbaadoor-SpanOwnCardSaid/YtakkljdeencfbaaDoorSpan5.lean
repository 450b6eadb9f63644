import Derived.Test.YtakkljdeencfbaaDoorSpan4
namespace Go.Proofs.YtakkljdeencfbaaDoor
open Go.RowKit

/-- What is told of the roots. -/
def RetRt (w : World) (n : Int) (l : List Lk) (r : Option Int) (e : Ending) (w' : World) : Prop :=
  match r with
  | some k => RetV w (.tuple #[.slice none 0 0, errv k]) e w'
  | none => ∃ a c ob bs, e = .returned (.tuple #[.slice a n.toNat c, .nilIface]) ∧ Own w'.heap 3 1 a n.toNat c (ivals .i64 (bs.map Bl.r)) ob ∧ Fr (fun _ => False) w w' ∧ BsOk n.toNat bs ∧ Rooted l n.toNat bs ∧ Still l bs
theorem RetRt.err {w w' : World} {n : Int} {l : List Lk} {r : Option Int} {k : Int} {e : Ending} (h : r = some k) (he : e = .returned (.tuple #[.slice none 0 0, errv k])) (hF : Fr (fun _ => False) w w') : RetRt w n l r e w' := by subst h; exact ⟨he, hF⟩
theorem RetRt.ok {w w' : World} {k : Nat} {l : List Lk} {r : Option Int} {e : Ending} {a : Option Addr} {c : Nat} {ob : Option Nat} {bs : List Bl} (h : r = none) (he : e = .returned (.tuple #[.slice a k c, .nilIface])) (hO : Own w'.heap 3 1 a k c (ivals .i64 (bs.map Bl.r)) ob) (hF : Fr (fun _ => False) w w') (h1 : BsOk k bs) (h2 : Rooted l k bs) (h3 : Still l bs) : RetRt w (k : Int) l r e w' := by
  subst h; exact ⟨a, c, ob, bs, he, hO, hF, h1, h2, h3⟩
theorem RetBs.errE {w w' : World} {n : Int} {l : List Lk} {r : Option Int} {k : Int} {e : Ending} (h : RetBs w n l r e w') (hr : r = some k) : RetV w (.tuple #[.slice none 0 0, errv k]) e w' := by subst hr; exact h
theorem RetBs.okE {w w' : World} {n : Nat} {l : List Lk} {r : Option Int} {e : Ending} (h : RetBs w (n : Int) l r e w') (hr : r = none) : ∃ a c ob bs, e = .returned (.tuple #[.slice a n c, .nilIface]) ∧ Own w'.heap 71 3 a n c (bs.flatMap Bl.cells) ob ∧ Fr (fun _ => False) w w' ∧ (∀ g, ob = some g → w.heap.size ≤ g) ∧ BsOk n bs ∧ Rooted l n bs ∧ Still l bs ∧ FinT l n bs := by subst hr; exact h
theorem RetRt.errE {w w' : World} {n : Int} {l : List Lk} {r : Option Int} {k : Int} {e : Ending} (h : RetRt w n l r e w') (hr : r = some k) : RetV w (.tuple #[.slice none 0 0, errv k]) e w' := by subst hr; exact h
theorem RetRt.okE {w w' : World} {n : Nat} {l : List Lk} {r : Option Int} {e : Ending} (h : RetRt w (n : Int) l r e w') (hr : r = none) : ∃ a c ob bs, e = .returned (.tuple #[.slice a n c, .nilIface]) ∧ Own w'.heap 3 1 a n c (ivals .i64 (bs.map Bl.r)) ob ∧ Fr (fun _ => False) w w' ∧ BsOk n bs ∧ Rooted l n bs ∧ Still l bs := by subst hr; exact h


end Go.Proofs.YtakkljdeencfbaaDoor
