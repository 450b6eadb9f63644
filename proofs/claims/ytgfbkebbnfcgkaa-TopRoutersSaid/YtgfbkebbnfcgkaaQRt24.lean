import Derived.Test.YtgfbkebbnfcgkaaQRt9
import Derived.Test.YtgfbkebbnfcgkaaQRt23
import Derived.Test.YtgfbkebbnfcgkaaErr
section
namespace Go.Proofs.Ytgfbkebbnfcgkaa
open Go.RowKit








end Go.Proofs.Ytgfbkebbnfcgkaa
end

section
namespace Go.Proofs.Ytgfbkebbnfcgkaa
open Go.RowKit

theorem lastOf_bd {l : List Hea} (h : ∀ x ∈ l, 1 ≤ x.m ∧ x.m ≤ 16) (f a n : Int) : 1 ≤ lastOf l f a n ∧ lastOf l f a n ≤ 16 := by
  unfold lastOf
  cases hl : lastO l f a n with
  | none => exact ⟨by decide, by decide⟩
  | some m => exact lastO_bd h hl
/-- How far by each neighbour. -/
def pOf (l : List Hea) (costs : List Int) (a n : Int) (k : Nat) : Int := plusM (nth costs k) (lastOf l k a n)
theorem bestM_eq {l : List Hea} {costs : List Int} (a n : Int) (hl : ∀ x ∈ l, 1 ≤ x.m ∧ x.m ≤ 16) (hc : ∀ c ∈ costs, 1 ≤ c ∧ c ≤ 16) : bestM l costs a n = (mK (pOf l costs a n) costs.length, hopsK (pOf l costs a n) (mK (pOf l costs a n) costs.length) costs.length) :=
  chK_eq (fun i => lastO l i a n) costs (pOf l costs a n) (fun _ _ => rfl) hc (fun _ _ h => lastO_bd hl h) costs.length (Nat.le_refl _)


end Go.Proofs.Ytgfbkebbnfcgkaa
end

section
namespace Go.Proofs.Ytgfbkebbnfcgkaa
open Go.RowKit


end Go.Proofs.Ytgfbkebbnfcgkaa
end
