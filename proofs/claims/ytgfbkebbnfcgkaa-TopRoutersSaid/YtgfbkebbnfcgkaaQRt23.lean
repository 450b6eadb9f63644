import Derived.Test.YtgfbkebbnfcgkaaQRt22
import Derived.Test.YtgfbkebbnfcgkaaQRt1
section
namespace Go.Proofs.Ytgfbkebbnfcgkaa
open Go.RowKit

theorem maskV_or : ∀ k, k < 32 → bits .or .u32 (maskV k) (2 ^ (31 - k) % 4294967296) = maskV (k + 1) := by decide +kernel

/-- An error's number; 0: there is none. -/
def numO : Option Int → Int
  | none => 0
  | some k => k
theorem netErr_pos {a n k : Int} (h : netErr a n = some k) : k ≠ 0 := by
  unfold netErr at h
  split at h
  · cases h; decide
  · split at h
    · cases h; decide
    · cases h


/-- Where a net is in a list: from below 0 (nowhere) on; in a list of whatever length. -/
def PlacesB (w : World) (l : List Nt) (x : Nt) (e : Ending) (w' : World) : Prop := ∃ p : Int, e = .returned (.int .i64 p) ∧ Fr (fun _ => False) w w' ∧ decide (p ≥ 0) = decide (x ∈ l) ∧ decide (p < 0) = !(decide (x ∈ l)) ∧ -1 ≤ p ∧ p ≤ l.length

end Go.Proofs.Ytgfbkebbnfcgkaa
end
