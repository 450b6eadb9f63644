import Derived.Test.YtgfbkebbnfcgkaaQRt15
import Derived.Test.YtgfbkebbnfcgkaaNetW
section
namespace Go.Proofs.Ytgfbkebbnfcgkaa
open Go.RowKit



/-- Where a net is in a list: from below 0 (nowhere) on. -/
def PlacesPost (w : World) (l : List Nt) (x : Nt) (e : Ending) (w' : World) : Prop := ∃ p : Int, e = .returned (.int .i64 p) ∧ Fr (fun _ => False) w w' ∧ (p < 0 ↔ x ∉ l) ∧ -1 ≤ p ∧ p < 1000000



end Go.Proofs.Ytgfbkebbnfcgkaa
end
