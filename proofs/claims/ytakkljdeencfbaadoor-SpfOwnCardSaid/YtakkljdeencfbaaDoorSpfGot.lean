import Derived.Test.YtakkljdeencfbaaDoorSpf
import Derived.Test.YtakkljdeencfbaaDoorSpfLaw
namespace Go.Proofs.YtakkljdeencfbaaDoor
open Go.RowKit

/-- What came of the distances: an error, or a row of them. -/
def GotF (w : World) (n : Int) (l : List Lk) (s : Int) (v er : Value) : Prop :=
  (∃ k, farErr n l s = some k ∧ er = errv k) ∨ (farErr n l s = none ∧ er = .nilIface ∧ ∃ a c ob far, v = .slice a n.toNat c ∧ Own w.heap 3 1 a n.toNat c (ivals .i64 far) ob ∧ IsFar n.toNat (costF n.toNat l) s.toNat far)
theorem RetFar.got {w w' : World} {n : Int} {l : List Lk} {s : Int} {e : Ending} (h : RetFar w n l s (farErr n l s) e w') : ∃ v er, e = .returned (.tuple #[v, er]) ∧ GotF w' n l s v er ∧ Fr (fun _ => False) w w' := by
  cases hg : farErr n l s with
  | some k =>
    rw [hg] at h
    obtain ⟨rfl, hF⟩ := h
    exact ⟨_, _, rfl, .inl ⟨k, hg, rfl⟩, hF⟩
  | none =>
    rw [hg] at h
    obtain ⟨far, hf, a, c, ob, rfl, hO, hF, -⟩ := h
    exact ⟨_, _, rfl, .inr ⟨hg, rfl, a, c, ob, far, rfl, hO, hf⟩, hF⟩
theorem RetFar.one {w w' : World} {e : Ending} (h : RetFar w 2 [⟨0, 1, 3⟩] 0 (farErr 2 [⟨0, 1, 3⟩] 0) e w') : ∃ g c, e = .returned (.tuple #[.slice (some ⟨g, 0, none⟩) 2 c, .nilIface]) ∧ w'.cell? ⟨g, 1, none⟩ = some (.int .i64 3) ∧ g < w'.heap.size ∧ Fr (fun _ => False) w w' := by
  rw [show farErr 2 [⟨0, 1, 3⟩] 0 = none from rfl] at h
  obtain ⟨far, hf, a, c, ob, rfl, hO, hF, -⟩ := h
  obtain rfl := far_one hf
  obtain ⟨g, rfl, -, hg, hc, -⟩ := hO.pos (by decide)
  exact ⟨g, c, rfl, hc 1 (by decide), hg, hF⟩
theorem farErr_ok {n : Int} {l : List Lk} {s : Int} (h : farErr n l s = none) : graphErr n l = none ∧ 0 ≤ s ∧ s < n := by
  unfold farErr at h
  split at h
  · cases h
  · rename_i hg
    split at h
    · cases h
    · exact ⟨hg, by omega, by omega⟩
end Go.Proofs.YtakkljdeencfbaaDoor
