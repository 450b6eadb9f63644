import Derived.Test.YtgfbkebbnfcgkaaQRt8
section
namespace Go.Proofs.Ytgfbkebbnfcgkaa
open Go.RowKit Go.Maps

/-- What is told of the way to a net. -/
def RetBestE (w : World) (a n : Int) (r : Option Int) (s : Int × List Int) (e : Ending) (w' : World) : Prop :=
  match r with
  | some k => RetV w (.tuple #[.agg #[.int .u32 0, .int .i64 0, .int .i64 0, .slice none 0 0], errv k]) e w'
  | none => ∃ ah ch ob, e = .returned (.tuple #[.agg #[.int .u32 a, .int .i64 n, .int .i64 s.1, .slice ah s.2.length ch], .nilIface]) ∧ Ownd w'.heap 3 1 ah s.2.length ch (ivals .i64 s.2) ob ∧ Fr (fun _ => False) w w' ∧ (∀ g, ob = some g → w.heap.size ≤ g)
theorem RetBestE.err {w w' : World} {a n k : Int} {r : Option Int} {s : Int × List Int} {e : Ending} (h : r = some k) (he : e = .returned (.tuple #[.agg #[.int .u32 0, .int .i64 0, .int .i64 0, .slice none 0 0], errv k])) (hF : Fr (fun _ => False) w w') : RetBestE w a n r s e w' := by subst h; exact ⟨he, hF⟩
theorem RetBestE.ok {w w' : World} {a n m : Int} {r : Option Int} {s : Int × List Int} {ah : Option Addr} {k ch : Nat} {ob : Option Nat} {xs : List Value} {e : Ending} (h : r = none) (he : e = .returned (.tuple #[.agg #[.int .u32 a, .int .i64 n, .int .i64 m, .slice ah k ch], .nilIface])) (hm : m = s.1) (hk : k = s.2.length) (hx : xs = ivals .i64 s.2) (hO : Ownd w'.heap 3 1 ah k ch xs ob) (hF : Fr (fun _ => False) w w') (hN : ∀ g, ob = some g → w.heap.size ≤ g) : RetBestE w a n r s e w' := by
  subst h; subst hm; subst hk; subst hx; exact ⟨ah, ch, ob, he, hO, hF, hN⟩
theorem RetBestE.errE {w w' : World} {a n k : Int} {r : Option Int} {s : Int × List Int} {e : Ending} (h : RetBestE w a n r s e w') (hr : r = some k) : RetV w (.tuple #[.agg #[.int .u32 0, .int .i64 0, .int .i64 0, .slice none 0 0], errv k]) e w' := by subst hr; exact h
theorem RetBestE.okE {w w' : World} {a n : Int} {r : Option Int} {s : Int × List Int} {e : Ending} (h : RetBestE w a n r s e w') (hr : r = none) : ∃ ah ch ob, e = .returned (.tuple #[.agg #[.int .u32 a, .int .i64 n, .int .i64 s.1, .slice ah s.2.length ch], .nilIface]) ∧ Ownd w'.heap 3 1 ah s.2.length ch (ivals .i64 s.2) ob ∧ Fr (fun _ => False) w w' ∧ (∀ g, ob = some g → w.heap.size ≤ g) := by subst hr; exact h
/-- What is chosen of all that was heard. -/
def bestM (l : List Hea) (costs : List Int) (a n : Int) : Int × List Int := chK (fun i => lastO l i a n) costs costs.length
theorem i64_small {i : Int} (h0 : 0 ≤ i) (h1 : i ≤ 1000000) : (Lit.int .i64 i).wf = true := by go_wf


end Go.Proofs.Ytgfbkebbnfcgkaa
end
