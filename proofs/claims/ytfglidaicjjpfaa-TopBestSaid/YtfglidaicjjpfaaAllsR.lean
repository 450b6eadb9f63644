import Derived.Test.YtfglidaicjjpfaaArgBest
import Derived.Test.YtfglidaicjjpfaaBase
namespace Go.Proofs.Ytfglidaicjjpfaa
open Go.RowKit
/-- Ways in new memory, each with a list of its own. -/
structure Alls (base : Nat) (H : Array Obj) (R : List BestR) (aR : Option Addr) (cR : Nat) (ob : Option Nat) : Prop where
  own : Own H 50 4 aR R.length cR (R.flatMap BestR.cells) ob
  new : ∀ g, ob = some g → base ≤ g
  row : ∀ x ∈ R, ∃ o, Own H 3 1 x.A x.h.length x.C (ivals .i64 x.h) o ∧ ∀ g, o = some g → base ≤ g ∧ ob ≠ some g
  pw : R.Pairwise fun x y => ∀ p, x.A = some p → y.A ≠ some p
namespace Alls
variable {base : Nat} {w w' : World} {R : List BestR} {aR : Option Addr} {cR : Nat} {ob : Option Nat}
theorem nil (base : Nat) (H : Array Obj) : Alls base H [] none 0 none := ⟨Own.nil _ _ _, (fun _ h => nomatch h), (fun _ h => nomatch h), List.Pairwise.nil⟩
theorem fr0 (h : Alls base w.heap R aR cR ob) (f : Fr (fun _ => False) w w') : Alls base w'.heap R aR cR ob :=
  ⟨h.own.fr f (fun _ _ h => h), h.new, fun x hx => by obtain ⟨o, h1, h2⟩ := h.row x hx; exact ⟨o, h1.fr f (fun _ _ h => h), h2⟩, h.pw⟩
/-- One more. -/
theorem push (h : Alls base w.heap R aR cR ob) (hb : base ≤ w.heap.size) {x : BestR} {o : Option Nat} {a' : Option Addr} {c' : Nat} {ob' : Option Nat} (hx : Own w'.heap 3 1 x.A x.h.length x.C (ivals .i64 x.h) o) (hn : ∀ g, o = some g → w.heap.size ≤ g ∧ ob' ≠ some g)
    (hO : Own w'.heap 50 4 a' (R.length + 1) c' (R.flatMap BestR.cells ++ BestR.cells x) ob') (f : Fr (fun k => ob = some k) w w') (hob : ob' = ob ∨ ∃ g, ob' = some g ∧ w.heap.size ≤ g) : Alls base w'.heap (R ++ [x]) a' c' ob' := by
  refine ⟨?_, fun g hg => ?_, fun y hy => ?_, ?_⟩
  · rw [List.length_append, List.flatMap_append]
    simpa using hO
  · rcases hob with e | ⟨g', e, e2⟩
    · rw [e] at hg; exact h.new g hg
    · rw [e] at hg; cases hg; omega
  · rcases List.mem_append.1 hy with hy | hy
    · obtain ⟨o', h1, h2⟩ := h.row y hy
      refine ⟨o', h1.fr f (fun g hg e => (h2 g hg).2 e), fun g hg => ⟨(h2 g hg).1, ?_⟩⟩
      rcases hob with e | ⟨g', e, e2⟩
      · rw [e]; exact (h2 g hg).2
      · rw [e]; intro e3; cases e3; have := h1.lt g hg; omega
    · rw [List.mem_singleton.1 hy]
      exact ⟨o, hx, fun g hg => ⟨Nat.le_trans hb (hn g hg).1, (hn g hg).2⟩⟩
  · rw [List.pairwise_append]
    refine ⟨h.pw, List.pairwise_singleton _ _, fun y hy z hz p hp hq => ?_⟩
    rw [List.mem_singleton.1 hz] at hq
    obtain ⟨o', h1, -⟩ := h.row y hy
    rcases h1.is with ⟨q, _⟩ | ⟨g1, _, q, q2, _⟩
    · rw [q] at hp; cases hp
    · rcases hx.is with ⟨r, _⟩ | ⟨g2, _, r, r2, _⟩
      · rw [r] at hq; cases hq
      · rw [q] at hp; rw [r] at hq
        rw [← hq] at hp
        simp only [Option.some.injEq, Addr.mk.injEq] at hp
        have := h1.lt g1 q2
        have := (hn g2 r2).1
        omega
end Alls
end Go.Proofs.Ytfglidaicjjpfaa
