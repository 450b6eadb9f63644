import Derived.Test.YtfjempfffdeklaaDoorLineStill
namespace Go.Proofs.YtfjempfffdeklaaDoor
open Go.RowKit

/-- Two lines that know the same, and share no block. -/
structure TwoL (w0 w : World) (b1 b2 n : Nat) (l : List Lk) (p q : Bool) (R S : Nat → Nat → Th) (T1 T2 : Nat → Prop) : Prop where
  s : LineAt w b1 n l p R T1
  t : LineAt w b2 n l q S T2
  dis : ∀ k, T1 k → ¬ T2 k
  n1 : ∀ k, T1 k → w0.heap.size ≤ k
  n2 : ∀ k, T2 k → w0.heap.size ≤ k
  fr : Fr (fun _ => False) w0 w
namespace TwoL
variable {w0 w w' : World} {b1 b2 n : Nat} {l : List Lk} {p q : Bool} {R S R' : Nat → Nat → Th} {T1 T2 : Nat → Prop}
theorem fr0 (h : TwoL w0 w b1 b2 n l p q R S T1 T2) (f : Fr (fun _ => False) w w') : TwoL w0 w' b1 b2 n l p q R S T1 T2 := ⟨h.s.fr0 f, h.t.fr0 f, h.dis, h.n1, h.n2, h.fr.trans f⟩
theorem frN {X : Nat → Prop} (h : TwoL w0 w b1 b2 n l p q R S T1 T2) (f : Fr X w w') (hx : ∀ k, k < w.heap.size → ¬ X k) : TwoL w0 w' b1 b2 n l p q R S T1 T2 :=
  ⟨h.s.fr f (fun k hk => hx k (h.s.lt k hk)), h.t.fr f (fun k hk => hx k (h.t.lt k hk)), h.dis, h.n1, h.n2, h.fr.trans' f (fun i hi hh => absurd hh (hx i (Nat.lt_of_lt_of_le hi h.fr.size)))⟩
theorem frB {X : Nat → Prop} {B : Nat} (h : TwoL w0 w b1 b2 n l p q R S T1 T2) (_hB : B ≤ w.heap.size) (h1 : ∀ k, T1 k → k < B) (h2 : ∀ k, T2 k → k < B) (h0 : w0.heap.size ≤ B) (f : Fr X w w') (hx : ∀ k, X k → B ≤ k) : TwoL w0 w' b1 b2 n l p q R S T1 T2 :=
  ⟨h.s.fr f (fun k hk hh => by have := h1 k hk; have := hx k hh; omega), h.t.fr f (fun k hk hh => by have := h2 k hk; have := hx k hh; omega), h.dis, h.n1, h.n2, h.fr.trans' f (fun i hi hh => by have := hx i hh; omega)⟩
theorem stepS {e : Ending} (h : TwoL w0 w b1 b2 n l p q R S T1 T2) (hp : StepPost w b1 n l p R' T1 e w') : e = .returned (.tuple #[]) ∧ ∃ T1', TwoL w0 w' b1 b2 n l p q R' S T1' T2 := by
  obtain ⟨he, T', h1, h2, h3⟩ := hp
  refine ⟨he, T', h1, h.t.fr h3 (fun k hk e => h.dis k (by rw [e]; exact h.s.tb) hk), fun k hk hk2 => ?_, fun k hk => ?_, h.n2, h.fr.trans' h3 (fun i hi e => by have := h.n1 b1 h.s.tb; have e : i = b1 := e; omega)⟩
  · rcases h2 k hk with q | q
    · exact h.dis k q hk2
    · have := h.t.lt k hk2; omega
  · rcases h2 k hk with q | q
    · exact h.n1 k q
    · have := h.fr.size; omega
theorem stepT {e : Ending} {S' : Nat → Nat → Th} (h : TwoL w0 w b1 b2 n l p q R S T1 T2) (hp : StepPost w b2 n l q S' T2 e w') : e = .returned (.tuple #[]) ∧ ∃ T2', TwoL w0 w' b1 b2 n l p q R S' T1 T2' := by
  obtain ⟨he, T', h1, h2, h3⟩ := hp
  refine ⟨he, T', h.s.fr h3 (fun k hk e => h.dis k hk (by rw [e]; exact h.t.tb)), h1, fun k hk hk2 => ?_, h.n1, fun k hk => ?_, h.fr.trans' h3 (fun i hi e => by have := h.n2 b2 h.t.tb; have e : i = b2 := e; omega)⟩
  · rcases h2 k hk2 with q | q
    · exact h.dis k hk q
    · have := h.s.lt k hk; omega
  · rcases h2 k hk with q | q
    · exact h.n2 k q
    · have := h.fr.size; omega
end TwoL
theorem graph1 : graphErr 1 [] = none := by rfl
theorem still1 : ∀ i o, i < 1 → o < 1 → stepTh (costF 1 []) true 1 startT i o = startT i o := by
  intro i o hi ho
  obtain rfl : i = 0 := by omega
  obtain rfl : o = 0 := by omega
  simp [stepTh, scanT, scan1, okT, startT, List.range_succ]
theorem farL_same {C : Nat → Nat → Int} {n : Nat} (hC : CPos n C) (m : Nat) {i : Nat} (hi : i < n) : farL (lineT C true n m) n i = farL (lineT C false n m) n i :=
  List.map_congr_left (fun o ho => by rw [LineT.poison hC m i o hi (List.mem_range.1 ho)])
end Go.Proofs.YtfjempfffdeklaaDoor
