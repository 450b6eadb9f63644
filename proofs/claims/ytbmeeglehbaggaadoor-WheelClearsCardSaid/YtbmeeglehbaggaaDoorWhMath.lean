import Derived.Test.YtbmeeglehbaggaaDoorMapL
namespace Go.Proofs.YtbmeeglehbaggaaDoor
open Go.RowKit

/-! What is due: times by ids. -/
abbrev Tms := Int → Option Int
def setF (E : Tms) (i a : Int) : Tms := fun j => if j = i then some a else E j
def clrF (E : Tms) (i : Int) : Tms := fun j => if j = i then none else E j
def aftF (E : Tms) (now : Int) : Tms := fun j => match E j with
  | some a => if a ≤ now then none else some a
  | none => none
def setE (now i a : Int) : Option Int := if i < 0 ∨ 64 ≤ i ∨ a ≤ now ∨ 1099511627776 < a then some 1 else none
def clrE (E : Tms) (i : Int) : Option Int := if i < 0 ∨ 64 ≤ i then some 1 else if E i = none then some 2 else none
def tmLt (p q : Int × Int) : Prop := p.1 < q.1 ∨ (p.1 = q.1 ∧ p.2 < q.2)
instance (p q : Int × Int) : Decidable (tmLt p q) := by unfold tmLt; infer_instance
abbrev TSorted (l : List (Int × Int)) : Prop := l.Pairwise tmLt
/-- All that is due by now: (time, id), in order. -/
def DueIs (E : Tms) (now : Int) (l : List (Int × Int)) : Prop := (∀ p, p ∈ l ↔ E p.2 = some p.1 ∧ p.1 ≤ now) ∧ TSorted l
theorem tsorted_ext {l m : List (Int × Int)} (hl : TSorted l) (hm : TSorted m) (h : ∀ x, x ∈ l ↔ x ∈ m) : l = m := by
  induction l generalizing m with
  | nil =>
    cases m with
    | nil => rfl
    | cons y m => exact absurd ((h y).2 (by simp)) (by simp)
  | cons x l ih =>
    cases m with
    | nil => exact absurd ((h x).1 (by simp)) (by simp)
    | cons y m =>
      obtain ⟨h1, h2⟩ := List.pairwise_cons.1 hl
      obtain ⟨h3, h4⟩ := List.pairwise_cons.1 hm
      have hxy : x = y := by
        rcases List.mem_cons.1 ((h x).1 (by simp)) with e | e
        · exact e
        · rcases List.mem_cons.1 ((h y).2 (by simp)) with e2 | e2
          · exact e2.symm
          · have q1 := h3 x e
            have q2 := h1 y e2
            unfold tmLt at q1 q2
            exact absurd q1 (by omega)
      subst hxy
      have irr : ∀ z : Int × Int, ¬ tmLt z z := fun z hz => by unfold tmLt at hz; omega
      congr 1
      refine ih h2 h4 (fun z => ?_)
      constructor
      · intro hz
        rcases List.mem_cons.1 ((h z).1 (by simp [hz])) with e | e
        · subst e; exact absurd (h1 z hz) (irr z)
        · exact e
      · intro hz
        rcases List.mem_cons.1 ((h z).2 (by simp [hz])) with e | e
        · subst e; exact absurd (h3 z hz) (irr z)
        · exact e
theorem dueIs_one {E : Tms} {now : Int} {l m : List (Int × Int)} (h : DueIs E now l) (g : DueIs E now m) : l = m := tsorted_ext h.2 g.2 (fun p => by rw [h.1, g.1])
theorem tsorted_of {l : List (Int × Int)} (h : l.Pairwise (fun x y => ¬ tmLt y x)) (hn : l.Nodup) : TSorted l := by
  induction l with
  | nil => exact List.Pairwise.nil
  | cons x l ih =>
    obtain ⟨h1, h2⟩ := List.pairwise_cons.1 h
    obtain ⟨h3, h4⟩ := List.nodup_cons.1 hn
    refine List.pairwise_cons.2 ⟨fun y hy => ?_, ih h2 h4⟩
    have hne : x ≠ y := fun e => h3 (e ▸ hy)
    have := h1 y hy
    have hne2 : ¬ (x.1 = y.1 ∧ x.2 = y.2) := fun e => hne (Prod.ext e.1 e.2)
    unfold tmLt at *
    omega

/-- How many have a time. -/
def Counts (E : Tms) (n : Nat) : Prop := ∃ A : List Int, A.Nodup ∧ (∀ i, i ∈ A ↔ E i ≠ none) ∧ A.length = n
theorem nodup_len_le {l m : List Int} (hl : l.Nodup) (h : ∀ x ∈ l, x ∈ m) : l.length ≤ m.length := by
  induction l generalizing m with
  | nil => simp
  | cons x l ih =>
    obtain ⟨h1, h2⟩ := List.nodup_cons.1 hl
    have hx := h x (by simp)
    have := ih (m := m.erase x) h2 (fun y hy => by
      have hne : y ≠ x := fun e => h1 (e ▸ hy)
      exact (List.mem_erase_of_ne hne).2 (h y (by simp [hy])))
    rw [List.length_erase_of_mem hx] at this
    have hp : 0 < m.length := List.length_pos_of_mem hx
    simp only [List.length_cons]
    omega
theorem counts_one {E : Tms} {n m : Nat} (h : Counts E n) (g : Counts E m) : n = m := by
  obtain ⟨A, a1, a2, rfl⟩ := h
  obtain ⟨B, b1, b2, rfl⟩ := g
  exact Nat.le_antisymm (nodup_len_le a1 (fun x hx => (b2 x).2 ((a2 x).1 hx))) (nodup_len_le b1 (fun x hx => (a2 x).2 ((b2 x).1 hx)))
theorem counts_none {n : Nat} (h : Counts (fun _ => none) n) : n = 0 := by
  obtain ⟨A, a1, a2, rfl⟩ := h
  cases A with
  | nil => rfl
  | cons x A => exact absurd rfl ((a2 x).1 (by simp))
theorem len64 {l : List Int} (hn : l.Nodup) (hb : ∀ x ∈ l, 0 ≤ x ∧ x < 64) : l.length ≤ 64 := by
  have := nodup_len_le (m := (List.range 64).map (fun k : Nat => (k : Int))) hn (fun x hx => by
    have := hb x hx
    exact List.mem_map.2 ⟨x.toNat, List.mem_range.2 (by omega), by omega⟩)
  simpa using this
end Go.Proofs.YtbmeeglehbaggaaDoor
