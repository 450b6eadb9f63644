import Derived.Test.YtbmeeglehbaggaaDoorWireEnt
namespace Go.Proofs.YtbmeeglehbaggaaDoor
open Go.RowKit
theorem filledD_bd {p : List Int} (h : ∀ x ∈ p, 0 ≤ x ∧ x < 256) : ∀ x ∈ filledD p, 0 ≤ x ∧ x < 256 := by
  intro x hx
  unfold filledD at hx
  rcases List.mem_append.1 hx with hx | hx
  · exact h x hx
  · have hx := List.mem_of_mem_drop hx
    have hd : ∀ y ∈ baseF p, 0 ≤ y ∧ y < 256 := by
      unfold baseF
      split <;> decide
    exact hd x hx
/-- The message of bytes, or what is wrong. -/
def RetDec (w : World) (r : Except Int (Bool × List En)) (e : Ending) (w' : World) : Prop := match r with
  | .error k => RetV w (.tuple #[.agg #[.bool false, .slice none 0 0], errv k]) e w'
  | .ok (ask, l) => ∃ a c ob, e = .returned (.tuple #[.agg #[.bool ask, .slice a l.length c], .nilIface]) ∧ Own w'.heap 66 5 a l.length c (l.flatMap En.cells) ob ∧ Fr (fun _ => False) w w' ∧ (∀ g, ob = some g → w.heap.size ≤ g) ∧ (∀ x ∈ l, En.wf x) ∧ l.length ≤ 25
theorem RetDec.err {w w' : World} {r : Except Int (Bool × List En)} {e : Ending} {k : Int} (hr : r = .error k) (he : e = .returned (.tuple #[.agg #[.bool false, .slice none 0 0], errv k])) (hF : Fr (fun _ => False) w w') : RetDec w r e w' := by subst hr; exact ⟨he, hF⟩
theorem RetDec.ok {w w' : World} {r : Except Int (Bool × List En)} {e : Ending} {ask : Bool} {l : List En} {a : Option Addr} {c : Nat} {ob : Option Nat} (hr : r = .ok (ask, l)) (he : e = .returned (.tuple #[.agg #[.bool ask, .slice a l.length c], .nilIface])) (hO : Own w'.heap 66 5 a l.length c (l.flatMap En.cells) ob) (hF : Fr (fun _ => False) w w') (hN : ∀ g, ob = some g → w.heap.size ≤ g) (hw : ∀ x ∈ l, En.wf x) (hl : l.length ≤ 25) : RetDec w r e w' := by
  subst hr; exact ⟨a, c, ob, he, hO, hF, hN, hw, hl⟩
theorem headD_len (b : List Int) : 4 ≤ (headD b).length ∧ (b.length < 4 → (headD b).length = 4) ∧ (4 ≤ b.length → headD b = b) := by
  unfold headD
  by_cases h : b.length < 4
  · rw [if_pos h]
    have : (b ++ [2, 2, 0, 0].drop b.length : List Int).length = 4 := by simp; omega
    exact ⟨by omega, fun _ => this, fun h2 => by omega⟩
  · rw [if_neg h]; exact ⟨by omega, fun h2 => absurd h2 h, fun _ => rfl⟩
theorem headD_bd {b : List Int} (h : ∀ x ∈ b, 0 ≤ x ∧ x < 256) : ∀ x ∈ headD b, 0 ≤ x ∧ x < 256 := by
  unfold headD
  split
  · intro x hx
    rcases List.mem_append.1 hx with hx | hx
    · exact h x hx
    · have hd : ∀ y ∈ ([2, 2, 0, 0] : List Int), 0 ≤ y ∧ y < 256 := by decide
      exact hd x (List.mem_of_mem_drop hx)
  · exact h
/-- What comes of the entries. -/
def outD (b : List Int) (ask : Bool) (P0 : Option (List En)) : Except Int (Bool × List En) := match P0 with
  | none => .error 3
  | some l => if shortD b then .error 6 else .ok (ask, l)
def sliceLen : Value → Nat
  | .slice _ n _ => n
  | _ => 0
/-- What a message's bytes hold still. -/
structure Rest (b rs : List Int) (sh : Bool) (acc : List En) (P0 : Option (List En)) : Prop where
  parts : ∃ k, rs.length ≤ k ∧ P0 = partsD k rs acc
  some' : rs ≠ [] → (b.length - 4) % 20 = rs.length % 20 ∧ 4 ≤ b.length
  none' : rs = [] → (sh = true ↔ shortD b)
  bd : ∀ x ∈ rs, 0 ≤ x ∧ x < 256
theorem Rest.done {b : List Int} {sh : Bool} {acc : List En} {P0 : Option (List En)} (h : Rest b [] sh acc P0) : P0 = some acc ∧ (sh = true ↔ shortD b) := by
  obtain ⟨k, -, hp⟩ := h.parts
  refine ⟨?_, h.none' rfl⟩
  rw [hp]
  cases k with
  | zero => rfl
  | succ k => unfold partsD; rw [if_pos rfl]
theorem Rest.unfold {b rs : List Int} {sh : Bool} {acc : List En} {P0 : Option (List En)} (h : Rest b rs sh acc P0) (hne : rs ≠ []) : ∃ k, (rs.drop 20).length ≤ k ∧ P0 = match entD (filledD (rs.take 20)) with
    | none => none
    | some e => if acc.length = 25 then none else partsD k (rs.drop 20) (acc ++ [e]) := by
  obtain ⟨k, hk, hp⟩ := h.parts
  have hl : 0 < rs.length := List.length_pos_iff.2 hne
  obtain ⟨j, rfl⟩ : ∃ j, k = j + 1 := ⟨k - 1, by omega⟩
  refine ⟨j, by simp; omega, ?_⟩
  rw [hp]
  conv => lhs; unfold partsD
  rw [if_neg hne]
  cases entD (filledD (rs.take 20)) <;> rfl
theorem Rest.next {b rs : List Int} {sh : Bool} {acc : List En} {P0 : Option (List En)} (h : Rest b rs sh acc P0) (hne : rs ≠ []) {x : En} (hx : entD (filledD (rs.take 20)) = some x) (ha : acc.length ≠ 25) : Rest b (rs.drop 20) (decide ((rs.take 20).length < 20)) (acc ++ [x]) P0 := by
  obtain ⟨k, hk, hp⟩ := h.unfold hne
  obtain ⟨h1, h2⟩ := h.some' hne
  have hl : 0 < rs.length := List.length_pos_iff.2 hne
  refine ⟨⟨k, hk, by rw [hp, hx]; simp only; rw [if_neg ha]⟩, fun hd => ?_, fun hd => ?_, fun y hy => h.bd y (List.mem_of_mem_drop hy)⟩
  · have : 0 < (rs.drop 20).length := List.length_pos_iff.2 hd
    rw [List.length_drop] at this ⊢
    exact ⟨by omega, h2⟩
  · have h3 := congrArg List.length hd
    rw [List.length_drop] at h3
    simp only [List.length_nil] at h3
    rw [decide_eq_true_eq, List.length_take]
    unfold shortD
    omega
end Go.Proofs.YtbmeeglehbaggaaDoor
