import Derived.Test.YtfjempfffdeklaaDoorTriePut
import Derived.Test.YtfjempfffdeklaaDoorTrieFind
import Derived.Test.YtfjempfffdeklaaDoorPlc
namespace Go.Proofs.YtfjempfffdeklaaDoor
open Go.RowKit

/-! Nets put one by one, in any order: what is there, by which number. -/
structure Filled (l M C : List Nt) (V : Nt → Int) : Prop where
  mem : ∀ x, x ∈ C ↔ x ∈ M ∧ netErr x.a x.n = none
  val : ∀ x ∈ C, IsPlc l x (V x)
  len : C.length ≤ M.length
theorem putC_mem {C : List Nt} {x y : Nt} : y ∈ putC C x ↔ y = x ∨ y ∈ C := by
  unfold putC
  split
  · rename_i h
    constructor
    · exact .inr
    · intro hh
      rcases hh with e | hh
      · rw [e]; exact h
      · exact hh
  · exact nIns_mem
theorem putC_len (C : List Nt) (x : Nt) : (putC C x).length ≤ C.length + 1 := by
  unfold putC
  split
  · omega
  · rw [nIns_len]; omega
namespace Filled
variable {l M M' C C' : List Nt} {V V' : Nt → Int} {x : Nt} {v : Int}
theorem nil (l : List Nt) (V : Nt → Int) : Filled l [] [] V := ⟨fun x => by simp, (fun _ h => nomatch h), by simp⟩
theorem bad (h : Filled l M C V) (hM : ∀ y, y ∈ M' ↔ y ∈ M ∨ y = x) (hl : M'.length = M.length + 1) {q : Int} (hx : netErr x.a x.n = some q) : Filled l M' C V := by
  refine ⟨fun y => ?_, h.val, by have := h.len; omega⟩
  rw [h.mem, hM]
  constructor
  · rintro ⟨h1, h2⟩; exact ⟨.inl h1, h2⟩
  · rintro ⟨h1 | h1, h2⟩
    · exact ⟨h1, h2⟩
    · subst h1; rw [hx] at h2; cases h2
theorem put (h : Filled l M C V) (hM : ∀ y, y ∈ M' ↔ y ∈ M ∨ y = x) (hl : M'.length = M.length + 1) (hx : netErr x.a x.n = none) (hv : V' x = v) (hp : IsPlc l x v) (hV : ∀ y ∈ C, y ≠ x → V' y = V y) : Filled l M' (putC C x) V' := by
  refine ⟨fun y => ?_, fun y hy => ?_, by have := h.len; have := putC_len C x; omega⟩
  · rw [putC_mem, h.mem, hM]
    constructor
    · rintro (h1 | ⟨h1, h2⟩)
      · subst h1; exact ⟨.inr rfl, hx⟩
      · exact ⟨.inl h1, h2⟩
    · rintro ⟨h1 | h1, h2⟩
      · exact .inr ⟨h1, h2⟩
      · exact .inl h1
  · by_cases e : y = x
    · subst e; rw [hv]; exact hp
    · have hyC := (putC_mem.1 hy).resolve_left e
      rw [hV y hyC e]
      exact h.val y hyC
theorem full (h : Filled l M C V) (hM : M.length < 64) : C.length ≠ 64 := by have := h.len; omega
end Filled
theorem filled_same {l M M' C C' : List Nt} {V V' : Nt → Int} (h : Filled l M C V) (g : Filled l M' C' V') (hM : ∀ x, x ∈ M ↔ x ∈ M') (hs : NSorted C) (gs : NSorted C') : C = C' ∧ ∀ x ∈ C, V x = V' x := by
  have e : C = C' := ns_ext hs gs (fun x => by rw [h.mem, g.mem, hM])
  subst e
  exact ⟨rfl, fun x hx => (h.val x hx).one (g.val x hx)⟩
theorem findV_same {C : List Nt} {V V' : Nt → Int} (h : ∀ x ∈ C, V x = V' x) (a : Int) : findV C V a = findV C V' a := by
  unfold findV
  cases hd : deepK C a 33 with
  | none => rfl
  | some k => simp only; rw [h _ (deepK_mem hd).2]
theorem take_mem_succ (l : List Nt) {i : Nat} (h : i < l.length) (y : Nt) : y ∈ l.take (i + 1) ↔ y ∈ l.take i ∨ y = nth l i := by
  rw [take_succ_nth l i h]; simp
theorem drop_mem_succ (l : List Nt) {i : Nat} (h : i < l.length) (y : Nt) : y ∈ l.drop (l.length - (i + 1)) ↔ y ∈ l.drop (l.length - i) ∨ y = nth l (l.length - 1 - i) := by
  rw [drop_nth l (l.length - (i + 1)) (by omega), show l.length - (i + 1) + 1 = l.length - i by omega, show l.length - (i + 1) = l.length - 1 - i by omega]
  simp [or_comm]
end Go.Proofs.YtfjempfffdeklaaDoor
