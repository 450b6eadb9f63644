import Derived.Test.YtfjempfffdeklaaDoorEngSet
import Derived.Test.YtfjempfffdeklaaDoorArgHea
namespace Go
theorem keysE_len {costs : List Int} {E E' : List Ent} {h : Hea} (hs : setE costs E h = none) (he : E'.map (·.key) = keysE E ⟨h.a, h.n⟩) (hl : E.length ≤ 64) : E'.length ≤ 64 := by
  have h1 : E'.length = (keysE E ⟨h.a, h.n⟩).length := by rw [← he]; simp
  unfold keysE at h1
  by_cases hk : hasK E ⟨h.a, h.n⟩
  · rw [if_pos hk] at h1; simp at h1; omega
  · rw [if_neg hk] at h1
    simp at h1
    unfold setE at hs
    split at hs
    · cases hs
    · split at hs
      · cases hs
      · rename_i hn
        have : ¬ E.length = 64 := fun e => hn ⟨hk, e⟩
        omega
/-- An engine beside what is kept of what it heard. -/
structure EH (B : Nat) (T : TypeId) (U : Nat → Prop) (H : Array Obj) (all : List Hea) (E : List Ent) (aA : Option Addr) (cA : Nat) (ob : Option Nat) : Prop where
  own : Own H T 4 aA all.length cA (all.flatMap Hea.cells) ob
  e64 : E.length ≤ 64
  ap : ∀ g, ob = some g → ¬ U g ∧ B < g
  hi : ∀ k, U k → B < k
end Go
namespace Go.Proofs.YtfjempfffdeklaaDoor
open Go.RowKit Go.Maps
theorem infoHea : (Tryd.prog.info? 51).map (fun i => (i.zero, i.size, i.bytes)) = some (some (.agg #[.int .i64 0, .int .u32 0, .int .i64 0, .int .i64 0]), 4, 32) := by kernel_rfl
theorem eng_bestE {U : Nat → Prop} {w : World} {be bn : Nat} {costs : List Int} {all : List Hea} {E : List Ent} {ac : Option Addr} {cc : Nat} (h : Eng U w be bn costs all E ac cc) (a n : Int) : bestE all costs a n = netErr a n := by
  have h1 : ∀ l : List Hea, (∀ x ∈ l, heardE costs.length x = none) → heardsE costs.length l = none := by
    intro l
    induction l with
    | nil => intro _; rfl
    | cons x l ih => intro hl; unfold heardsE; rw [hl x (by simp)]; exact ih (fun y hy => hl y (by simp [hy]))
  unfold bestE
  rw [h.near]
  simp only [h1 all h.ok]
end Go.Proofs.YtfjempfffdeklaaDoor
