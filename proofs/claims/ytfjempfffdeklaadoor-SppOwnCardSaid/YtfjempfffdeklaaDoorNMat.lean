import Derived.Test.YtfjempfffdeklaaDoorMatB
namespace Go
open Go.RowKit

/-- Rows of integers of the call's own, nil ones too, each in a block of its own, from 'base' on. -/
structure Rws (H : Array Obj) (base : Nat) (E : TypeId) (rs : List (List Int)) (A : Nat → Option Addr) (C : Nat → Nat) (G : Nat → Option Nat) : Prop where
  row : ∀ i, i < rs.length → Ownd H E 1 (A i) (nth rs i).length (C i) (ivals .i64 (nth rs i)) (G i)
  gn : ∀ i g, i < rs.length → G i = some g → base ≤ g
  inj : ∀ i j g, i < rs.length → j < rs.length → G i = some g → G j = some g → i = j
namespace Rws
variable {H : Array Obj} {base : Nat} {E : TypeId} {rs : List (List Int)} {A : Nat → Option Addr} {C : Nat → Nat} {G : Nat → Option Nat} {w w' : World} {S : Nat → Prop}
theorem nil (H : Array Obj) (base : Nat) (E : TypeId) (A : Nat → Option Addr) (C : Nat → Nat) (G : Nat → Option Nat) : Rws H base E [] A C G :=
  ⟨fun _ h => absurd h (Nat.not_lt_zero _), fun _ _ h => absurd h (Nat.not_lt_zero _), fun _ _ _ h => absurd h (Nat.not_lt_zero _)⟩
theorem fr (h : Rws w.heap base E rs A C G) (f : Fr S w w') (hs : ∀ i g, i < rs.length → G i = some g → ¬ S g) : Rws w'.heap base E rs A C G :=
  ⟨fun i hi => (h.row i hi).fr f (fun g hg => hs i g hi hg), h.gn, h.inj⟩
theorem fr0 (h : Rws w.heap base E rs A C G) (f : Fr S w w') (hs : ∀ k, base ≤ k → k < w.heap.size → ¬ S k) : Rws w'.heap base E rs A C G :=
  h.fr f (fun i g hi hg => hs g (h.gn i g hi hg) ((h.row i hi).lt g hg))
theorem low (h : Rws H base E rs A C G) {b : Nat} (hb : b ≤ base) : Rws H b E rs A C G := ⟨h.row, fun i g hi hg => Nat.le_trans hb (h.gn i g hi hg), h.inj⟩
/-- One row more. -/
theorem push (h : Rws w.heap base E rs A C G) {r : List Int} {ar : Option Addr} {cr : Nat} {gr : Option Nat} (hr : Ownd w.heap E 1 ar r.length cr (ivals .i64 r) gr) (hg : ∀ g, gr = some g → base ≤ g) (hgr : ∀ i g, i < rs.length → G i = some g → gr ≠ some g) :
    Rws w.heap base E (rs ++ [r]) (fun i => if i < rs.length then A i else ar) (fun i => if i < rs.length then C i else cr) (fun i => if i < rs.length then G i else gr) := by
  have hlen : (rs ++ [r]).length = rs.length + 1 := by simp
  have hn : ∀ i, i < rs.length → nth (rs ++ [r]) i = nth rs i := fun i hi => nth_append_left rs [r] i hi
  have hl : nth (rs ++ [r]) rs.length = r := by rw [nth_append_right _ _ _ (Nat.le_refl _), Nat.sub_self]; rfl
  refine ⟨fun i hi => ?_, fun i g hi hg' => ?_, fun i j g hi hj h1 h2 => ?_⟩
  · rw [hlen] at hi
    by_cases h4 : i < rs.length
    · simp only [if_pos h4, hn i h4]; exact h.row i h4
    · obtain rfl : i = rs.length := by omega
      simp only [if_neg h4, hl]; exact hr
  · by_cases h4 : i < rs.length
    · simp only [if_pos h4] at hg'; exact h.gn i g h4 hg'
    · simp only [if_neg h4] at hg'; exact hg g hg'
  · rw [hlen] at hi hj
    by_cases h4 : i < rs.length <;> by_cases h5 : j < rs.length
    · simp only [if_pos h4] at h1; simp only [if_pos h5] at h2; exact h.inj i j g h4 h5 h1 h2
    · simp only [if_pos h4] at h1; simp only [if_neg h5] at h2; exact absurd h2 (hgr i g h4 h1)
    · simp only [if_neg h4] at h1; simp only [if_pos h5] at h2; exact absurd h1 (hgr j g h5 h2)
    · omega
end Rws

/-- A list of such rows. -/
structure NMat (H : Array Obj) (base : Nat) (T E : TypeId) (a : Option Addr) (c : Nat) (ob : Option Nat) (rs : List (List Int)) (A : Nat → Option Addr) (C : Nat → Nat) (G : Nat → Option Nat) : Prop where
  top : Ownd H T 1 a rs.length c ((List.range rs.length).map fun i => .slice (A i) (nth rs i).length (C i)) ob
  rws : Rws H base E rs A C G
  obn : ∀ g, ob = some g → base ≤ g ∧ ∀ i, i < rs.length → G i ≠ some g
namespace NMat
variable {H : Array Obj} {base : Nat} {T E : TypeId} {a : Option Addr} {c : Nat} {ob : Option Nat} {rs : List (List Int)} {A : Nat → Option Addr} {C : Nat → Nat} {G : Nat → Option Nat} {w w' : World} {S : Nat → Prop}
theorem nil (H : Array Obj) (base : Nat) (T E : TypeId) (A : Nat → Option Addr) (C : Nat → Nat) (G : Nat → Option Nat) : NMat H base T E none 0 none [] A C G :=
  ⟨Ownd.nil _ _ _, Rws.nil _ _ _ _ _ _, fun _ h => nomatch h⟩
theorem fr (h : NMat w.heap base T E a c ob rs A C G) (f : Fr S w w') (hs : ∀ k, S k → (∀ i, i < rs.length → G i ≠ some k) ∧ ob ≠ some k) : NMat w'.heap base T E a c ob rs A C G :=
  ⟨h.top.fr f (fun g hg hS => (hs g hS).2 hg), h.rws.fr f (fun i g hi hg hS => (hs g hS).1 i hi hg), h.obn⟩
theorem fr0 (h : NMat w.heap base T E a c ob rs A C G) (f : Fr S w w') (hs : ∀ k, base ≤ k → k < w.heap.size → ¬ S k) : NMat w'.heap base T E a c ob rs A C G :=
  ⟨h.top.fr f (fun g hg => hs g (h.obn g hg).1 (h.top.lt g hg)), h.rws.fr0 f hs, h.obn⟩
theorem alloc (h : NMat w.heap base T E a c ob rs A C G) (o : Obj) : NMat (w.alloc o).heap base T E a c ob rs A C G := h.fr0 ((Fr.refl (fun _ => False) w).alloc o) (fun _ _ _ hf => hf)
theorem low (h : NMat H base T E a c ob rs A C G) {b : Nat} (hb : b ≤ base) : NMat H b T E a c ob rs A C G := ⟨h.top, h.rws.low hb, fun g hg => ⟨Nat.le_trans hb (h.obn g hg).1, (h.obn g hg).2⟩⟩
theorem mat (h : NMat H base T E a c ob rs A C G) : Mat H a rs A C := ⟨h.top.rd, fun i hi => (h.rws.row i hi).rd, fun i hi => (h.rws.row i hi).le⟩
/-- One row more. -/
theorem push (h : NMat w.heap base T E a c ob rs A C G) {r : List Int} {ar : Option Addr} {cr : Nat} {gr : Option Nat} (hr : Ownd w.heap E 1 ar r.length cr (ivals .i64 r) gr) (hg : ∀ g, gr = some g → base ≤ g) (hgr : ∀ i g, i < rs.length → G i = some g → gr ≠ some g) (hgo : ∀ g, ob = some g → gr ≠ some g)
    (hbw : base ≤ w.heap.size) {a' : Option Addr} {c' : Nat} {ob' : Option Nat} {v : List Value} (hv : v = (List.range rs.length).map (fun i => .slice (A i) (nth rs i).length (C i)) ++ [.slice ar r.length cr])
    (h1 : Ownd w'.heap T 1 a' (rs.length + 1) c' v ob') (h2 : Fr (fun k => ob = some k) w w') (h3 : ob' = ob ∨ ∃ g', ob' = some g' ∧ w.heap.size ≤ g') :
    NMat w'.heap base T E a' c' ob' (rs ++ [r]) (fun i => if i < rs.length then A i else ar) (fun i => if i < rs.length then C i else cr) (fun i => if i < rs.length then G i else gr) := by
  have hlen : (rs ++ [r]).length = rs.length + 1 := by simp
  have hn : ∀ i, i < rs.length → nth (rs ++ [r]) i = nth rs i := fun i hi => nth_append_left rs [r] i hi
  have hl : nth (rs ++ [r]) rs.length = r := by rw [nth_append_right _ _ _ (Nat.le_refl _), Nat.sub_self]; rfl
  have hp := h.rws.push hr hg hgr
  have hlt : ∀ i g, i < (rs ++ [r]).length → (if i < rs.length then G i else gr) = some g → g < w.heap.size := fun i g hi hg' => (hp.row i hi).lt g hg'
  refine ⟨?_, hp.fr h2 (fun i g hi hg' hob => ?_), fun g' hg' => ?_⟩
  · have e : (List.range (rs ++ [r]).length).map (fun i => Value.slice (if i < rs.length then A i else ar) (nth (rs ++ [r]) i).length (if i < rs.length then C i else cr)) = v := by
      rw [hv, hlen, List.range_succ, List.map_append]
      congr 1
      · apply List.map_congr_left
        intro i hi
        have hi' := List.mem_range.1 hi
        rw [if_pos hi', if_pos hi', hn i hi']
      · simp [hl]
    rw [e, hlen]
    exact h1
  · by_cases h4 : i < rs.length
    · simp only [if_pos h4] at hg'; exact (h.obn g hob).2 i h4 hg'
    · simp only [if_neg h4] at hg'; exact hgo g hob hg'
  · rcases h3 with h3 | ⟨g2, h3, h5⟩
    · rw [h3] at hg'
      refine ⟨(h.obn _ hg').1, fun i hi => ?_⟩
      by_cases h4 : i < rs.length
      · simp only [if_pos h4]; exact (h.obn _ hg').2 i h4
      · simp only [if_neg h4]; exact hgo _ hg'
    · rw [h3] at hg'
      cases hg'
      exact ⟨Nat.le_trans hbw h5, fun i hi hc => by have := hlt i _ hi hc; omega⟩
end NMat
end Go
