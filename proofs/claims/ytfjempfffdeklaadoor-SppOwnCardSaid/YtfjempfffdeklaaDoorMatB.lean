import Derived.Test.YtfjempfffdeklaaDoorSl
import Derived.Test.YtfjempfffdeklaaDoorOMat
namespace Go.Proofs.YtfjempfffdeklaaDoor
open Go.RowKit

theorem infoInts : (Tryd.prog.info? 38).map (fun i => (i.zero, i.size, i.bytes)) = some (some (.slice none 0 0), 1, 24) := by kernel_rfl

/-- A table, or an error. -/
def RetMat (w : World) (r : Except Int (List (List Int))) (e : Ending) (w' : World) : Prop :=
  match r with
  | .error k => RetV w (.tuple #[.slice none 0 0, errv k]) e w'
  | .ok rs => ∃ a c ob G C, e = .returned (.tuple #[.slice a rs.length c, .nilIface]) ∧ OMat w'.heap w.heap.size 38 3 a c ob rs G C ∧ Fr (fun _ => False) w w'
theorem RetMat.err {w w' : World} {r : Except Int (List (List Int))} {k : Int} {e : Ending} (h : r = .error k) (h1 : e = .returned (.tuple #[.slice none 0 0, errv k])) (h2 : Fr (fun _ => False) w w') : RetMat w r e w' := by
  subst h; exact ⟨h1, h2⟩
theorem RetMat.ok {w w' : World} {r : Except Int (List (List Int))} {rs : List (List Int)} {e : Ending} {a : Option Addr} {c : Nat} {ob : Option Nat} {G C : Nat → Nat} (h : r = .ok rs) (h1 : e = .returned (.tuple #[.slice a rs.length c, .nilIface]))
    (h2 : OMat w'.heap w.heap.size 38 3 a c ob rs G C) (h3 : Fr (fun _ => False) w w') : RetMat w r e w' := by
  subst h; exact ⟨a, c, ob, G, C, h1, h2, h3⟩
theorem RetMat.get {w w' : World} {r : Except Int (List (List Int))} {rs : List (List Int)} {n : Nat} {e : Ending} (h : RetMat w r e w') (hr : r = .ok rs) (hn : rs.length = n) :
    ∃ a c ob G C, e = .returned (.tuple #[.slice a n c, .nilIface]) ∧ OMat w'.heap w.heap.size 38 3 a c ob rs G C ∧ Fr (fun _ => False) w w' := by
  subst hr; subst hn; exact h

abbrev at2 (rs : List (List Int)) (i k : Nat) : Int := nth (nth rs i) k
abbrev ran {α : Type} (n : Nat) (F : Nat → α) : List α := (List.range n).map F
theorem ran_len {α : Type} (n : Nat) (F : Nat → α) : (ran n F).length = n := by simp
theorem nth_ran {α : Type} [Inhabited α] (n : Nat) (F : Nat → α) (i : Nat) (h : i < n) : nth (ran n F) i = F i := by simp [nth, List.getD, h]
def oneRow (n i : Nat) : List Int := (List.replicate n (16 : Int)).set i 0
/-- A square table. -/
structure Sq (n : Nat) (rs : List (List Int)) : Prop where
  len : rs.length = n
  rows : ∀ i, i < n → (nth rs i).length = n

theorem OMat.cells {w : World} {base : Nat} {T E : TypeId} {a : Option Addr} {c : Nat} {ob : Option Nat} {rs : List (List Int)} {G C : Nat → Nat} (h : OMat w.heap base T E a c ob rs G C) {n : Nat} (hn : rs.length = n) (hr : ∀ i, i < n → (nth rs i).length = n) (i k : Nat) (hi : i < n) (hk : k < n) :
    ∃ b off, a = some ⟨b, off, none⟩ ∧ w.cell? ⟨b, off + i, none⟩ = some (.slice (some ⟨G i, 0, none⟩) n (C i)) ∧ w.cell? ⟨G i, k, none⟩ = some (.int .i64 (nth (nth rs i) k)) ∧ w.frozen? ⟨G i, k, none⟩ = false := by
  obtain ⟨b, off, h1, _, h2⟩ := h.mat.pos (by omega)
  have h3 := h2 w rfl i (by omega)
  rw [hr i hi] at h3
  obtain ⟨g, h4, h5, _, h6, h7⟩ := (h.row i (by omega)).pos (by rw [hr i hi]; omega)
  cases h4
  exact ⟨b, off, h1, h3, (h6 k (by rw [hr i hi]; omega)).trans (ivals_get .i64 _ k (by rw [hr i hi]; exact hk)), h7 k⟩
end Go.Proofs.YtfjempfffdeklaaDoor
