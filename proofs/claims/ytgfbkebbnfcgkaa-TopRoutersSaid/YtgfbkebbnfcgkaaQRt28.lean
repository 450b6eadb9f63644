import Derived.Test.YtgfbkebbnfcgkaaBase
import Derived.Test.YtgfbkebbnfcgkaaQRt7
section
namespace Go
open Go.RowKit

/-- Rows of the call's own: the list and each row in a block of its own, all from 'base' on. -/
structure OMat (H : Array Obj) (base : Nat) (T E : TypeId) (a : Option Addr) (c : Nat) (ob : Option Nat) (rs : List (List Int)) (G C : Nat → Nat) : Prop where
  top : Ownd H T 1 a rs.length c ((List.range rs.length).map fun i => .slice (some ⟨G i, 0, none⟩) (nth rs i).length (C i)) ob
  row : ∀ i, i < rs.length → Ownd H E 1 (some ⟨G i, 0, none⟩) (nth rs i).length (C i) (ivals .i64 (nth rs i)) (some (G i))
  obn : ∀ g, ob = some g → base ≤ g ∧ ∀ i, i < rs.length → G i ≠ g
  gn : ∀ i, i < rs.length → base ≤ G i
  inj : ∀ i j, i < rs.length → j < rs.length → G i = G j → i = j

namespace OMat
variable {H : Array Obj} {base : Nat} {T E : TypeId} {a : Option Addr} {c : Nat} {ob : Option Nat} {rs : List (List Int)} {G C : Nat → Nat} {w w' : World} {S : Nat → Prop}

theorem nil (H : Array Obj) (base : Nat) (T E : TypeId) (G C : Nat → Nat) : OMat H base T E none 0 none [] G C :=
  ⟨Ownd.nil _ _ _, (fun _ hi => absurd hi (Nat.not_lt_zero _)), (fun _ h => nomatch h), (fun _ hi => absurd hi (Nat.not_lt_zero _)), (fun _ _ hi => absurd hi (Nat.not_lt_zero _))⟩

theorem mat (h : OMat H base T E a c ob rs G C) : Mat H a rs (fun i => some ⟨G i, 0, none⟩) C :=
  ⟨h.top.rd, fun i hi => (h.row i hi).rd, fun i hi => (h.row i hi).le⟩

theorem fr (h : OMat w.heap base T E a c ob rs G C) (f : Fr S w w') (hs : ∀ k, base ≤ k → k < w.heap.size → ¬ S k) : OMat w'.heap base T E a c ob rs G C :=
  ⟨h.top.fr f (fun g hg => hs g (h.obn g hg).1 (h.top.lt g hg)), fun i hi => (h.row i hi).fr f (fun g hg => by cases hg; exact hs _ (h.gn i hi) ((h.row i hi).lt _ rfl)), h.obn, h.gn, h.inj⟩

theorem fr' (h : OMat w.heap base T E a c ob rs G C) (f : Fr S w w') (hs : ∀ k, S k → (∀ i, i < rs.length → G i ≠ k) ∧ ob ≠ some k) : OMat w'.heap base T E a c ob rs G C :=
  ⟨h.top.fr f (fun g hg hS => (hs g hS).2 hg), fun i hi => (h.row i hi).fr f (fun g hg hS => by cases hg; exact (hs _ hS).1 i hi rfl), h.obn, h.gn, h.inj⟩

theorem alloc (h : OMat w.heap base T E a c ob rs G C) (o : Obj) : OMat (w.alloc o).heap base T E a c ob rs G C := h.fr ((Fr.refl (fun _ => False) w).alloc o) (fun _ _ _ hf => hf)

/-- 'base' may be lowered. -/
theorem low (h : OMat H base T E a c ob rs G C) {b : Nat} (hb : b ≤ base) : OMat H b T E a c ob rs G C :=
  ⟨h.top, h.row, fun g hg => ⟨Nat.le_trans hb (h.obn g hg).1, (h.obn g hg).2⟩, fun i hi => Nat.le_trans hb (h.gn i hi), h.inj⟩

/-- One row more. -/
theorem push (h : OMat w.heap base T E a c ob rs G C) {r : List Int} {g cr : Nat} (hr : Ownd w.heap E 1 (some ⟨g, 0, none⟩) r.length cr (ivals .i64 r) (some g)) (hg : base ≤ g) (hgo : ob ≠ some g) (hgr : ∀ i, i < rs.length → G i ≠ g)
    (hbw : base ≤ w.heap.size) {a' : Option Addr} {c' : Nat} {ob' : Option Nat} {v : List Value} (hv : v = (List.range rs.length).map (fun i => .slice (some ⟨G i, 0, none⟩) (nth rs i).length (C i)) ++ [.slice (some ⟨g, 0, none⟩) r.length cr])
    (h1 : Ownd w'.heap T 1 a' (rs.length + 1) c' v ob') (h2 : Fr (fun k => ob = some k) w w') (h3 : ob' = ob ∨ ∃ g', ob' = some g' ∧ w.heap.size ≤ g') :
    OMat w'.heap base T E a' c' ob' (rs ++ [r]) (fun i => if i < rs.length then G i else g) (fun i => if i < rs.length then C i else cr) := by
  have hlen : (rs ++ [r]).length = rs.length + 1 := by simp
  have hn : ∀ i, i < rs.length → nth (rs ++ [r]) i = nth rs i := fun i hi => nth_append_left rs [r] i hi
  have hl : nth (rs ++ [r]) rs.length = r := by rw [nth_append_right _ _ _ (Nat.le_refl _), Nat.sub_self]; rfl
  refine ⟨?_, ?_, ?_, ?_, ?_⟩
  · have e : (List.range (rs ++ [r]).length).map (fun i => Value.slice (some ⟨if i < rs.length then G i else g, 0, none⟩) (nth (rs ++ [r]) i).length (if i < rs.length then C i else cr)) = v := by
      rw [hv, hlen, List.range_succ, List.map_append]
      congr 1
      · apply List.map_congr_left
        intro i hi
        have hi' := List.mem_range.1 hi
        rw [if_pos hi', if_pos hi', hn i hi']
      · simp [hl]
    rw [e, hlen]
    exact h1
  · intro i hi
    rw [hlen] at hi
    by_cases h4 : i < rs.length
    · simp only [if_pos h4, hn i h4]
      exact (h.row i h4).fr h2 (fun g' hg' hob => by cases hg'; exact (h.obn _ hob).2 i h4 rfl)
    · obtain rfl : i = rs.length := by omega
      simp only [if_neg h4, hl]
      exact hr.fr h2 (fun g' hg' hob => by cases hg'; exact hgo hob)
  · intro g' hg'
    rcases h3 with h3 | ⟨g2, h3, h5⟩
    · rw [h3] at hg'
      refine ⟨(h.obn _ hg').1, fun i hi => ?_⟩
      rw [hlen] at hi
      by_cases h4 : i < rs.length
      · simp only [if_pos h4]; exact (h.obn _ hg').2 i h4
      · simp only [if_neg h4]; intro e; exact hgo (by rw [hg', e])
    · rw [h3] at hg'
      cases hg'
      refine ⟨Nat.le_trans hbw h5, fun i hi => ?_⟩
      rw [hlen] at hi
      by_cases h4 : i < rs.length
      · simp only [if_pos h4]; intro e; have := (h.row i h4).lt _ rfl; omega
      · simp only [if_neg h4]; intro e; have := hr.lt _ rfl; omega
  · intro i hi
    rw [hlen] at hi
    by_cases h4 : i < rs.length
    · simp only [if_pos h4]; exact h.gn i h4
    · simp only [if_neg h4]; exact hg
  · intro i j hi hj e
    rw [hlen] at hi hj
    by_cases h4 : i < rs.length <;> by_cases h5 : j < rs.length
    · simp only [if_pos h4, if_pos h5] at e; exact h.inj i j h4 h5 e
    · simp only [if_pos h4, if_neg h5] at e; exact absurd e (hgr i h4)
    · simp only [if_neg h4, if_pos h5] at e; exact absurd e.symm (hgr j h5)
    · omega

/-- One number written. -/
theorem set (h : OMat w.heap base T E a c ob rs G C) (i k : Nat) (x : Int) (hi : i < rs.length) : OMat (w.setCell ⟨G i, k, none⟩ (.int .i64 x)).heap base T E a c ob (rs.set i ((nth rs i).set k x)) G C := by
  have hn : ∀ j, nth (rs.set i ((nth rs i).set k x)) j = if j = i then (nth rs i).set k x else nth rs j := fun j => nth_set rs i j _ hi
  have hle : ∀ j, (nth (rs.set i ((nth rs i).set k x)) j).length = (nth rs j).length := fun j => by
    rw [hn]; split
    · rename_i h0; subst h0; simp
    · rfl
  refine ⟨?_, ?_, ?_, ?_, ?_⟩
  · rw [List.length_set]
    have e : (List.range rs.length).map (fun j => Value.slice (some ⟨G j, 0, none⟩) (nth (rs.set i ((nth rs i).set k x)) j).length (C j)) = (List.range rs.length).map (fun j => Value.slice (some ⟨G j, 0, none⟩) (nth rs j).length (C j)) := by
      apply List.map_congr_left
      intro j _
      rw [hle]
    rw [e]
    exact h.top.other (fun hob => (h.obn _ hob).2 i hi rfl) _
  · intro j hj
    rw [List.length_set] at hj
    rw [hle]
    by_cases h4 : j = i
    · subst h4
      rw [hn, if_pos rfl]
      have := (h.row j hj).set rfl k (.int .i64 x)
      have e : (ivals .i64 (nth rs j)).set k (.int .i64 x) = ivals .i64 ((nth rs j).set k x) := by simp [ivals, List.map_set]
      rw [e] at this
      exact this
    · rw [hn, if_neg h4]
      exact (h.row j hj).other (fun e => h4 (h.inj j i hj hi (by injection e))) _
  · intro g hg
    rw [List.length_set]
    exact h.obn g hg
  · rw [List.length_set]; exact h.gn
  · rw [List.length_set]; exact h.inj
end OMat
end Go
end

section
namespace Go.Proofs.Ytgfbkebbnfcgkaa
open Go.RowKit

theorem infoInts : (Try.prog.info? 31).map (fun i => (i.zero, i.size, i.bytes)) = some (some (.slice none 0 0), 1, 24) := by kernel_rfl

/-- A table, or an error. -/
def RetMat (w : World) (r : Except Int (List (List Int))) (e : Ending) (w' : World) : Prop :=
  match r with
  | .error k => RetV w (.tuple #[.slice none 0 0, errv k]) e w'
  | .ok rs => ∃ a c ob G C, e = .returned (.tuple #[.slice a rs.length c, .nilIface]) ∧ OMat w'.heap w.heap.size 31 3 a c ob rs G C ∧ Fr (fun _ => False) w w'
theorem RetMat.err {w w' : World} {r : Except Int (List (List Int))} {k : Int} {e : Ending} (h : r = .error k) (h1 : e = .returned (.tuple #[.slice none 0 0, errv k])) (h2 : Fr (fun _ => False) w w') : RetMat w r e w' := by
  subst h; exact ⟨h1, h2⟩
theorem RetMat.ok {w w' : World} {r : Except Int (List (List Int))} {rs : List (List Int)} {e : Ending} {a : Option Addr} {c : Nat} {ob : Option Nat} {G C : Nat → Nat} (h : r = .ok rs) (h1 : e = .returned (.tuple #[.slice a rs.length c, .nilIface]))
    (h2 : OMat w'.heap w.heap.size 31 3 a c ob rs G C) (h3 : Fr (fun _ => False) w w') : RetMat w r e w' := by
  subst h; exact ⟨a, c, ob, G, C, h1, h2, h3⟩
theorem RetMat.get {w w' : World} {r : Except Int (List (List Int))} {rs : List (List Int)} {n : Nat} {e : Ending} (h : RetMat w r e w') (hr : r = .ok rs) (hn : rs.length = n) :
    ∃ a c ob G C, e = .returned (.tuple #[.slice a n c, .nilIface]) ∧ OMat w'.heap w.heap.size 31 3 a c ob rs G C ∧ Fr (fun _ => False) w w' := by
  subst hr; subst hn; exact h

abbrev at2 (rs : List (List Int)) (i k : Nat) : Int := nth (nth rs i) k
abbrev ran {α : Type} (n : Nat) (F : Nat → α) : List α := (List.range n).map F
theorem ran_len {α : Type} (n : Nat) (F : Nat → α) : (ran n F).length = n := by simp
theorem nth_ran {α : Type} [Inhabited α] (n : Nat) (F : Nat → α) (i : Nat) (h : i < n) : nth (ran n F) i = F i := by simp [nth, List.getD, h]
def oneRow (n i : Nat) : List Int := (List.replicate n (16 : Int)).set i 0
/-- A square table. -/
structure Sq (n : Nat) (rs : List (List Int)) : Prop where
  len : rs.length = n
  rows : ∀ i, i < n → (nth rs i).length = n

theorem OMat.cells {w : World} {base : Nat} {T E : TypeId} {a : Option Addr} {c : Nat} {ob : Option Nat} {rs : List (List Int)} {G C : Nat → Nat} (h : OMat w.heap base T E a c ob rs G C) {n : Nat} (hn : rs.length = n) (hr : ∀ i, i < n → (nth rs i).length = n) (i k : Nat) (hi : i < n) (hk : k < n) :
    ∃ b off, a = some ⟨b, off, none⟩ ∧ w.cell? ⟨b, off + i, none⟩ = some (.slice (some ⟨G i, 0, none⟩) n (C i)) ∧ w.cell? ⟨G i, k, none⟩ = some (.int .i64 (nth (nth rs i) k)) ∧ w.frozen? ⟨G i, k, none⟩ = false := by
  obtain ⟨b, off, h1, _, h2⟩ := h.mat.pos (by omega)
  have h3 := h2 w rfl i (by omega)
  rw [hr i hi] at h3
  obtain ⟨g, h4, h5, _, h6, h7⟩ := (h.row i (by omega)).pos (by rw [hr i hi]; omega)
  cases h4
  exact ⟨b, off, h1, h3, (h6 k (by rw [hr i hi]; omega)).trans (ivals_get .i64 _ k (by rw [hr i hi]; exact hk)), h7 k⟩
end Go.Proofs.Ytgfbkebbnfcgkaa
end
