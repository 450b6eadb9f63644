import Derived.Test.YtfjempfffdeklaaDoorNMat
namespace Go
open Go.RowKit
namespace NMat
/-- Rows just made: all nil. -/
theorem made {H : Array Obj} {g n : Nat} {T E : TypeId} {base : Nat} (h : Ownd H T 1 (some ⟨g, 0, none⟩) n n (List.replicate n (.slice none 0 0)) (some g)) (hb : base ≤ g) :
    NMat H base T E (some ⟨g, 0, none⟩) n (some g) (List.replicate n []) (fun _ => none) (fun _ => 0) (fun _ => none) := by
  refine ⟨?_, ⟨fun i hi => ?_, fun i g' hi hg => (nomatch hg), fun i j g' hi hj h1 => (nomatch h1)⟩, fun g' hg => ?_⟩
  · rw [List.length_replicate]
    have e : (List.range n).map (fun i => Value.slice none (nth (List.replicate n ([] : List Int)) i).length 0) = List.replicate n (.slice none 0 0) := by
      rw [List.eq_replicate_iff]
      refine ⟨by simp, fun b hb => ?_⟩
      obtain ⟨i, hi, rfl⟩ := List.mem_map.1 hb
      rw [nth_replicate _ _ _ (List.mem_range.1 hi)]
      rfl
    rw [e]
    exact h
  · rw [nth_replicate _ _ _ (by simpa using hi)]
    exact Ownd.nil _ _ _
  · cases hg
    exact ⟨hb, fun i hi h => nomatch h⟩
/-- A row replaced. -/
theorem set {w : World} {base : Nat} {T E : TypeId} {a : Option Addr} {c g : Nat} {rs : List (List Int)} {A : Nat → Option Addr} {C : Nat → Nat} {G : Nat → Option Nat} (h : NMat w.heap base T E a c (some g) rs A C G) {i : Nat} (hi : i < rs.length)
    {r : List Int} {ar : Option Addr} {cr : Nat} {gr : Option Nat} (hr : Ownd w.heap E 1 ar r.length cr (ivals .i64 r) gr) (hg : ∀ g', gr = some g' → base ≤ g') (hgr : ∀ j g', j < rs.length → G j = some g' → gr ≠ some g') (hgo : gr ≠ some g) :
    NMat (w.setCell ⟨g, i, none⟩ (.slice ar r.length cr)).heap base T E a c (some g) (rs.set i r) (fun j => if j = i then ar else A j) (fun j => if j = i then cr else C j) (fun j => if j = i then gr else G j) := by
  have hlen : (rs.set i r).length = rs.length := by simp
  have hn : ∀ j, nth (rs.set i r) j = if j = i then r else nth rs j := fun j => nth_set rs i j r hi
  refine ⟨?_, ⟨fun j hj => ?_, fun j g' hj hg' => ?_, fun j k g' hj hk h1 h2 => ?_⟩, fun g' hg' => ?_⟩
  · have e : (List.range (rs.set i r).length).map (fun j => Value.slice (if j = i then ar else A j) (nth (rs.set i r) j).length (if j = i then cr else C j)) = ((List.range rs.length).map fun j => Value.slice (A j) (nth rs j).length (C j)).set i (.slice ar r.length cr) := by
      rw [hlen]
      apply List.ext_getElem (by simp)
      intro k h1 h2
      rw [List.getElem_set]
      simp only [List.getElem_map, List.getElem_range, hn]
      by_cases hk : i = k
      · subst hk; simp
      · rw [if_neg (fun h => hk h.symm), if_neg hk, if_neg (fun h => hk h.symm), if_neg (fun h => hk h.symm)]
    rw [e, hlen]
    exact h.top.set rfl i _
  · rw [hlen] at hj
    rw [hn]
    by_cases hk : j = i
    · simp only [if_pos hk]; exact hr.other hgo _
    · simp only [if_neg hk]; exact (h.rws.row j hj).other ((h.obn g rfl).2 j hj) _
  · rw [hlen] at hj
    by_cases hk : j = i
    · simp only [if_pos hk] at hg'; exact hg g' hg'
    · simp only [if_neg hk] at hg'; exact h.rws.gn j g' hj hg'
  · rw [hlen] at hj hk
    by_cases h4 : j = i <;> by_cases h5 : k = i
    · rw [h4, h5]
    · simp only [if_pos h4] at h1; simp only [if_neg h5] at h2; exact absurd h1 (hgr k g' hk h2)
    · simp only [if_neg h4] at h1; simp only [if_pos h5] at h2; exact absurd h2 (hgr j g' hj h1)
    · simp only [if_neg h4] at h1; simp only [if_neg h5] at h2; exact h.rws.inj j k g' hj hk h1 h2
  · cases hg'
    refine ⟨(h.obn g rfl).1, fun j hj => ?_⟩
    rw [hlen] at hj
    by_cases hk : j = i
    · simp only [if_pos hk]; exact hgo
    · simp only [if_neg hk]; exact (h.obn g rfl).2 j hj
end NMat
end Go
