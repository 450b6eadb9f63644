import Derived.Test.YtenaboichkejhaaDoorOwn1
import Derived.Deep.LoopGhost
namespace Go.Proofs.YtenaboichkejhaaDoor
open Go.RowKit

/-! ### The plain model: marks along a path -/
def mark1 (nx : List Int) (v : Int) : Nat → List Int → Int → List Int × Int
  | 0, m, k => (m, k)
  | f + 1, m, k => if 0 ≤ k ∧ nth m k.toNat = 0 then mark1 nx v f (m.set k.toNat v) (nth nx k.toNat) else (m, k)
def mark2 (nx met : List Int) (v : Int) : Nat → List Bool → Int → List Bool
  | 0, o, _ => o
  | f + 1, o, k => if 0 ≤ k ∧ nth met k.toNat = v ∧ nth o k.toNat = false then mark2 nx met v f (o.set k.toNat true) (nth nx k.toNat) else o
def zeros (m : List Int) : Nat := (m.map fun x => if x = 0 then 1 else 0).sum
def falses (o : List Bool) : Nat := (o.map fun x => if x = false then 1 else 0).sum
theorem sum_setL : ∀ (l : List Nat) (i x : Nat) (h : i < l.length), (l.set i x).sum + l[i] = l.sum + x
  | [], _, _, h => by simp at h
  | a :: l, 0, x, _ => by simp; omega
  | a :: l, i + 1, x, h => by
    have := sum_setL l i x (by simpa using h)
    simp only [List.set_cons_succ, List.sum_cons, List.getElem_cons_succ]; omega
theorem zeros_set {m : List Int} {k : Nat} {v : Int} (hk : k < m.length) (h0 : nth m k = 0) (hv : v ≠ 0) : zeros (m.set k v) + 1 = zeros m := by
  have h := sum_setL (m.map fun x => if x = 0 then 1 else 0) k 0 (by simpa using hk)
  have e : (m.set k v).map (fun x => if x = 0 then 1 else 0) = (m.map fun x => if x = 0 then 1 else 0).set k 0 := by simp [List.map_set, hv]
  have e2 : (m.map fun x => if x = 0 then 1 else 0)[k]'(by simpa using hk) = 1 := by rw [List.getElem_map, ← nth_eq m k hk, h0]; rfl
  rw [e2] at h
  unfold zeros
  rw [e]
  omega
theorem falses_set {o : List Bool} {k : Nat} (hk : k < o.length) (h0 : nth o k = false) : falses (o.set k true) + 1 = falses o := by
  have h := sum_setL (o.map fun x => if x = false then 1 else 0) k 0 (by simpa using hk)
  have e : (o.set k true).map (fun x => if x = false then 1 else 0) = (o.map fun x => if x = false then 1 else 0).set k 0 := by simp [List.map_set]
  have e2 : (o.map fun x => if x = false then 1 else 0)[k]'(by simpa using hk) = 1 := by rw [List.getElem_map, ← nth_eq o k hk, h0]; rfl
  rw [e2] at h
  unfold falses
  rw [e]
  omega
theorem zeros_pos {m : List Int} {k : Nat} (hk : k < m.length) (h0 : nth m k = 0) : 0 < zeros m := by
  have := zeros_set (v := 1) hk h0 (by decide); omega
theorem falses_pos {o : List Bool} {k : Nat} (hk : k < o.length) (h0 : nth o k = false) : 0 < falses o := by
  have := falses_set hk h0; omega
def loopStep (nx : List Int) (s : List Int × List Bool) (i : Nat) : List Int × List Bool :=
  let r := mark1 nx ((i : Int) + 1) (zeros s.1) s.1 i
  (r.1, mark2 nx r.1 ((i : Int) + 1) (falses s.2) s.2 r.2)
def loopSt (nx : List Int) (i : Nat) : List Int × List Bool := (List.range i).foldl (loopStep nx) (List.replicate nx.length 0, List.replicate nx.length false)
theorem loopSt_succ (nx : List Int) (i : Nat) : loopSt nx (i + 1) = loopStep nx (loopSt nx i) i := by unfold loopSt; rw [List.range_succ, List.foldl_append]; rfl
def onL (o : List Bool) (k : Nat) : List Int := ((List.range k).filter fun i => nth o i).map (fun i : Nat => (i : Int))
def badNx (n : Nat) (x : Int) : Prop := x < -1 ∨ (n : Int) ≤ x
instance (n : Nat) (x : Int) : Decidable (badNx n x) := by unfold badNx; infer_instance
def loopsE (nx : List Int) : Except Int (List Int) := if ∃ x ∈ nx, badNx nx.length x then .error 1 else .ok (onL (loopSt nx nx.length).2 nx.length)
theorem onL_yes {o : List Bool} {k : Nat} (h : nth o k = true) : onL o (k + 1) = onL o k ++ [(k : Int)] := by
  unfold onL; rw [List.range_succ, List.filter_append]; simp [h]
theorem onL_no {o : List Bool} {k : Nat} (h : nth o k = false) : onL o (k + 1) = onL o k := by
  unfold onL; rw [List.range_succ, List.filter_append]; simp [h]
theorem onL_le {o : List Bool} {k : Nat} : (onL o k).length ≤ k := by
  unfold onL; rw [List.length_map]; exact Nat.le_trans (List.length_filter_le _ _) (by simp)

def lerr : Bool → Value
  | true => errv 1
  | false => .nilIface
set_option maxRecDepth 100000 in
set_option maxHeartbeats 1000000 in
theorem lcheck_any {n : Nat} (nx : List Int) (a : Option Addr) (c : Nat) (w : World) (hn : nx.length = n) (hr : Ints w.heap a nx) (hl : n ≤ 9223372036854775807) :
    Calls Tryd.prog 15 #[.slice a n c] w (fun e w' => e = .returned (lerr (decide (∃ x ∈ nx, badNx n x))) ∧ w = w') := by
  go_enter Tryd.func15, Tryd.ntmps15
  have HN := Lib.hid hn
  clear hn
  go_wp2
  go_loop [7] (fun s => ∃ k : Nat, k ≤ n ∧ s = .int .i64 k ∧ Hid (∀ x ∈ nx.take k, ¬ badNx n x)) (fun s => n - (intOf s).toNat)
  case atStart => exact ⟨0, by omega, rfl, by simp [Hid]⟩
  case round =>
    obtain ⟨k, hk, rfl, hB⟩ := hrel
    by_cases hlt : k < n
    · obtain ⟨b, off, rfl, hb, hc⟩ := Ints.pos hr (by have := HN.out; omega)
      have c0 := hc w rfl k (by rw [HN.out]; exact hlt)
      have hm := nth_mem nx k (by rw [HN.out]; exact hlt)
      have ht := take_succ_nth nx k (by rw [HN.out]; exact hlt)
      have HM := Lib.hid hm
      have HT := Lib.hid ht
      clear hc hm ht
      generalize nth nx k = x at *
      by_cases hx : x < -1 ∨ (n : Int) ≤ x
      · have hX := Lib.hid (show decide (∃ x ∈ nx, badNx n x) = true from decide_eq_true ⟨x, HM.out, hx⟩)
        go_wp2
        all_goals go_ret
        all_goals exact ⟨by rw [hX.out]; rfl, rfl⟩
      · have h1 : ¬ x < -1 := by omega
        have h2 : ¬ (n : Int) ≤ x := by omega
        have hB' : Hid (∀ y ∈ nx.take (k + 1), ¬ badNx n y) := fun y hy => by
          rw [HT.out] at hy
          rcases List.mem_append.1 hy with hy | hy
          · exact hB.out y hy
          · rw [List.mem_singleton.1 hy]; exact hx
        clear hx
        go_wp2
        go_round
        case rel => exact ⟨k + 1, by omega, by go_num, hB'⟩
        case measure => simp [intOf]; omega
    · obtain rfl : k = n := by omega
      have hX := Lib.hid (show decide (∃ x ∈ nx, badNx k x) = false from decide_eq_false (fun ⟨x, hx, h⟩ => hB.out x (by rw [List.take_of_length_le (by have := HN.out; omega)]; exact hx) h))
      go_wp2
      go_ret
      exact ⟨by rw [hX.out]; rfl, rfl⟩
end Go.Proofs.YtenaboichkejhaaDoor
