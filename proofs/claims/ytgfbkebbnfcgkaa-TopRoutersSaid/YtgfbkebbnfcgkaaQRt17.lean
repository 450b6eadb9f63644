import Derived.Test.YtgfbkebbnfcgkaaQRt16
import Derived.Test.YtgfbkebbnfcgkaaInsLib
import Derived.Deep.CutBlock
import Derived.Deep.CutRange
section
namespace Go
theorem Rd.takeK {H : Array Obj} {a : Option Addr} {n sz : Nat} {xs : List Value} (h : Rd H a n sz xs) (k : Nat) (hk : k ≤ n) : Rd H a k sz (xs.take (k * sz)) := by
  have hl := h.len
  have hm : k * sz ≤ n * sz := Nat.mul_le_mul_right _ hk
  refine ⟨by rw [List.length_take, hl, Nat.min_eq_left hm], ?_⟩
  rcases h.at' with h1 | ⟨b, off, h1, h2, h3⟩
  · left; rw [h1]; simp
  · right
    refine ⟨b, off, h1, h2, fun w hw i hi => ?_⟩
    rw [List.length_take] at hi
    rw [h3 w hw i (by omega), List.getElem?_take, if_pos (by omega)]
theorem Rd.dropK {H : Array Obj} {b off n sz : Nat} {xs : List Value} (h : Rd H (some ⟨b, off, none⟩) n sz xs) (k : Nat) (hk : k ≤ n) : Rd H (some ⟨b, off + k * sz, none⟩) (n - k) sz (xs.drop (k * sz)) := by
  have hl := h.len
  refine ⟨by rw [List.length_drop, hl, Nat.sub_mul], ?_⟩
  rcases h.at' with h1 | ⟨b', off', h1, h2, h3⟩
  · left; rw [h1]; simp
  · cases h1
    right
    refine ⟨b, off + k * sz, rfl, h2, fun w hw i hi => ?_⟩
    rw [List.length_drop] at hi
    rw [Nat.add_assoc, h3 w hw (k * sz + i) (by omega), List.getElem?_drop]
end Go
namespace Go.Proofs.Ytgfbkebbnfcgkaa
open Go.RowKit

theorem nt_flat_one (l : List Nt) : ∀ u ∈ l.flatMap Nt.cells, u.oneCell' = true := fun u hu => by
  obtain ⟨y, _, hy⟩ := List.mem_flatMap.1 hu
  exact nt_one y u hy
theorem ordered_step (l : List Nt) (i : Nat) (h : i < l.length) : ordered (l.take (i + 1)) = nIns (ordered (l.take i)) (nth l i) := by rw [take_succ_nth l i h, ordered_snoc]

/-- What stands at the end of a round of Ordered. -/
theorem ordered_rel (l : List Nt) (i : Nat) (a3 : Option Addr) (c3 : Nat) (ob3 : Option Nat) (w wc w2 w3 : World) (ob2 : Option Nat) (cA cB : List Value) (x : Nt) (n3 : Nat) (xs : List Value) (hil : i < l.length) (he : n3 = i + 1) (hxs : xs = cA ++ Nt.cells x ++ cB)
    (hS : cA ++ Nt.cells x ++ cB = (ordered (l.take (i + 1))).flatMap Nt.cells)
    (v1 : Ownd w3.heap 34 2 a3 n3 c3 xs ob3) (v2 : Fr (fun k => ob2 = some k) w2 w3) (v3 : ob3 = ob2 ∨ ∃ g, ob3 = some g ∧ w2.heap.size ≤ g)
    (hF : Fr (fun _ => False) w w2) (hN : ∀ g, ob2 = some g → wc.heap.size ≤ g) (hs : w.heap.size ≤ wc.heap.size) :
    ∃ (i' : Nat) (a : Option Addr) (c : Nat) (ob : Option Nat), i' ≤ l.length ∧ Value.int .i64 ((i : Int) + 1) = .int .i64 (i' : Nat) ∧ Value.slice a3 n3 c3 = .slice a i' c ∧ Ownd w3.heap 34 2 a i' c ((ordered (l.take i')).flatMap Nt.cells) ob ∧ Fr (fun _ => False) w w3 ∧ (∀ g, ob = some g → w.heap.size ≤ g) ∧ (i' = 0 → a = none ∧ c = 0) := by
  subst he
  rw [hxs, hS] at v1
  refine ⟨i + 1, a3, c3, ob3, by omega, rfl, rfl, v1, Fr.app hF v2 (fun g h => Nat.le_trans hs (hN g h)), fun g h => ?_, fun h => absurd h (by omega)⟩
  rcases v3 with v3 | ⟨g', v3, h4⟩
  · rw [v3] at h; exact Nat.le_trans hs (hN g h)
  · rw [v3] at h; cases h; exact Nat.le_trans hF.size h4


end Go.Proofs.Ytgfbkebbnfcgkaa
end
