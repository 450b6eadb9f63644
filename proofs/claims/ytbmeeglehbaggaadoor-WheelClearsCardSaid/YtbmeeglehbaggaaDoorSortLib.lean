import Derived.Test.YtbmeeglehbaggaaDoorRecs
import Derived.Shelf.SlSortCmp.WholeK
import Derived.Shelf.Lay
namespace Go.Proofs.YtbmeeglehbaggaaDoor
open Go.RowKit Go.Shelf Go.Lib Go.Sort

theorem nth_arr {α : Type} [Inhabited α] (l : List α) (i : Nat) : l.toArray[i]! = nth l i := by
  unfold nth
  by_cases h : i < l.length
  · rw [getElem!_pos _ i (by simpa using h)]; simp [h]
  · rw [getElem!_neg _ i (by simpa using h)]; simp [h]
theorem flatK_eq {α : Type} [Inhabited α] (enc : α → List Value) (k : Nat) (hk : ∀ x, (enc x).length = k) (hk0 : 0 < k) (l : List α) : flatK enc k l.toArray = (l.flatMap enc).toArray := by
  apply Array.ext_getElem?
  intro t
  by_cases ht : t < l.length * k
  · have h1 : (flatK enc k l.toArray)[t]? = some (flatK enc k l.toArray)[t]! := by
      have hs : t < (flatK enc k l.toArray).size := by rw [size_flatK]; simpa using ht
      rw [getElem!_pos _ t hs]; simp [hs]
    rw [h1, get_flatK _ _ _ _ (by simpa using ht), nth_arr]
    have hd : t = t / k * k + t % k := by rw [Nat.mul_comm]; exact (Nat.div_add_mod t k).symm
    have hi : t / k < l.length := Nat.div_lt_of_lt_mul (by rw [Nat.mul_comm]; exact ht)
    have hm := Nat.mod_lt t hk0
    have h2 := flat_get enc k hk l (t / k) (t % k) hi hm
    rw [← hd] at h2
    have h3 : (l.flatMap enc).toArray[t]? = (l.flatMap enc)[t]? := by simp
    rw [h3, h2]
    have hl : t % k < (enc (nth l (t / k))).length := by rw [hk]; exact hm
    rw [getElem!_pos (enc (nth l (t / k))) (t % k) hl]; simp [hl]
  · have h1 : (flatK enc k l.toArray).size ≤ t := by rw [size_flatK]; simp; omega
    have h2 : (l.flatMap enc).toArray.size ≤ t := by
      have := flat_len enc k hk l
      simp only [List.size_toArray]; omega
    rw [Array.getElem?_eq_none h1, Array.getElem?_eq_none h2]
theorem putCells_take (F cur : Array Value) (h : F.size ≤ cur.size) : (putCells id 0 F cur).toList.take F.size = F.toList := by
  apply List.ext_getElem?
  intro i
  rw [List.getElem?_take]
  by_cases hi : i < F.size
  · have hc : i < cur.size := by omega
    rw [if_pos hi]
    simp [putCells, hi, hc]
  · rw [if_neg hi]; simp [hi]
/-- A row of the call's own, as the sort wants it. -/
theorem own_holds {α : Type} [Inhabited α] {w : World} {E : TypeId} {k g cap n : Nat} {ob : Option Nat} (enc : α → List Value) (hk : ∀ x, (enc x).length = k) (hk0 : 0 < k) {l : List α} (hO : Ownd w.heap E k (some ⟨g, 0, none⟩) n cap (l.flatMap enc) ob) (hn : n = l.length) (hl : 0 < n) : HoldsK enc k w g 0 l.toArray ∧ g < w.heap.size ∧ ob = some g := by
  obtain ⟨g', h0, h1, h2, h3, h4⟩ := hO.pos hl
  cases h0
  subst hn
  refine ⟨fun t ht => ?_, h2, h1⟩
  rw [size_flatK] at ht
  have ht' : t < l.length * k := by simpa using ht
  refine ⟨?_, h4 _⟩
  rw [Nat.zero_add, h3 t ht', flatK_eq enc k hk hk0]
  have hlen := flat_len enc k hk l
  rw [List.getElem?_eq_getElem (by omega)]
  have hlt : t < (l.flatMap enc).length := by omega
  simp only [id, List.getElem!_toArray]
  rw [getElem!_pos _ t hlt]
theorem own_sorted {α : Type} [Inhabited α] {w : World} {E : TypeId} {k g cap n : Nat} {ob : Option Nat} {xs : List Value} (enc : α → List Value) (hk : ∀ x, (enc x).length = k) (hk0 : 0 < k) (hO : Ownd w.heap E k (some ⟨g, 0, none⟩) n cap xs ob) (d : Array α) (hd : d.size = n) (m : Nat) (os : Array Obj) :
    Ownd (sortWorldK enc k w g 0 m d os).heap E k (some ⟨g, 0, none⟩) n cap (d.toList.flatMap enc) ob ∧ Fr (fun i => i = g) w (sortWorldK enc k w g 0 m d os) := by
  have hd2 : flatK enc k d = (d.toList.flatMap enc).toArray := by rw [← flatK_eq enc k hk hk0]
  have hfl := flat_len enc k hk d.toList
  have hH : ∀ i, i ≠ g → i < w.heap.size → (sortWorldK enc k w g 0 m d os).heap[i]? = w.heap[i]? := by
    intro i hi hl
    show ((w.heap.modify g _) ++ os)[i]? = _
    rw [Array.getElem?_append_left (by simpa using hl), Array.getElem?_modify, if_neg (fun e => hi e.symm)]
  have hsz : w.heap.size ≤ (sortWorldK enc k w g 0 m d os).heap.size := by
    show _ ≤ ((w.heap.modify g _) ++ os).size
    simp
  refine ⟨⟨by rw [hfl]; simp [hd], ?_⟩, rfl, rfl, rfl, hsz, fun i hi hs => hH i hs hi⟩
  rcases hO.is with ⟨h, _⟩ | ⟨g', cur, h0, h1, h2, h3, h4, h5, h6⟩
  · cases h
  · cases h0
    have hlt := (Array.getElem?_eq_some_iff.1 h2).1
    refine .inr ⟨g, putCells id 0 (flatK enc k d) cur, rfl, h1, ?_, h3, h4, by simp [putCells, h5], ?_⟩
    · show ((w.heap.modify g _) ++ os)[g]? = _
      rw [Array.getElem?_append_left (by simpa using hlt), Array.getElem?_modify, if_pos rfl, h2]
      rfl
    · have hs : (flatK enc k d).size = n * k := by rw [size_flatK, hd]
      have := putCells_take (flatK enc k d) cur (by rw [hs, h5]; exact Nat.mul_le_mul_right _ h3)
      rw [hs] at this
      rw [this, hd2]
/-- A world that has grown by draws and new blocks. -/
def Grn (w w' : World) : Prop := ∃ q os, w' = grow (w.drewN q) os
theorem Grn.refl (w : World) : Grn w w := ⟨0, #[], by simp [grow]; rfl⟩
theorem Grn.alloc {w w' : World} (h : Grn w w') (o : Obj) : Grn w (w'.alloc o) := by
  obtain ⟨q, os, rfl⟩ := h
  exact ⟨q, os ++ #[o], by rw [alloc_eq_grow, grow_grow]⟩
theorem Grn.drewN {w w' : World} (h : Grn w w') (n : Nat) : Grn w (w'.drewN n) := by
  obtain ⟨q, os, rfl⟩ := h
  exact ⟨q + n, os, by unfold grow World.drewN; simp [Nat.add_assoc]⟩
theorem Grn.drew {w w' : World} (h : Grn w w') : Grn w w'.drew := h.drewN 1
theorem Grn.trans {w w' w'' : World} (h : Grn w w') (k : Grn w' w'') : Grn w w'' := by
  obtain ⟨q, os, rfl⟩ := h
  obtain ⟨q', os', rfl⟩ := k
  exact ⟨q + q', os ++ os', by unfold grow World.drewN; simp [Nat.add_assoc]⟩
theorem Grn.fr {w w' : World} (h : Grn w w') : Fr (fun _ => False) w w' := by
  obtain ⟨q, os, rfl⟩ := h
  refine ⟨rfl, rfl, rfl, by simp [grow, World.drewN], fun k hk _ => ?_⟩
  show (w.heap ++ os)[k]? = _
  rw [Array.getElem?_append_left hk]
/-- By value; the world has grown. -/
def RetGr (w : World) (v : Value) (e : Ending) (w' : World) : Prop := e = .returned v ∧ Grn w w'
theorem RetGr.mk {w w' : World} {v u x : Value} {e : Ending} (h : x = v) (he : e = .returned u) (hw : Grn w w') (hu : u = x := by rfl) : RetGr w v e w' := by
  subst h; subst hu; exact ⟨he, hw⟩
theorem RetGr.v {w w' : World} {v : Value} {e : Ending} (h : RetGr w v e w') : RetV w v e w' := ⟨h.1, h.2.fr⟩
theorem permIn_perm {α : Type} [Inhabited α] {d d' : Array α} (h : PermIn 0 d.size d d') : d'.toList.Perm d.toList ∧ d'.size = d.size := by
  obtain ⟨h1, _, h3⟩ := h
  refine ⟨?_, h1⟩
  have e1 : (d.extract 0 d.size) = d := by simp
  have e2 : (d'.extract 0 d.size) = d' := by rw [← h1]; simp
  rw [e1, e2] at h3
  exact h3
theorem sortedIn_pw {α : Type} [Inhabited α] {lt : α → α → Bool} {d : Array α} {n : Nat} (h : SortedIn lt 0 n d) (hn : d.size = n) : d.toList.Pairwise (fun x y => lt y x = false) := by
  rw [List.pairwise_iff_getElem]
  intro i j hi hj hij
  have h2 := h i j (Nat.zero_le _) hij (by rw [← hn]; simpa using hj)
  rw [getElem!_pos d j (by simpa using hj), getElem!_pos d i (by simpa using hi)] at h2
  simpa using h2
end Go.Proofs.YtbmeeglehbaggaaDoor
