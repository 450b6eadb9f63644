import Derived.Test.YtgfbkebbnfcgkaaRecs
import Derived.Shelf.SlSortCmp.WholeK
import Derived.Shelf.Lay
import Derived.Test.YtgfbkebbnfcgkaaQRt6
import Derived.Test.YtgfbkebbnfcgkaaBase
import Derived.Test.YtgfbkebbnfcgkaaQRt15
import Derived.Test.YtgfbkebbnfcgkaaQRt8
import Derived.Shelf.SlSortCmp.NoneTotal
import Derived.Test.YtgfbkebbnfcgkaaQRt12
import Derived.Test.YtgfbkebbnfcgkaaQRt16
import Derived.Test.YtgfbkebbnfcgkaaQRt17
import Derived.Test.YtgfbkebbnfcgkaaQRt2
import Derived.Test.YtgfbkebbnfcgkaaQRt18
import Derived.Test.YtgfbkebbnfcgkaaInsLib
import Derived.Lib.SliceRun
section
namespace Go.Proofs.Ytgfbkebbnfcgkaa
open Go.RowKit Go.Shelf Go.Lib Go.Sort

theorem nth_arr {α : Type} [Inhabited α] (l : List α) (i : Nat) : l.toArray[i]! = nth l i := by
  unfold nth
  by_cases h : i < l.length
  · rw [getElem!_pos _ i (by simpa using h)]; simp [h]
  · rw [getElem!_neg _ i (by simpa using h)]; simp [h]
theorem flatK_eq {α : Type} [Inhabited α] (enc : α → List Value) (k : Nat) (hk : ∀ x, (enc x).length = k) (hk0 : 0 < k) (l : List α) : flatK enc k l.toArray = (l.flatMap enc).toArray := by
  apply Array.ext_getElem?
  intro t
  by_cases ht : t < l.length * k
  · have h1 : (flatK enc k l.toArray)[t]? = some (flatK enc k l.toArray)[t]! := by
      have hs : t < (flatK enc k l.toArray).size := by rw [size_flatK]; simpa using ht
      rw [getElem!_pos _ t hs]; simp [hs]
    rw [h1, get_flatK _ _ _ _ (by simpa using ht), nth_arr]
    have hd : t = t / k * k + t % k := by rw [Nat.mul_comm]; exact (Nat.div_add_mod t k).symm
    have hi : t / k < l.length := Nat.div_lt_of_lt_mul (by rw [Nat.mul_comm]; exact ht)
    have hm := Nat.mod_lt t hk0
    have h2 := flat_get enc k hk l (t / k) (t % k) hi hm
    rw [← hd] at h2
    have h3 : (l.flatMap enc).toArray[t]? = (l.flatMap enc)[t]? := by simp
    rw [h3, h2]
    have hl : t % k < (enc (nth l (t / k))).length := by rw [hk]; exact hm
    rw [getElem!_pos (enc (nth l (t / k))) (t % k) hl]; simp [hl]
  · have h1 : (flatK enc k l.toArray).size ≤ t := by rw [size_flatK]; simp; omega
    have h2 : (l.flatMap enc).toArray.size ≤ t := by
      have := flat_len enc k hk l
      simp only [List.size_toArray]; omega
    rw [Array.getElem?_eq_none h1, Array.getElem?_eq_none h2]
theorem putCells_take (F cur : Array Value) (h : F.size ≤ cur.size) : (putCells id 0 F cur).toList.take F.size = F.toList := by
  apply List.ext_getElem?
  intro i
  rw [List.getElem?_take]
  by_cases hi : i < F.size
  · have hc : i < cur.size := by omega
    rw [if_pos hi]
    simp [putCells, hi, hc]
  · rw [if_neg hi]; simp [hi]
/-- A row of the call's own, as the sort wants it. -/
theorem own_holds {α : Type} [Inhabited α] {w : World} {E : TypeId} {k g cap n : Nat} {ob : Option Nat} (enc : α → List Value) (hk : ∀ x, (enc x).length = k) (hk0 : 0 < k) {l : List α} (hO : Ownd w.heap E k (some ⟨g, 0, none⟩) n cap (l.flatMap enc) ob) (hn : n = l.length) (hl : 0 < n) : HoldsK enc k w g 0 l.toArray ∧ g < w.heap.size ∧ ob = some g := by
  obtain ⟨g', h0, h1, h2, h3, h4⟩ := hO.pos hl
  cases h0
  subst hn
  refine ⟨fun t ht => ?_, h2, h1⟩
  rw [size_flatK] at ht
  have ht' : t < l.length * k := by simpa using ht
  refine ⟨?_, h4 _⟩
  rw [Nat.zero_add, h3 t ht', flatK_eq enc k hk hk0]
  have hlen := flat_len enc k hk l
  rw [List.getElem?_eq_getElem (by omega)]
  have hlt : t < (l.flatMap enc).length := by omega
  simp only [id, List.getElem!_toArray]
  rw [getElem!_pos _ t hlt]
theorem own_sorted {α : Type} [Inhabited α] {w : World} {E : TypeId} {k g cap n : Nat} {ob : Option Nat} {xs : List Value} (enc : α → List Value) (hk : ∀ x, (enc x).length = k) (hk0 : 0 < k) (hO : Ownd w.heap E k (some ⟨g, 0, none⟩) n cap xs ob) (d : Array α) (hd : d.size = n) (m : Nat) (os : Array Obj) :
    Ownd (sortWorldK enc k w g 0 m d os).heap E k (some ⟨g, 0, none⟩) n cap (d.toList.flatMap enc) ob ∧ Fr (fun i => i = g) w (sortWorldK enc k w g 0 m d os) := by
  have hd2 : flatK enc k d = (d.toList.flatMap enc).toArray := by rw [← flatK_eq enc k hk hk0]
  have hfl := flat_len enc k hk d.toList
  have hH : ∀ i, i ≠ g → i < w.heap.size → (sortWorldK enc k w g 0 m d os).heap[i]? = w.heap[i]? := by
    intro i hi hl
    show ((w.heap.modify g _) ++ os)[i]? = _
    rw [Array.getElem?_append_left (by simpa using hl), Array.getElem?_modify, if_neg (fun e => hi e.symm)]
  have hsz : w.heap.size ≤ (sortWorldK enc k w g 0 m d os).heap.size := by
    show _ ≤ ((w.heap.modify g _) ++ os).size
    simp
  refine ⟨⟨by rw [hfl]; simp [hd], ?_⟩, rfl, rfl, rfl, hsz, fun i hi hs => hH i hs hi⟩
  rcases hO.is with ⟨h, _⟩ | ⟨g', cur, h0, h1, h2, h3, h4, h5, h6⟩
  · cases h
  · cases h0
    have hlt := (Array.getElem?_eq_some_iff.1 h2).1
    refine .inr ⟨g, putCells id 0 (flatK enc k d) cur, rfl, h1, ?_, h3, h4, by simp [putCells, h5], ?_⟩
    · show ((w.heap.modify g _) ++ os)[g]? = _
      rw [Array.getElem?_append_left (by simpa using hlt), Array.getElem?_modify, if_pos rfl, h2]
      rfl
    · have hs : (flatK enc k d).size = n * k := by rw [size_flatK, hd]
      have := putCells_take (flatK enc k d) cur (by rw [hs, h5]; exact Nat.mul_le_mul_right _ h3)
      rw [hs] at this
      rw [this, hd2]
/-- A world that has grown by draws and new blocks. -/
def Grn (w w' : World) : Prop := ∃ q os, w' = grow (w.drewN q) os
theorem Grn.refl (w : World) : Grn w w := ⟨0, #[], by simp [grow]; rfl⟩
theorem Grn.alloc {w w' : World} (h : Grn w w') (o : Obj) : Grn w (w'.alloc o) := by
  obtain ⟨q, os, rfl⟩ := h
  exact ⟨q, os ++ #[o], by rw [alloc_eq_grow, grow_grow]⟩
theorem Grn.drewN {w w' : World} (h : Grn w w') (n : Nat) : Grn w (w'.drewN n) := by
  obtain ⟨q, os, rfl⟩ := h
  exact ⟨q + n, os, by unfold grow World.drewN; simp [Nat.add_assoc]⟩
theorem Grn.drew {w w' : World} (h : Grn w w') : Grn w w'.drew := h.drewN 1
theorem Grn.trans {w w' w'' : World} (h : Grn w w') (k : Grn w' w'') : Grn w w'' := by
  obtain ⟨q, os, rfl⟩ := h
  obtain ⟨q', os', rfl⟩ := k
  exact ⟨q + q', os ++ os', by unfold grow World.drewN; simp [Nat.add_assoc]⟩
theorem Grn.fr {w w' : World} (h : Grn w w') : Fr (fun _ => False) w w' := by
  obtain ⟨q, os, rfl⟩ := h
  refine ⟨rfl, rfl, rfl, by simp [grow, World.drewN], fun k hk _ => ?_⟩
  show (w.heap ++ os)[k]? = _
  rw [Array.getElem?_append_left hk]
/-- By value; the world has grown. -/
def RetGr (w : World) (v : Value) (e : Ending) (w' : World) : Prop := e = .returned v ∧ Grn w w'
theorem RetGr.mk {w w' : World} {v u x : Value} {e : Ending} (h : x = v) (he : e = .returned u) (hw : Grn w w') (hu : u = x := by rfl) : RetGr w v e w' := by
  subst h; subst hu; exact ⟨he, hw⟩
theorem RetGr.v {w w' : World} {v : Value} {e : Ending} (h : RetGr w v e w') : RetV w v e w' := ⟨h.1, h.2.fr⟩
theorem permIn_perm {α : Type} [Inhabited α] {d d' : Array α} (h : PermIn 0 d.size d d') : d'.toList.Perm d.toList ∧ d'.size = d.size := by
  obtain ⟨h1, _, h3⟩ := h
  refine ⟨?_, h1⟩
  have e1 : (d.extract 0 d.size) = d := by simp
  have e2 : (d'.extract 0 d.size) = d' := by rw [← h1]; simp
  rw [e1, e2] at h3
  exact h3
theorem sortedIn_pw {α : Type} [Inhabited α] {lt : α → α → Bool} {d : Array α} {n : Nat} (h : SortedIn lt 0 n d) (hn : d.size = n) : d.toList.Pairwise (fun x y => lt y x = false) := by
  rw [List.pairwise_iff_getElem]
  intro i j hi hj hij
  have h2 := h i j (Nat.zero_le _) hij (by rw [← hn]; simpa using hj)
  rw [getElem!_pos d j (by simpa using hj), getElem!_pos d i (by simpa using hi)] at h2
  simpa using h2
end Go.Proofs.Ytgfbkebbnfcgkaa
end

section
namespace Go.Proofs.Ytgfbkebbnfcgkaa
open Go.RowKit
/-- Ways in new memory, each with a list of its own. -/
structure Alls (base : Nat) (H : Array Obj) (R : List BestR) (aR : Option Addr) (cR : Nat) (ob : Option Nat) : Prop where
  own : Ownd H 49 4 aR R.length cR (R.flatMap BestR.cells) ob
  new : ∀ g, ob = some g → base ≤ g
  row : ∀ x ∈ R, ∃ o, Ownd H 3 1 x.A x.h.length x.C (ivals .i64 x.h) o ∧ ∀ g, o = some g → base ≤ g ∧ ob ≠ some g
  pw : R.Pairwise fun x y => ∀ p, x.A = some p → y.A ≠ some p
namespace Alls
variable {base : Nat} {w w' : World} {R : List BestR} {aR : Option Addr} {cR : Nat} {ob : Option Nat}
theorem nil (base : Nat) (H : Array Obj) : Alls base H [] none 0 none := ⟨Ownd.nil _ _ _, (fun _ h => nomatch h), (fun _ h => nomatch h), List.Pairwise.nil⟩
theorem fr0 (h : Alls base w.heap R aR cR ob) (f : Fr (fun _ => False) w w') : Alls base w'.heap R aR cR ob :=
  ⟨h.own.fr f (fun _ _ h => h), h.new, fun x hx => by obtain ⟨o, h1, h2⟩ := h.row x hx; exact ⟨o, h1.fr f (fun _ _ h => h), h2⟩, h.pw⟩
/-- One more. -/
theorem push (h : Alls base w.heap R aR cR ob) (hb : base ≤ w.heap.size) {x : BestR} {o : Option Nat} {a' : Option Addr} {c' : Nat} {ob' : Option Nat} (hx : Ownd w'.heap 3 1 x.A x.h.length x.C (ivals .i64 x.h) o) (hn : ∀ g, o = some g → w.heap.size ≤ g ∧ ob' ≠ some g)
    (hO : Ownd w'.heap 49 4 a' (R.length + 1) c' (R.flatMap BestR.cells ++ BestR.cells x) ob') (f : Fr (fun k => ob = some k) w w') (hob : ob' = ob ∨ ∃ g, ob' = some g ∧ w.heap.size ≤ g) : Alls base w'.heap (R ++ [x]) a' c' ob' := by
  refine ⟨?_, fun g hg => ?_, fun y hy => ?_, ?_⟩
  · rw [List.length_append, List.flatMap_append]
    simpa using hO
  · rcases hob with e | ⟨g', e, e2⟩
    · rw [e] at hg; exact h.new g hg
    · rw [e] at hg; cases hg; omega
  · rcases List.mem_append.1 hy with hy | hy
    · obtain ⟨o', h1, h2⟩ := h.row y hy
      refine ⟨o', h1.fr f (fun g hg e => (h2 g hg).2 e), fun g hg => ⟨(h2 g hg).1, ?_⟩⟩
      rcases hob with e | ⟨g', e, e2⟩
      · rw [e]; exact (h2 g hg).2
      · rw [e]; intro e3; cases e3; have := h1.lt g hg; omega
    · rw [List.mem_singleton.1 hy]
      exact ⟨o, hx, fun g hg => ⟨Nat.le_trans hb (hn g hg).1, (hn g hg).2⟩⟩
  · rw [List.pairwise_append]
    refine ⟨h.pw, List.pairwise_singleton _ _, fun y hy z hz p hp hq => ?_⟩
    rw [List.mem_singleton.1 hz] at hq
    obtain ⟨o', h1, -⟩ := h.row y hy
    rcases h1.is with ⟨q, _⟩ | ⟨g1, _, q, q2, _⟩
    · rw [q] at hp; cases hp
    · rcases hx.is with ⟨r, _⟩ | ⟨g2, _, r, r2, _⟩
      · rw [r] at hq; cases hq
      · rw [q] at hp; rw [r] at hq
        rw [← hq] at hp
        simp only [Option.some.injEq, Addr.mk.injEq] at hp
        have := h1.lt g1 q2
        have := (hn g2 r2).1
        omega
end Alls
end Go.Proofs.Ytgfbkebbnfcgkaa
end

section
namespace Go.Proofs
open Go.Shelf
def Try.sortBest_ren : Go.Shelf.Ren := ⟨fun | 6 => 41 | 15 => 63 | 14 => 62 | 28 => 78 | 29 => 79 | 20 => 70 | 21 => 71 | 22 => 72 | 23 => 73 | 24 => 74 | 25 => 75 | 26 => 76 | 27 => 77 | 46 => 82 | 47 => 83 | 48 => 84 | 49 => 85 | 50 => 86 | 57 => 88 | n => n, fun | 22 => 36 | 24 => 49 | 25 => 116 | 3 => 3 | 39 => 94 | 0 => 0 | 53 => 32 | 55 => 141 | 4 => 4 | 46 => 164 | 45 => 163 | 50 => 161 | 5 => 5 | 9 => 9 | 66 => 171 | 70 => 175 | 76 => 178 | 77 => 179 | n => n, fun | n => n⟩
theorem Try.sortBest : Go.Proofs.SlLaysF0.n6 Try.prog Try.sortBest_ren := {
  mixed := by kernel_rfl
  f6 := ⟨Try.f41.name, by decide, Try.func41.trans (congrArg some (by kernel_rfl))⟩
  f14 := ⟨Try.f62.name, by decide, Try.func62.trans (congrArg some (by kernel_rfl))⟩
  f15 := Try.func63.trans (congrArg some (by kernel_rfl))
  f20 := ⟨Try.f70.name, by decide, Try.func70.trans (congrArg some (by kernel_rfl))⟩
  f21 := ⟨Try.f71.name, by decide, Try.func71.trans (congrArg some (by kernel_rfl))⟩
  f22 := ⟨Try.f72.name, by decide, Try.func72.trans (congrArg some (by kernel_rfl))⟩
  f23 := ⟨Try.f73.name, by decide, Try.func73.trans (congrArg some (by kernel_rfl))⟩
  f24 := ⟨Try.f74.name, by decide, Try.func74.trans (congrArg some (by kernel_rfl))⟩
  f25 := ⟨Try.f75.name, by decide, Try.func75.trans (congrArg some (by kernel_rfl))⟩
  f26 := ⟨Try.f76.name, by decide, Try.func76.trans (congrArg some (by kernel_rfl))⟩
  f27 := ⟨Try.f77.name, by decide, Try.func77.trans (congrArg some (by kernel_rfl))⟩
  f28 := Try.func78.trans (congrArg some (by kernel_rfl))
  f29 := Try.func79.trans (congrArg some (by kernel_rfl))
  f46 := ⟨Try.f82.name, by decide, Try.func82.trans (congrArg some (by kernel_rfl))⟩
  f47 := Try.func83.trans (congrArg some (by kernel_rfl))
  f48 := Try.func84.trans (congrArg some (by kernel_rfl))
  f49 := ⟨Try.f85.name, by decide, Try.func85.trans (congrArg some (by kernel_rfl))⟩
  f50 := ⟨Try.f86.name, by decide, Try.func86.trans (congrArg some (by kernel_rfl))⟩
  f57 := ⟨Try.f88.name, by decide, Try.func88.trans (congrArg some (by kernel_rfl))⟩
  t0 := Try.underlying0
  a0 := Try.isAgg0
  z0 := Try.sizeOf0
  v0 := Try.zeroValue0
  t3 := Try.underlying3
  a3 := Try.isAgg3
  z3 := Try.sizeOf3
  v3 := Try.zeroValue3
  t4 := Try.underlying4
  a4 := Try.isAgg4
  z4 := Try.sizeOf4
  v4 := Try.zeroValue4
  t5 := Try.underlying5
  a5 := Try.isAgg5
  z5 := Try.sizeOf5
  v5 := Try.zeroValue5
  t9 := Try.underlying9
  a9 := Try.isAgg9
  z9 := Try.sizeOf9
  v9 := Try.zeroValue9
  t22 := Try.underlying36
  a22 := Try.isAgg36
  z22 := Try.sizeOf36
  v22 := Try.zeroValue36
  t25 := Try.underlying116
  a25 := Try.isAgg116
  z25 := Try.sizeOf116
  v25 := Try.zeroValue116
  t39 := Try.underlying94
  a39 := Try.isAgg94
  z39 := Try.sizeOf94
  v39 := Try.zeroValue94
  t45 := Try.underlying163
  a45 := Try.isAgg163
  z45 := Try.sizeOf163
  v45 := Try.zeroValue163
  t46 := Try.underlying164
  a46 := Try.isAgg164
  z46 := Try.sizeOf164
  v46 := Try.zeroValue164
  t50 := Try.underlying161
  a50 := Try.isAgg161
  z50 := Try.sizeOf161
  v50 := Try.zeroValue161
  t53 := Try.underlying32
  a53 := Try.isAgg32
  z53 := Try.sizeOf32
  v53 := Try.zeroValue32
  t55 := Try.underlying141
  a55 := Try.isAgg141
  z55 := Try.sizeOf141
  v55 := Try.zeroValue141
  t66 := Try.underlying171
  a66 := Try.isAgg171
  z66 := Try.sizeOf171
  v66 := Try.zeroValue171
  t70 := Try.underlying175
  a70 := Try.isAgg175
  z70 := Try.sizeOf175
  v70 := Try.zeroValue175
  t76 := Try.underlying178
  a76 := Try.isAgg178
  z76 := Try.sizeOf178
  v76 := Try.zeroValue178
  t77 := Try.underlying179
  a77 := Try.isAgg179
  z77 := Try.sizeOf179
  v77 := Try.zeroValue179
  }

end Go.Proofs
namespace Go.Proofs.Ytgfbkebbnfcgkaa
open Go.RowKit Go.Shelf Go.Lib Go.Sort

set_option maxRecDepth 100000 in
set_option maxHeartbeats 1000000 in
theorem lessG_any (a n a' n' : Int) (w : World) : Calls Try.prog 64 #[.agg #[.int .u32 a, .int .i64 n], .agg #[.int .u32 a', .int .i64 n']] w (RetGr w (.bool (lessB a n a' n'))) := by
  go_enter Try.func64, Try.ntmps64
  by_cases h1 : a < a'
  · have hX := Lib.hid (show lessB a n a' n' = true from decide_eq_true (.inl h1))
    have hd : decide (a < a') = true := decide_eq_true h1
    clear h1
    go_wp2
    go_ret
    exact RetGr.mk (x := .bool true) (by rw [hX.out]) rfl (((Grn.refl _).alloc _).alloc _)
  · have hd : decide (a < a') = false := decide_eq_false h1
    by_cases h2 : a = a'
    · have hX := Lib.hid (show lessB a n a' n' = decide (n < n') by unfold lessB netLess; simp [h2])
      have he : (a == a') = true := by simp [h2]
      clear h1 h2
      go_wp2
      go_ret
      exact RetGr.mk (x := .bool (decide (n < n'))) (by rw [hX.out]) rfl (((Grn.refl _).alloc _).alloc _)
    · have hX := Lib.hid (show lessB a n a' n' = false by unfold lessB netLess; simp [h1, h2])
      have he : (a == a') = false := by simp [h2]
      clear h1 h2
      go_wp2
      go_ret
      exact RetGr.mk (x := .bool false) (by rw [hX.out]) rfl (((Grn.refl _).alloc _).alloc _)
/-- The net of a way. -/
abbrev bnet (x : BestR) : Nt := ⟨x.a, x.n⟩
theorem bst_one (x : BestR) : ∀ u ∈ BestR.cells x, u.oneCell' = true := by simp [Value.oneCell']
def cfB (x y : BestR) : Int := if lessB x.a x.n y.a y.n = true then -1 else 1
theorem ltB (x y : BestR) : ltOf cfB x y = lessB x.a x.n y.a y.n := by
  unfold ltOf cfB
  cases lessB x.a x.n y.a y.n <;> decide
theorem swoB : SWO (ltOf cfB) where
  irrefl x := by rw [ltB]; exact decide_eq_false (fun h => ntLt_irrefl (bnet x) h)
  trans x y z h1 h2 := by
    rw [ltB] at *
    exact decide_eq_true (ntLt_trans (x := bnet x) (y := bnet y) (z := bnet z) (of_decide_eq_true h1) (of_decide_eq_true h2))
  ntrans x y z h1 h2 := by
    rw [ltB] at *
    have a1 := of_decide_eq_false h1
    have a2 := of_decide_eq_false h2
    refine decide_eq_false (fun h => ?_)
    unfold netLess at *
    omega
set_option maxRecDepth 100000 in
set_option maxHeartbeats 1000000 in
theorem order_any (x y : BestR) (w : World) : Calls Try.prog 42 #[.agg #[.int .u32 x.a, .int .i64 x.n, .int .i64 x.m, .slice x.A x.h.length x.C], .agg #[.int .u32 y.a, .int .i64 y.n, .int .i64 y.m, .slice y.A y.h.length y.C]] w (RetGr w (.int .i64 (cfB x y))) := by
  have hX : Hid (cfB x y = if lessB x.a x.n y.a y.n = true then -1 else 1) := Lib.hid rfl
  obtain ⟨xa, xn, xm, xh, xA, xC⟩ := x
  obtain ⟨ya, yn, ym, yh, yA, yC⟩ := y
  simp only at hX ⊢
  generalize xh.length = xl at *
  generalize yh.length = yl at *
  go_enter Try.func42, Try.ntmps42
  go_wp2_with (fail)
  refine (lessG_any xa xn ya yn _).mono ?_
  rintro e1 w1 ⟨rfl, hG⟩
  have hG1 := (((Grn.refl w).alloc (.cells #[.int .u32 xa, .int .i64 xn, .int .i64 xm, .slice xA xl xC] 49)).alloc (.cells #[.int .u32 ya, .int .i64 yn, .int .i64 ym, .slice yA yl yC] 49)).trans hG
  cases hl : lessB xa xn ya yn with
  | true =>
    rw [hl] at hX
    clear hl hG
    go_wp2
    go_ret
    exact RetGr.mk (x := .int .i64 (-1)) (by rw [hX.out]; rfl) rfl hG1
  | false =>
    rw [hl] at hX
    clear hl hG
    go_wp2
    go_ret
    exact RetGr.mk (x := .int .i64 1) (by rw [hX.out]; rfl) rfl hG1
/-- Ways that are sorted in place. -/
def RetSortB (base : Nat) (w : World) (R : List BestR) (a : Option Addr) (n c : Nat) (ob : Option Nat) (e : Ending) (w' : World) : Prop :=
  ∃ S : List BestR, e = .returned (.tuple #[]) ∧ NSorted (S.map bnet) ∧ S.Perm R ∧ Alls base w'.heap S a c ob ∧ Fr (fun k => ob = some k) w w' ∧ n = S.length
theorem Alls.sorted {base : Nat} {w w' : World} {R S : List BestR} {a : Option Addr} {c : Nat} {ob : Option Nat} (h : Alls base w.heap R a c ob) (hp : S.Perm R) (hO : Ownd w'.heap 49 4 a S.length c (S.flatMap BestR.cells) ob) (hF : Fr (fun k => ob = some k) w w') : Alls base w'.heap S a c ob :=
  ⟨hO, h.new, fun x hx => by
    obtain ⟨o, h1, h2⟩ := h.row x (hp.mem_iff.1 hx)
    exact ⟨o, h1.fr hF (fun g hg e => (h2 g hg).2 e), h2⟩, h.pw.perm hp.symm (fun {x y} hxy p hy hx => hxy p hx hy)⟩
theorem nsorted_keys {S : List BestR} (h : S.Pairwise (fun x y => lessB y.a y.n x.a x.n = false)) (hn : (S.map bnet).Nodup) : NSorted (S.map bnet) := by
  induction S with
  | nil => exact List.Pairwise.nil
  | cons x S ih =>
    obtain ⟨h1, h2⟩ := List.pairwise_cons.1 h
    rw [List.map_cons] at hn ⊢
    obtain ⟨h3, h4⟩ := List.nodup_cons.1 hn
    refine List.pairwise_cons.2 ⟨fun q hq => ?_, ih h2 h4⟩
    obtain ⟨y, hy, rfl⟩ := List.mem_map.1 hq
    rcases ntLt_total (bnet x) (bnet y) with e | e | e
    · exact e
    · exact absurd (List.mem_map.2 ⟨y, hy, e.symm⟩) h3
    · exact absurd e (of_decide_eq_false (h1 y hy))
theorem sortBest_any {base n : Nat} (R : List BestR) (a : Option Addr) (c : Nat) (ob : Option Nat) (w : World) (hA : Alls base w.heap R a c ob) (hn : n = R.length) (hd : (R.map bnet).Nodup) (hl : R.length ≤ 1000000) :
    Calls Try.prog 41 #[.slice a n c, .func (.func 42) #[] #[]] w (RetSortB base w R a n c ob) := by
  by_cases h0 : R = []
  · subst h0
    subst hn
    refine (AnyF.slices_SortFunc_none Try.sortBest a c _ w).mono ?_
    rintro e w' ⟨rfl, rfl⟩
    exact ⟨[], rfl, List.Pairwise.nil, List.Perm.refl _, hA, Fr.refl _ _, rfl⟩
  · have hpos : 0 < R.length := List.length_pos_iff.2 h0
    have hO := hA.own
    rw [← hn] at hO
    obtain ⟨g, rfl, hob, hg, -⟩ := hO.pos (by omega)
    obtain ⟨hH, hblk, -⟩ := own_holds BestR.cells BestR.cells_len (by decide) hO hn (by omega)
    have eg : ∀ args w, (callFunc 42 args).run Try.prog w = .ok (.enter 42 args) w := enters_of Try.func42 (by kernel_rfl) rfl
    have hc := AnyQ.slices_SortFunc Try.sortBest 4 Try.isAgg49 Try.sizeOf49 BestR.cells BestR.cells_len (fun x v hv => bst_one x v hv) cfB swoB 42 #[] g 0 c R.toArray w eg
      (fun m os dk _ x y => (order_any x y _).mono fun e w' h => ⟨h.1, h.2⟩) hH hblk (by simp; omega)
    have hsz : R.toArray.size = n := by simp [hn]
    rw [hsz] at hc
    refine hc.mono ?_
    rintro e w' ⟨rfl, d', m, os, hp, hs, rfl⟩
    rw [← hsz] at hp hs
    obtain ⟨hpm, hps⟩ := permIn_perm hp
    have hpw := sortedIn_pw hs hps
    have hds : d'.size = n := by rw [hps, hsz]
    obtain ⟨hO2, hF2⟩ := own_sorted BestR.cells BestR.cells_len (by decide) hO d' hds m os
    have hpl : d'.toList.Perm R := by simpa using hpm
    have hF3 : Fr (fun k => ob = some k) w (sortWorldK BestR.cells 4 w g 0 m d' os) := hF2.mono (fun i _ e => by rw [e]; exact hob)
    have hnl : n = d'.toList.length := by rw [hpl.length_eq, hn]
    refine ⟨d'.toList, rfl, nsorted_keys (hpw.imp (fun {x y} h => by rw [ltB] at h; exact h)) ((hpl.map bnet).nodup_iff.2 hd), hpl, hA.sorted hpl (by rw [hnl] at hO2; exact hO2) hF3, hF3, hnl⟩
end Go.Proofs.Ytgfbkebbnfcgkaa
end

section
namespace Go
/-- Is there an entry of a net? -/
def hasK (E : List Ent) (q : Nt) : Prop := ∃ x ∈ E, x.key = q
instance (E : List Ent) (q : Nt) : Decidable (hasK E q) := by unfold hasK; infer_instance
def setE (costs : List Int) (E : List Ent) (h : Hea) : Option Int := match heardE costs.length h with
  | some k => some k
  | none => if ¬ hasK E ⟨h.a, h.n⟩ ∧ E.length = 64 then some 4 else none
def keysE (E : List Ent) (q : Nt) : List Nt := if hasK E q then E.map (·.key) else q :: E.map (·.key)
/-- The blocks that are used behind a call. -/
def usesN (U : Nat → Prop) (w w' : World) (k : Nat) : Prop := U k ∨ (w.heap.size ≤ k ∧ k < w'.heap.size)
end Go
namespace Go.Proofs.Ytgfbkebbnfcgkaa
open Go.RowKit Go.Maps
theorem lenL_run {κ : Type} {w : World} {P : Program} {k e t : TypeId} {kl : κ → Lit} {b : Nat} {L : List (κ × Value)} (h : MapL w P k kl b L) (ht : P.underlying t = some (.map k e)) (ty : TypeId) : (Builtin.len_ #[t] ty #[.map (some b)]).run P w = .ok (.int .i64 (L.length : Nat)) w := by
  obtain ⟨D, h1, h2⟩ := h.size
  rw [h1.len ht ty, h2]
theorem zeroPE {w : World} : (zeroValue 145).run Try.prog w = .ok (.pointer none) w := by kernel_rfl
def RetSet (U : Nat → Prop) (w : World) (be bn : Nat) (costs : List Int) (all : List Hea) (E : List Ent) (ac : Option Addr) (cc : Nat) (h : Hea) (r : Option Int) (e : Ending) (w' : World) : Prop :=
  match r with
  | some k => RetV w (errv k) e w'
  | none => e = .returned .nilIface ∧ Fr U w w' ∧ ∃ E', Eng (usesN U w w') w' be bn costs (all ++ [h]) E' ac cc ∧ E'.map (·.key) = keysE E ⟨h.a, h.n⟩ ∧ ∀ q, shownE E' q = shownE E q
theorem RetSet.err {U : Nat → Prop} {w : World} {be bn : Nat} {costs : List Int} {all : List Hea} {E : List Ent} {ac : Option Addr} {cc : Nat} {h : Hea} {r : Option Int} {e : Ending} {w' : World} {k : Int} (hr : r = some k) (he : e = .returned (errv k)) (hF : Fr (fun _ => False) w w') : RetSet U w be bn costs all E ac cc h r e w' := by
  subst hr; exact ⟨he, hF⟩
theorem RetSet.ok {U : Nat → Prop} {w : World} {be bn : Nat} {costs : List Int} {all : List Hea} {E : List Ent} {ac : Option Addr} {cc : Nat} {h : Hea} {r : Option Int} {e : Ending} {w' : World} (hr : r = none) (he : e = .returned .nilIface) (hF : Fr U w w') {E' : List Ent} (h1 : Eng (usesN U w w') w' be bn costs (all ++ [h]) E' ac cc) (h2 : E'.map (·.key) = keysE E ⟨h.a, h.n⟩) (h3 : ∀ q, shownE E' q = shownE E q) : RetSet U w be bn costs all E ac cc h r e w' := by
  subst hr; exact ⟨he, hF, E', h1, h2, h3⟩
theorem RetSet.errE {U : Nat → Prop} {w : World} {be bn : Nat} {costs : List Int} {all : List Hea} {E : List Ent} {ac : Option Addr} {cc : Nat} {h : Hea} {r : Option Int} {e : Ending} {w' : World} {k : Int} (hh : RetSet U w be bn costs all E ac cc h r e w') (hr : r = some k) : RetV w (errv k) e w' := by subst hr; exact hh
theorem RetSet.okE {U : Nat → Prop} {w : World} {be bn : Nat} {costs : List Int} {all : List Hea} {E : List Ent} {ac : Option Addr} {cc : Nat} {h : Hea} {r : Option Int} {e : Ending} {w' : World} (hh : RetSet U w be bn costs all E ac cc h r e w') (hr : r = none) : e = .returned .nilIface ∧ Fr U w w' ∧ ∃ E', Eng (usesN U w w') w' be bn costs (all ++ [h]) E' ac cc ∧ E'.map (·.key) = keysE E ⟨h.a, h.n⟩ ∧ ∀ q, shownE E' q = shownE E q := by subst hr; exact hh

set_option maxRecDepth 100000 in
set_option maxHeartbeats 8000000 in
theorem set_any {U : Nat → Prop} {be bn : Nat} {costs : List Int} {all : List Hea} {E : List Ent} {ac : Option Addr} {cc : Nat} (h : Hea) (w : World) (hE : Eng U w be bn costs all E ac cc) (hq : Nt.wf ⟨h.a, h.n⟩) (hfw : (Lit.int .i64 h.f).wf = true) (hal : all.length ≤ 9223372036854775000) (h64 : E.length ≤ 64) :
    Calls Try.prog 39 #[.pointer (some ⟨be, 0, none⟩), .agg #[.int .i64 h.f, .int .u32 h.a, .int .i64 h.n, .int .i64 h.m]] w (RetSet U w be bn costs all E ac cc h (setE costs E h)) := by
  obtain ⟨f, a, n, m⟩ := h
  simp only at hq hfw
  obtain ⟨R, hR⟩ : ∃ R, R = setE costs E ⟨f, a, n, m⟩ := ⟨_, rfl⟩
  rw [← hR]
  have HR := Lib.hid hR
  clear hR
  have hF0 := (Fr.refl (fun _ => False) w).alloc (.cells #[.int .i64 f, .int .u32 a, .int .i64 n, .int .i64 m] 111)
  have hE0 := hE.fr0 hF0
  have hB0 := Blk.made w 111 [.int .i64 f, .int .u32 a, .int .i64 n, .int .i64 m]
  obtain ⟨hn8, hcb⟩ := nearE_ok hE.near
  have HCB := Lib.hid hcb
  have HQ := Lib.hid hq
  have HFW := Lib.hid hfw
  have HU : ∀ k, U k → k ≠ w.heap.size := fun k hk e => by have := hE.lt k hk; omega
  have HUU := Lib.hid HU
  have HLT := Lib.hid hE.lt
  clear hE hcb HU hfw
  go_enter Try.func39, Try.ntmps39
  go_wp2
  generalize (w.alloc (.cells #[.int .i64 f, .int .u32 a, .int .i64 n, .int .i64 m] 111)) = W0 at *
  have e0 := hE0.blk.cell 0
  have e1 := hE0.blk.cell 1
  have b0 := hB0.cell 0
  have b1 := hB0.cell 1
  have b2 := hB0.cell 2
  have b3 := hB0.cell 3
  have l0 := hE0.blk.lt
  have l1 := hB0.lt
  simp only [List.getElem?_cons_succ, List.getElem?_cons_zero] at e0 e1 b0 b1 b2 b3
  (refine wp_region_mix (fun _ => True) 5 (by kernel_rfl) (by kernel_rfl) (trivial) ?_; simp only [List.take_succ_cons, List.take_zero, List.drop_succ_cons, List.drop_zero])
  (refine wpMix_earlyN 5 (by kernel_rfl) (by kernel_rfl) ?_; simp only [List.take_succ_cons, List.take_zero, List.drop_succ_cons, List.drop_zero]; (repeat (go_big_quiet_step (fail))); refine wpQuiet_nil ?_)
  refine wpMix_nil ?_
  go_wp2_with (fail)
  refine (heard_any ⟨f, a, n, m⟩ costs.length ac cc _ ⟨hq.1, hq.2.1⟩ (by omega)).mono ?_
  rintro e1' w1 ⟨rfl, hF1⟩
  have hF01 := (Fr.refl (fun _ => False) W0).drew.trans hF1
  have hE1 := hE0.fr0 hF01
  have hB1 := hB0.fr hF01 (fun h => h)
  have hFw1 := hF0.trans hF01
  clear hE0 hB0 hF0 hF1 hF01 e0 e1 b0 b1 b2 b3 l0 l1
  cases hh : heardE costs.length ⟨f, a, n, m⟩ with
  | some k =>
    have hX := Lib.hid (HR.out.trans (show setE costs E ⟨f, a, n, m⟩ = some k by unfold setE; rw [hh]))
    rw [show errO (some k) = errv k from rfl]
    clear hh
    go_wp2
    go_ret
    exact RetSet.err hX.out rfl hFw1
  | none =>
    have HH := Lib.hid hh
    have hX := Lib.hid (HR.out.trans (show setE costs E ⟨f, a, n, m⟩ = if ¬ hasK E ⟨a, n⟩ ∧ E.length = 64 then some 4 else none by unfold setE; rw [hh]))
    rw [show errO none = .nilIface from rfl]
    clear hh
    go_wp2
    have e0 := hE1.blk.cell 0
    have e1 := hE1.blk.cell 1
    have b0 := hB1.cell 0
    have b1 := hB1.cell 1
    have b2 := hB1.cell 2
    have b3 := hB1.cell 3
    have l0 := hE1.blk.lt
    have l1 := hB1.lt
    simp only [List.getElem?_cons_succ, List.getElem?_cons_zero] at e0 e1 b0 b1 b2 b3
    (refine wp_region_mix (fun _ => True) 6 (by kernel_rfl) (by kernel_rfl) (trivial) ?_; simp only [List.take_succ_cons, List.take_zero, List.drop_succ_cons, List.drop_zero])
    (refine wpMix_earlyN 6 (by kernel_rfl) (by kernel_rfl) ?_; simp only [List.take_succ_cons, List.take_zero, List.drop_succ_cons, List.drop_zero]; (repeat (go_big_quiet_step (fail))); refine wpQuiet_nil ?_)
    refine wpMix_nil ?_
    have hFd := (Fr.refl (fun _ => False) w1).drew
    have hE2 := hE1.fr0 hFd
    have hB2 := hB1.fr hFd (fun h => h)
    have hFw2 := hFw1.trans hFd
    have HNT := hE2.nets
    have HIJ := Lib.hid (hE2.inj hq)
    have HNK := Lib.hid (nkey ⟨a, n⟩ hq)
    rcases mget_entL hE2.ap ⟨a, n⟩ with ⟨hg, hno⟩ | ⟨x, hx, hxk, hg⟩
    · have HG := Lib.hid hg
      have HNO := Lib.hid hno
      have hNK : ¬ hasK E ⟨a, n⟩ := fun ⟨x, hx, e⟩ => hno x hx e
      have HNH := Lib.hid hNK
      clear hg hno hNK hFd hE1 hB1 hFw1
      go_wp2_with (at_lookup; refine wpList_lookL rfl _ _ 98 rfl 34 145 keyedN Try.underlying98 zeroPE bn (entL E) kln rfl HNT _ ⟨a, n⟩ rfl HNK.out HIJ.out ?_; rw [HG.out])
      clear e0 e1 b0 b1 b2 b3 l0 l1
      have e0 := hE2.blk.cell 0
      have e1 := hE2.blk.cell 1
      have b0 := hB2.cell 0
      have b1 := hB2.cell 1
      have b2 := hB2.cell 2
      have b3 := hB2.cell 3
      have l0 := hE2.blk.lt
      have l1 := hB2.lt
      simp only [List.getElem?_cons_succ, List.getElem?_cons_zero] at e0 e1 b0 b1 b2 b3
      by_cases hfull : E.length = 64
      · have hY := Lib.hid (hX.out.trans (if_pos ⟨HNH.out, hfull⟩))
        have hll : (entL E).length = 64 := by rw [entL_length]; exact hfull
        have hln := lenL_run HNT Try.underlying98 3
        rw [hll] at hln
        clear hfull hll
        go_wp2_with (fail)
        rw [hln]
        go_wp2
        go_ret
        exact RetSet.err hY.out rfl hFw2
      · have hY := Lib.hid (hX.out.trans (if_neg (fun h => hfull h.2)))
        obtain ⟨L, hL⟩ : ∃ L, L = (entL E).length := ⟨_, rfl⟩
        have hLL : L ≠ 64 := by rw [hL, entL_length]; exact hfull
        have hL6 : L ≤ 64 := by rw [hL, entL_length]; exact h64
        have eL : ((L : Int) == 64) = false := by simp; omega
        have HLL := Lib.hid hL
        have hln := lenL_run HNT Try.underlying98 3
        rw [← hL] at hln
        clear hfull hL hLL
        go_wp2_with (fail)
        rw [hln]
        go_wp2_with (fail)
        have hmm := @run_makeMap Try.prog
        refine (chosen0_any a n _).mono ?_
        rintro e3' w3 ⟨rfl, hF3⟩
        have hE3 := hE2.fr0 hF3
        have hB3 := hB2.fr hF3 (fun h => h)
        have hFw3 := hFw2.trans hF3
        clear hE2 hB2 hF3 hFw2 HNT hln e0 e1 b0 b1 b2 b3 l0 l1
        have hFa := (((Fr.refl (fun _ => False) w3).alloc (.cells #[.int .u32 a, .int .i64 n, .int .i64 16, .slice none 0 0] 49)).alloc (.map #[] 0)).alloc (.cells #[.map (some (w3.heap.size + 1)), .int .u32 a, .int .i64 n, .int .i64 16, .slice none 0 0, .int .u32 a, .int .i64 n, .int .i64 16, .slice none 0 0] 149)
        have k7 := ((Blk.made w3 49 [.int .u32 a, .int .i64 n, .int .i64 16, .slice none 0 0]).alloc (.map #[] 0))
        have kT := (MapL.made (w3.alloc (.cells #[.int .u32 a, .int .i64 n, .int .i64 16, .slice none 0 0] 49)) Try.prog 3 kli)
        rw [show (w3.alloc (.cells #[.int .u32 a, .int .i64 n, .int .i64 16, .slice none 0 0] 49)).heap.size = w3.heap.size + 1 by simp] at kT
        have kT2 := kT.fr (S := fun _ => False) ((Fr.refl _ _).alloc (.cells #[.map (some (w3.heap.size + 1)), .int .u32 a, .int .i64 n, .int .i64 16, .slice none 0 0, .int .u32 a, .int .i64 n, .int .i64 16, .slice none 0 0] 149)) (fun h => h)
        have kX := Blk.made ((w3.alloc (.cells #[.int .u32 a, .int .i64 n, .int .i64 16, .slice none 0 0] 49)).alloc (.map #[] 0)) 149 [.map (some (w3.heap.size + 1)), .int .u32 a, .int .i64 n, .int .i64 16, .slice none 0 0, .int .u32 a, .int .i64 n, .int .i64 16, .slice none 0 0]
        rw [show ((w3.alloc (.cells #[.int .u32 a, .int .i64 n, .int .i64 16, .slice none 0 0] 49)).alloc (.map #[] 0)).heap.size = w3.heap.size + 2 by simp] at kX
        have z0 := k7.cell 0
        have z1 := k7.cell 1
        have z2 := k7.cell 2
        have z3 := k7.cell 3
        have hz := k7.lt
        simp only [List.getElem?_cons_succ, List.getElem?_cons_zero] at z0 z1 z2 z3
        have K7 := Lib.hid k7
        have KT := Lib.hid kT2
        have KX := Lib.hid kX
        have HFA := Lib.hid hFa
        clear k7 kT kT2 kX hFa
        go_wp2
        generalize (((w3.alloc (.cells #[.int .u32 a, .int .i64 n, .int .i64 16, .slice none 0 0] 49)).alloc (.map #[] 0)).alloc (.cells #[.map (some (w3.heap.size + 1)), .int .u32 a, .int .i64 n, .int .i64 16, .slice none 0 0, .int .u32 a, .int .i64 n, .int .i64 16, .slice none 0 0] 149)) = W4 at *
        clear z0 z1 z2 z3 hz K7
        have hE4 := hE3.fr0 HFA.out
        have hB4 := hB3.fr HFA.out (fun h => h)
        have e0 := hE4.blk.cell 0
        have e1 := hE4.blk.cell 1
        have b0 := hB4.cell 0
        have b1 := hB4.cell 1
        have b2 := hB4.cell 2
        have b3 := hB4.cell 3
        have l0 := hE4.blk.lt
        have l1 := hB4.lt
        simp only [List.getElem?_cons_succ, List.getElem?_cons_zero] at e0 e1 b0 b1 b2 b3
        have HNT := hE4.nets.fr (S := fun _ => False) ((Fr.refl _ _).drew) (fun h => h)
        have HLM := Lib.hid (show (entL E).length < maxLen by rw [entL_length]; unfold maxLen; omega)
        (refine wp_region_mix (fun _ => True) 7 (by kernel_rfl) (by kernel_rfl) (trivial) ?_; simp only [List.take_succ_cons, List.take_zero, List.drop_succ_cons, List.drop_zero])
        (refine wpMix_earlyN 7 (by kernel_rfl) (by kernel_rfl) ?_; simp only [List.take_succ_cons, List.take_zero, List.drop_succ_cons, List.drop_zero]; (repeat (go_big_quiet_step (fail))); refine wpQuiet_nil ?_)
        refine wpMix_nil ?_
        go_wp2_with (at_mapUpdate; refine wpList_mput rfl _ _ _ 98 rfl 34 145 keyedN Try.underlying98 bn (entL E) kln rfl HNT HLM.out _ _ ⟨a, n⟩ rfl rfl HNK.out HIJ.out ?_)
        intro w5 hM5 hF5 hS5
        have hFm := (Fr.refl (fun k => k = bn) W4).drew.trans hF5
        have hF35 : Fr (fun k => k = bn) w3 w5 := (HFA.out.mono (fun _ _ h => h.elim)).trans hFm
        have hbn := hE4.lt _ hE4.uN
        have hbn3 := hE3.lt _ hE3.uN
        have hsz5 := hF35.size
        have hA := hE3.add HQ.out HNO.out (b := w3.heap.size + 2) (t := w3.heap.size + 1) (by omega) (by omega) (by omega) hF35 (KX.out.fr hFm (by omega)) (KT.out.fr hFm (by omega)) hM5
        have hB5 := hB4.fr hFm (fun e => HUU.out _ hE3.uN e.symm)
        have hx : (⟨⟨a, n⟩, w3.heap.size + 2, w3.heap.size + 1, none, 0, 16, [], none, 0⟩ : Ent) ∈ (⟨⟨a, n⟩, w3.heap.size + 2, w3.heap.size + 1, none, 0, 16, [], none, 0⟩ : Ent) :: E := List.mem_cons_self ..
        have hFw5 : Fr U w w5 := (hFw3.mono (fun _ _ h => h.elim)).trans (hF35.mono (fun k _ e => by rw [e]; exact hE3.uN))
        have hUw : ∀ k, (U k ∨ (w3.heap.size ≤ k ∧ k < w5.heap.size)) → U k ∨ (w.heap.size ≤ k ∧ k < w5.heap.size) := fun k hk => by have := hFw3.size; rcases hk with h | h; exact .inl h; exact .inr (by omega)
        have hFUU : ∀ k, (U k ∨ (w3.heap.size ≤ k ∧ k < w5.heap.size)) → k < w.heap.size → U k := fun k hk hl => by have := hFw3.size; rcases hk with h | h; exact h; omega
        have HKEY := Lib.hid (show keysE E ⟨a, n⟩ = (⟨a, n⟩ : Nt) :: E.map (·.key) from if_neg HNH.out)
        have HSH := Lib.hid (show ∀ q, shownE ((⟨⟨a, n⟩, w3.heap.size + 2, w3.heap.size + 1, none, 0, 16, [], none, 0⟩ : Ent) :: E) q = shownE E q from fun q => by
          rw [shownE_cons]
          split
          · rename_i e
            have e2 : (⟨a, n⟩ : Nt) = q := e
            rw [← e2, shownE_none HNO.out]
          · rfl)
        have hnbox : w3.heap.size + 2 ≠ w.heap.size ∧ w3.heap.size + 1 ≠ w.heap.size := by have := hFw3.size; omega
        clear e0 e1 b0 b1 b2 b3 l0 l1 hM5 hF5 hS5 hFm hF35 hbn hbn3 hsz5 HNT HLM hE4 hB4 hE3 hB3 hFw3 HFA KX KT eL hL6 HLL
        obtain ⟨x, hxe⟩ : ∃ x : Ent, x = ⟨⟨a, n⟩, w3.heap.size + 2, w3.heap.size + 1, none, 0, 16, [], none, 0⟩ := ⟨_, rfl⟩
        have hxb : w3.heap.size + 2 = x.b := by rw [hxe]
        rw [hxb]
        rw [← hxe] at hA hx
        have HXK : Hid (x.key = ⟨a, n⟩) := Lib.hid (by rw [hxe])
        have HSH2 : Hid (∀ q, shownE (x :: E) q = shownE E q) := Lib.hid (by rw [hxe]; exact HSH.out)
        have hnb : x.b ≠ w.heap.size ∧ x.t ≠ w.heap.size := by rw [hxe]; exact hnbox
        have HNB := Lib.hid (show w.heap.size ≠ x.b ∧ w.heap.size ≠ x.t from ⟨fun e => hnb.1 e.symm, fun e => hnb.2 e.symm⟩)
        have HTX := Lib.hid (show toldL all x.key.a x.key.n = toldL all a n by rw [HXK.out])
        clear hxe hxb hnbox hnb HSH
        go_wp2

        have hx0 := hA.ents _ hx
        have e0 := hA.blk.cell 0
        have e1 := hA.blk.cell 1
        have b0 := hB5.cell 0
        have b1 := hB5.cell 1
        have b2 := hB5.cell 2
        have b3 := hB5.cell 3
        have x0 := hx0.blk.cell 0
        have l0 := hA.blk.lt
        have l1 := hB5.lt
        have l2 := hx0.blk.lt
        simp only [entC, List.getElem?_cons_succ, List.getElem?_cons_zero] at e0 e1 b0 b1 b2 b3 x0
        have HM := hx0.told.fr (S := fun _ => False) ((Fr.refl _ _).drew) (fun h => h)
        rw [HTX.out] at HM
        have HLM := Lib.hid (show (toldL all a n).length < maxLen by have := toldL_len all a n; unfold maxLen; omega)
        have HTK := Lib.hid (ikey HFW.out)
        have HTI := Lib.hid (show ∀ p ∈ toldL all a n, kli p.1 = kli f → p.1 = f from fun _ _ e => kli_inj e)
        (refine wp_region_mix (fun _ => True) 8 (by kernel_rfl) (by kernel_rfl) (trivial) ?_; simp only [List.take_succ_cons, List.take_zero, List.drop_succ_cons, List.drop_zero])
        (refine wpMix_earlyN 8 (by kernel_rfl) (by kernel_rfl) ?_; simp only [List.take_succ_cons, List.take_zero, List.drop_succ_cons, List.drop_zero]; (repeat (go_big_quiet_step (fail))); refine wpQuiet_nil ?_)
        refine wpMix_nil ?_
        go_wp2_with (at_mapUpdate; refine wpList_mput rfl _ _ _ 147 rfl 3 3 keyedI Try.underlying147 _ (toldL all a n) kli rfl HM HLM.out _ _ f rfl rfl HTK.out HTI.out ?_)
        intro w6 hM6 hF6 hS6
        have hFt := (Fr.refl (fun k => k = x.t) w5).drew.trans hF6
        have hxt := hA.apE _ hx
        have hown := hx0.own
        have hux := hx0.uB
        have hut := hx0.uT
        have hbx6 := hx0.blk.fr hFt hown
        have heb6 := hA.blk.fr hFt (fun e => hxt.2.2.1 e.symm)
        have hct6 := hA.cost.fr hFt (fun b off e s => (hA.apC b off e).2 (.inr (.inr ⟨_, hx, .inr s⟩)))
        have hB6 := hB5.fr hFt (HNB.out.2)
        have hM6' : MapL w6 Try.prog 3 kli x.t (toldL (all ++ [⟨f, a, n, m⟩]) a n) := by rw [toldL_snoc, if_pos ⟨rfl, rfl⟩]; exact hM6
        have hob : ∀ hh ∈ all ++ [⟨f, a, n, m⟩], 1 ≤ hh.m ∧ hh.m ≤ 16 := fun hh hm => by
          rcases List.mem_append.1 hm with hm | hm
          · exact (heardE_ok (hA.ok hh hm)).2.2.2
          · rw [List.mem_singleton.1 hm]; exact (heardE_ok HH.out).2.2.2
        have HOB := Lib.hid hob
        have HXE := Lib.hid hx0
        clear e0 e1 b0 b1 b2 b3 l0 l1 l2 x0 HM HLM hF6 hS6 hx0 hob
        have e0 := heb6.cell 0
        have e1 := heb6.cell 1
        have b0 := hB6.cell 0
        have b1 := hB6.cell 1
        have b2 := hB6.cell 2
        have b3 := hB6.cell 3
        have x0 := hbx6.cell 0
        have l0 := heb6.lt
        have l1 := hB6.lt
        have l2 := hbx6.lt
        simp only [entC, List.getElem?_cons_succ, List.getElem?_cons_zero] at e0 e1 b0 b1 b2 b3 x0
        have hcall := chosen_any a n costs ac cc x.t _ (fun i => lastO (all ++ [⟨f, a, n, m⟩]) i a n) w6.drew (hct6.fr0 (Fr.refl (fun _ => False) w6).drew (fun _ _ h => h)) rfl hn8 HCB.out (hM6'.fr (Fr.refl (fun _ => False) w6).drew (fun h => h)) (fun i => toldL_get _ a n i) (fun i m h => lastO_bd HOB.out h)
        obtain ⟨M, hM⟩ : ∃ M, M = bestM (all ++ [⟨f, a, n, m⟩]) costs a n := ⟨_, rfl⟩
        rw [show chK (fun i => lastO (all ++ [⟨f, a, n, m⟩]) i a n) costs costs.length = M from hM.symm] at hcall
        have HMM := Lib.hid hM
        obtain ⟨sm, sh⟩ := M
        clear hM
        go_wp2
        (refine wp_region_mix (AnyW) 12 (by kernel_rfl) (by kernel_rfl) (AnyW.mk _) ?_; simp only [List.take_succ_cons, List.take_zero, List.drop_succ_cons, List.drop_zero])
        (refine wpMix_lateN 1 (AnyW.mk _) (by kernel_rfl) ?_; simp only [List.take_succ_cons, List.take_zero, List.drop_succ_cons, List.drop_zero]; (repeat (go_big_quiet_step (fail))); refine wpQuiet_nil ?_)
        (refine wpMix_earlyN 10 (by kernel_rfl) (by kernel_rfl) ?_; simp only [List.take_succ_cons, List.take_zero, List.drop_succ_cons, List.drop_zero]; (repeat (go_big_quiet_step (fail))); refine wpQuiet_nil ?_)
        refine wpMix_eff (by kernel_rfl) ?_
        go_wp2_with (fail)
        refine hcall.mono ?_
        rintro e7 w7 ⟨a7, c7, ob7, rfl, hO7, hF7, hN7⟩
        simp only at hO7
        have hF67 : Fr (fun _ => False) w6 w7 := (Fr.refl _ w6).drew.trans hF7
        have hb7 := hbx6.fr hF67 (fun h => h)
        have hBs := (((hb7.set 1 (.int .u32 a)).set 2 (.int .i64 n)).set 3 (.int .i64 sm)).set 4 (.slice a7 sh.length c7)
        have hFs : Fr (fun k => k = x.b) w7 ((((w7.setCell ⟨x.b, 1, none⟩ (.int .u32 a)).setCell ⟨x.b, 2, none⟩ (.int .i64 n)).setCell ⟨x.b, 3, none⟩ (.int .i64 sm)).setCell ⟨x.b, 4, none⟩ (.slice a7 sh.length c7)) :=
          ((((Fr.refl (fun k => k = x.b) w7).setCell (p := ⟨x.b, 1, none⟩) (fun _ => rfl) _).setCell (p := ⟨x.b, 2, none⟩) (fun _ => rfl) _).setCell (p := ⟨x.b, 3, none⟩) (fun _ => rfl) _).setCell (p := ⟨x.b, 4, none⟩) (fun _ => rfl) _
        have y1 := hb7.cell 1
        have y2 := hb7.cell 2
        have y3 := hb7.cell 3
        have y4 := hb7.cell 4
        have v1 := hb7.frozen 1
        have v2 := hb7.frozen 2
        have v3 := hb7.frozen 3
        have v4 := hb7.frozen 4
        have l7 := hb7.lt
        simp only [entC, List.getElem?_cons_succ, List.getElem?_cons_zero] at y1 y2 y3 y4
        have hxb7 : x.b < w.heap.size → U x.b := fun hl => hFUU _ hux hl
        have hfin : ∃ E', Eng (usesN U w ((((w7.setCell ⟨x.b, 1, none⟩ (.int .u32 a)).setCell ⟨x.b, 2, none⟩ (.int .i64 n)).setCell ⟨x.b, 3, none⟩ (.int .i64 sm)).setCell ⟨x.b, 4, none⟩ (.slice a7 sh.length c7))) ((((w7.setCell ⟨x.b, 1, none⟩ (.int .u32 a)).setCell ⟨x.b, 2, none⟩ (.int .i64 n)).setCell ⟨x.b, 3, none⟩ (.int .i64 sm)).setCell ⟨x.b, 4, none⟩ (.slice a7 sh.length c7)) be bn costs (all ++ [⟨f, a, n, m⟩]) E' ac cc ∧ E'.map (·.key) = keysE E ⟨a, n⟩ ∧ ∀ q, shownE E' q = shownE E q := by
          have hFt7 := (hFt.mono (T := fun k => k = x.b ∨ k = x.t) (fun _ _ e => .inr e)).trans ((hF67.mono (T := fun k => k = x.b ∨ k = x.t) (fun _ _ h => h.elim)).trans (hFs.mono (fun _ _ e => .inl e)))
          have hs7 := hF67.size
          have hst := hFt.size
          have hsd : ((((w7.setCell ⟨x.b, 1, none⟩ (.int .u32 a)).setCell ⟨x.b, 2, none⟩ (.int .i64 n)).setCell ⟨x.b, 3, none⟩ (.int .i64 sm)).setCell ⟨x.b, 4, none⟩ (.slice a7 sh.length c7)).heap.size = w7.heap.size := by simp
          have hkk : x.key = ⟨a, n⟩ := HXK.out
          have hp := hA.put hx (hh := ⟨f, a, n, m⟩) hkk HH.out (a' := a7) (c' := c7) hFt7 ?_ (((hM6.fr hF67 (fun h => h)).fr hFs (fun e => hown e.symm))) ?_ ?_
          · refine ⟨_, hp.wide (fun k hk => ?_) (fun k hk => ?_), ?_, ?_⟩
            · rw [hsd] at hk
              show U k ∨ _
              rw [hsd]
              rcases hk with hk | hk
              · rcases hUw k hk with h | h
                · exact .inl h
                · exact .inr (by omega)
              · have hw5 := hFw5.size
                exact .inr (by omega)
            · rcases hk with hk | hk
              · have := hFw5.size
                have hl : k < w.heap.size := HLT.out k hk
                rw [hsd]; omega
              · exact hk.2
            · rw [upd_keys (x := x) (by rfl), HKEY.out]
              exact congrArg (· :: E.map (·.key)) HXK.out
            · intro q
              rw [shownE_upd (x := x) (by rfl) (by rfl) (hA.key_one hx)]
              exact HSH2.out q
          · refine hBs.eq ?_
            simp only [entC, hkk, ← HMM.out, List.set_cons_succ, List.set_cons_zero]
          · rw [← HMM.out]
            exact (hO7.rd.fr hFs (fun b off e s => by
              rcases hO7.is with ⟨q, _⟩ | ⟨g, _, q, q2, _⟩
              · rw [q] at e; cases e
              · rw [q] at e; cases e
                have h1 := hN7 _ q2
                have h2 : b = x.b := s
                have h3 : x.b < w6.heap.size := l2
                have h4 : w6.drew.heap.size = w6.heap.size := rfl
                omega))
          · intro b off e
            rcases hO7.is with ⟨q, _⟩ | ⟨g, _, q, q2, _⟩
            · rw [q] at e; cases e
            · rw [q] at e; cases e
              have h1 := hN7 _ q2
              have h2 := hO7.lt _ q2
              have h4 : w6.drew.heap.size = w6.heap.size := rfl
              rw [hsd]; omega
        have HFIN := Lib.hid hfin
        have hFfin : Fr U w ((((w7.setCell ⟨x.b, 1, none⟩ (.int .u32 a)).setCell ⟨x.b, 2, none⟩ (.int .i64 n)).setCell ⟨x.b, 3, none⟩ (.int .i64 sm)).setCell ⟨x.b, 4, none⟩ (.slice a7 sh.length c7)) :=
          ((hFw5.trans' hFt (fun k hk e => hFUU _ (by rw [show k = x.t from e]; exact hut) hk)).trans (hF67.mono (fun _ _ h => h.elim))).trans' hFs (fun k hk e => hFUU _ (by rw [show k = x.b from e]; exact hux) hk)
        have HFF := Lib.hid hFfin
        clear hfin hFfin hBs hFs hb7 hF67 hO7 hN7 hF7 hcall hbx6 heb6 hct6 hB6 hM6 hM6' e0 e1 b0 b1 b2 b3 l0 l1 l2 x0 hFt
        go_wp2
        first | refine ⟨AnyW.mk _, ?_⟩ | refine ⟨rfl, rfl, AnyW.mk _, ?_⟩
        refine wpMix_nil ?_
        go_wp2
        go_ret
        obtain ⟨E', h1, h2, h3⟩ := HFIN.out
        exact RetSet.ok hY.out rfl HFF.out h1 h2 h3
    · have hHK : hasK E ⟨a, n⟩ := ⟨x, hx, hxk⟩
      have HHK := Lib.hid hHK
      have HG := Lib.hid hg
      have hY := Lib.hid (hX.out.trans (if_neg (fun h => h.1 hHK)))
      have HXK := Lib.hid hxk
      clear hg hxk hHK hFd hE1 hB1 hFw1
      go_wp2_with (at_lookup; refine wpList_lookL rfl _ _ 98 rfl 34 145 keyedN Try.underlying98 zeroPE bn (entL E) kln rfl HNT _ ⟨a, n⟩ rfl HNK.out HIJ.out ?_; rw [HG.out])
      have hFw5 : Fr U w w1.drew := hFw2.mono (fun _ _ h => h.elim)
      have HKEY := Lib.hid (show keysE E ⟨a, n⟩ = E.map (·.key) from if_pos HHK.out)
      clear e0 e1 b0 b1 b2 b3 l0 l1 hFw2 HNT
      have HNB := Lib.hid (show w.heap.size ≠ x.b ∧ w.heap.size ≠ x.t from ⟨fun e => HUU.out _ (hE2.ents x hx).uB e.symm, fun e => HUU.out _ (hE2.ents x hx).uT e.symm⟩)
      have HTX := Lib.hid (show toldL all x.key.a x.key.n = toldL all a n by rw [HXK.out])
      have hUw : ∀ k, U k → U k ∨ (w.heap.size ≤ k ∧ k < w1.drew.heap.size) := fun k hk => .inl hk
      have hFUU : ∀ k, U k → k < w.heap.size → U k := fun k hk _ => hk

      have hx0 := hE2.ents _ hx
      have e0 := hE2.blk.cell 0
      have e1 := hE2.blk.cell 1
      have b0 := hB2.cell 0
      have b1 := hB2.cell 1
      have b2 := hB2.cell 2
      have b3 := hB2.cell 3
      have x0 := hx0.blk.cell 0
      have l0 := hE2.blk.lt
      have l1 := hB2.lt
      have l2 := hx0.blk.lt
      simp only [entC, List.getElem?_cons_succ, List.getElem?_cons_zero] at e0 e1 b0 b1 b2 b3 x0
      have HM := hx0.told.fr (S := fun _ => False) ((Fr.refl _ _).drew) (fun h => h)
      rw [HTX.out] at HM
      have HLM := Lib.hid (show (toldL all a n).length < maxLen by have := toldL_len all a n; unfold maxLen; omega)
      have HTK := Lib.hid (ikey HFW.out)
      have HTI := Lib.hid (show ∀ p ∈ toldL all a n, kli p.1 = kli f → p.1 = f from fun _ _ e => kli_inj e)
      (refine wp_region_mix (fun _ => True) 8 (by kernel_rfl) (by kernel_rfl) (trivial) ?_; simp only [List.take_succ_cons, List.take_zero, List.drop_succ_cons, List.drop_zero])
      (refine wpMix_earlyN 8 (by kernel_rfl) (by kernel_rfl) ?_; simp only [List.take_succ_cons, List.take_zero, List.drop_succ_cons, List.drop_zero]; (repeat (go_big_quiet_step (fail))); refine wpQuiet_nil ?_)
      refine wpMix_nil ?_
      go_wp2_with (at_mapUpdate; refine wpList_mput rfl _ _ _ 147 rfl 3 3 keyedI Try.underlying147 _ (toldL all a n) kli rfl HM HLM.out _ _ f rfl rfl HTK.out HTI.out ?_)
      intro w6 hM6 hF6 hS6
      have hFt := (Fr.refl (fun k => k = x.t) w1.drew).drew.trans hF6
      have hxt := hE2.apE _ hx
      have hown := hx0.own
      have hux := hx0.uB
      have hut := hx0.uT
      have hbx6 := hx0.blk.fr hFt hown
      have heb6 := hE2.blk.fr hFt (fun e => hxt.2.2.1 e.symm)
      have hct6 := hE2.cost.fr hFt (fun b off e s => (hE2.apC b off e).2 (.inr (.inr ⟨_, hx, .inr s⟩)))
      have hB6 := hB2.fr hFt (HNB.out.2)
      have hM6' : MapL w6 Try.prog 3 kli x.t (toldL (all ++ [⟨f, a, n, m⟩]) a n) := by rw [toldL_snoc, if_pos ⟨rfl, rfl⟩]; exact hM6
      have hob : ∀ hh ∈ all ++ [⟨f, a, n, m⟩], 1 ≤ hh.m ∧ hh.m ≤ 16 := fun hh hm => by
        rcases List.mem_append.1 hm with hm | hm
        · exact (heardE_ok (hE2.ok hh hm)).2.2.2
        · rw [List.mem_singleton.1 hm]; exact (heardE_ok HH.out).2.2.2
      have HOB := Lib.hid hob
      have HXE := Lib.hid hx0
      clear e0 e1 b0 b1 b2 b3 l0 l1 l2 x0 HM HLM hF6 hS6 hx0 hob
      have e0 := heb6.cell 0
      have e1 := heb6.cell 1
      have b0 := hB6.cell 0
      have b1 := hB6.cell 1
      have b2 := hB6.cell 2
      have b3 := hB6.cell 3
      have x0 := hbx6.cell 0
      have l0 := heb6.lt
      have l1 := hB6.lt
      have l2 := hbx6.lt
      simp only [entC, List.getElem?_cons_succ, List.getElem?_cons_zero] at e0 e1 b0 b1 b2 b3 x0
      have hcall := chosen_any a n costs ac cc x.t _ (fun i => lastO (all ++ [⟨f, a, n, m⟩]) i a n) w6.drew (hct6.fr0 (Fr.refl (fun _ => False) w6).drew (fun _ _ h => h)) rfl hn8 HCB.out (hM6'.fr (Fr.refl (fun _ => False) w6).drew (fun h => h)) (fun i => toldL_get _ a n i) (fun i m h => lastO_bd HOB.out h)
      obtain ⟨M, hM⟩ : ∃ M, M = bestM (all ++ [⟨f, a, n, m⟩]) costs a n := ⟨_, rfl⟩
      rw [show chK (fun i => lastO (all ++ [⟨f, a, n, m⟩]) i a n) costs costs.length = M from hM.symm] at hcall
      have HMM := Lib.hid hM
      obtain ⟨sm, sh⟩ := M
      clear hM
      go_wp2
      (refine wp_region_mix (AnyW) 12 (by kernel_rfl) (by kernel_rfl) (AnyW.mk _) ?_; simp only [List.take_succ_cons, List.take_zero, List.drop_succ_cons, List.drop_zero])
      (refine wpMix_lateN 1 (AnyW.mk _) (by kernel_rfl) ?_; simp only [List.take_succ_cons, List.take_zero, List.drop_succ_cons, List.drop_zero]; (repeat (go_big_quiet_step (fail))); refine wpQuiet_nil ?_)
      (refine wpMix_earlyN 10 (by kernel_rfl) (by kernel_rfl) ?_; simp only [List.take_succ_cons, List.take_zero, List.drop_succ_cons, List.drop_zero]; (repeat (go_big_quiet_step (fail))); refine wpQuiet_nil ?_)
      refine wpMix_eff (by kernel_rfl) ?_
      go_wp2_with (fail)
      refine hcall.mono ?_
      rintro e7 w7 ⟨a7, c7, ob7, rfl, hO7, hF7, hN7⟩
      simp only at hO7
      have hF67 : Fr (fun _ => False) w6 w7 := (Fr.refl _ w6).drew.trans hF7
      have hb7 := hbx6.fr hF67 (fun h => h)
      have hBs := (((hb7.set 1 (.int .u32 a)).set 2 (.int .i64 n)).set 3 (.int .i64 sm)).set 4 (.slice a7 sh.length c7)
      have hFs : Fr (fun k => k = x.b) w7 ((((w7.setCell ⟨x.b, 1, none⟩ (.int .u32 a)).setCell ⟨x.b, 2, none⟩ (.int .i64 n)).setCell ⟨x.b, 3, none⟩ (.int .i64 sm)).setCell ⟨x.b, 4, none⟩ (.slice a7 sh.length c7)) :=
        ((((Fr.refl (fun k => k = x.b) w7).setCell (p := ⟨x.b, 1, none⟩) (fun _ => rfl) _).setCell (p := ⟨x.b, 2, none⟩) (fun _ => rfl) _).setCell (p := ⟨x.b, 3, none⟩) (fun _ => rfl) _).setCell (p := ⟨x.b, 4, none⟩) (fun _ => rfl) _
      have y1 := hb7.cell 1
      have y2 := hb7.cell 2
      have y3 := hb7.cell 3
      have y4 := hb7.cell 4
      have v1 := hb7.frozen 1
      have v2 := hb7.frozen 2
      have v3 := hb7.frozen 3
      have v4 := hb7.frozen 4
      have l7 := hb7.lt
      simp only [entC, List.getElem?_cons_succ, List.getElem?_cons_zero] at y1 y2 y3 y4
      have hxb7 : x.b < w.heap.size → U x.b := fun hl => hFUU _ hux hl
      have hfin : ∃ E', Eng (usesN U w ((((w7.setCell ⟨x.b, 1, none⟩ (.int .u32 a)).setCell ⟨x.b, 2, none⟩ (.int .i64 n)).setCell ⟨x.b, 3, none⟩ (.int .i64 sm)).setCell ⟨x.b, 4, none⟩ (.slice a7 sh.length c7))) ((((w7.setCell ⟨x.b, 1, none⟩ (.int .u32 a)).setCell ⟨x.b, 2, none⟩ (.int .i64 n)).setCell ⟨x.b, 3, none⟩ (.int .i64 sm)).setCell ⟨x.b, 4, none⟩ (.slice a7 sh.length c7)) be bn costs (all ++ [⟨f, a, n, m⟩]) E' ac cc ∧ E'.map (·.key) = keysE E ⟨a, n⟩ ∧ ∀ q, shownE E' q = shownE E q := by
        have hFt7 := (hFt.mono (T := fun k => k = x.b ∨ k = x.t) (fun _ _ e => .inr e)).trans ((hF67.mono (T := fun k => k = x.b ∨ k = x.t) (fun _ _ h => h.elim)).trans (hFs.mono (fun _ _ e => .inl e)))
        have hs7 := hF67.size
        have hst := hFt.size
        have hsd : ((((w7.setCell ⟨x.b, 1, none⟩ (.int .u32 a)).setCell ⟨x.b, 2, none⟩ (.int .i64 n)).setCell ⟨x.b, 3, none⟩ (.int .i64 sm)).setCell ⟨x.b, 4, none⟩ (.slice a7 sh.length c7)).heap.size = w7.heap.size := by simp
        have hkk : x.key = ⟨a, n⟩ := HXK.out
        have hp := hE2.put hx (hh := ⟨f, a, n, m⟩) hkk HH.out (a' := a7) (c' := c7) hFt7 ?_ (((hM6.fr hF67 (fun h => h)).fr hFs (fun e => hown e.symm))) ?_ ?_
        · refine ⟨_, hp.wide (fun k hk => ?_) (fun k hk => ?_), ?_, ?_⟩
          · rw [hsd] at hk
            show U k ∨ _
            rw [hsd]
            rcases hk with hk | hk
            · rcases hUw k hk with h | h
              · exact .inl h
              · exact .inr (by omega)
            · have hw5 := hFw5.size
              exact .inr (by omega)
          · rcases hk with hk | hk
            · have := hFw5.size
              have hl : k < w.heap.size := HLT.out k hk
              rw [hsd]; omega
            · exact hk.2
          · rw [upd_keys (x := x) (by rfl), HKEY.out]
          · intro q
            rw [shownE_upd (x := x) (by rfl) (by rfl) (hE2.key_one hx)]
        · refine hBs.eq ?_
          simp only [entC, hkk, ← HMM.out, List.set_cons_succ, List.set_cons_zero]
        · rw [← HMM.out]
          exact (hO7.rd.fr hFs (fun b off e s => by
            rcases hO7.is with ⟨q, _⟩ | ⟨g, _, q, q2, _⟩
            · rw [q] at e; cases e
            · rw [q] at e; cases e
              have h1 := hN7 _ q2
              have h2 : b = x.b := s
              have h3 : x.b < w6.heap.size := l2
              have h4 : w6.drew.heap.size = w6.heap.size := rfl
              omega))
        · intro b off e
          rcases hO7.is with ⟨q, _⟩ | ⟨g, _, q, q2, _⟩
          · rw [q] at e; cases e
          · rw [q] at e; cases e
            have h1 := hN7 _ q2
            have h2 := hO7.lt _ q2
            have h4 : w6.drew.heap.size = w6.heap.size := rfl
            rw [hsd]; omega
      have HFIN := Lib.hid hfin
      have hFfin : Fr U w ((((w7.setCell ⟨x.b, 1, none⟩ (.int .u32 a)).setCell ⟨x.b, 2, none⟩ (.int .i64 n)).setCell ⟨x.b, 3, none⟩ (.int .i64 sm)).setCell ⟨x.b, 4, none⟩ (.slice a7 sh.length c7)) :=
        ((hFw5.trans' hFt (fun k hk e => hFUU _ (by rw [show k = x.t from e]; exact hut) hk)).trans (hF67.mono (fun _ _ h => h.elim))).trans' hFs (fun k hk e => hFUU _ (by rw [show k = x.b from e]; exact hux) hk)
      have HFF := Lib.hid hFfin
      clear hfin hFfin hBs hFs hb7 hF67 hO7 hN7 hF7 hcall hbx6 heb6 hct6 hB6 hM6 hM6' e0 e1 b0 b1 b2 b3 l0 l1 l2 x0 hFt
      go_wp2
      first | refine ⟨AnyW.mk _, ?_⟩ | refine ⟨rfl, rfl, AnyW.mk _, ?_⟩
      refine wpMix_nil ?_
      go_wp2
      go_ret
      obtain ⟨E', h1, h2, h3⟩ := HFIN.out
      exact RetSet.ok hY.out rfl HFF.out h1 h2 h3
end Go.Proofs.Ytgfbkebbnfcgkaa
end

section
namespace Go
def Hea.net (x : Hea) : Nt := ⟨x.a, x.n⟩
/-- The nets that were heard, each once. -/
def fstN (l : List Hea) : List Nt := l.foldl (fun acc x => if x.net ∈ acc then acc else acc ++ [x.net]) []
theorem fstN_snoc (l : List Hea) (x : Hea) : fstN (l ++ [x]) = if x.net ∈ fstN l then fstN l else fstN l ++ [x.net] := by unfold fstN; rw [List.foldl_append]; rfl
theorem snocI {α : Type} {P : List α → Prop} (h0 : P []) (h1 : ∀ l x, P l → P (l ++ [x])) : ∀ l, P l := by
  intro l
  have : P l.reverse.reverse := by
    induction l.reverse with
    | nil => exact h0
    | cons x r ih => rw [List.reverse_cons]; exact h1 _ _ ih
  rwa [List.reverse_reverse] at this
theorem fstN_mem (l : List Hea) (q : Nt) : q ∈ fstN l ↔ ∃ x ∈ l, x.net = q := by
  induction l using snocI with
  | h0 => simp [fstN]
  | h1 l x ih =>
    rw [fstN_snoc]
    by_cases h : x.net ∈ fstN l
    · rw [if_pos h, ih]
      constructor
      · rintro ⟨y, hy, e⟩; exact ⟨y, by simp [hy], e⟩
      · rintro ⟨y, hy, e⟩
        rcases List.mem_append.1 hy with hy | hy
        · exact ⟨y, hy, e⟩
        · rw [List.mem_singleton.1 hy] at e; subst e; exact ih.1 h
    · rw [if_neg h, List.mem_append, ih, List.mem_singleton]
      constructor
      · rintro (⟨y, hy, e⟩ | e)
        · exact ⟨y, by simp [hy], e⟩
        · exact ⟨x, by simp, e.symm⟩
      · rintro ⟨y, hy, e⟩
        rcases List.mem_append.1 hy with hy | hy
        · exact .inl ⟨y, hy, e⟩
        · rw [List.mem_singleton.1 hy] at e; exact .inr e.symm
theorem fstN_nodup (l : List Hea) : (fstN l).Nodup := by
  induction l using snocI with
  | h0 => exact List.nodup_nil
  | h1 l x ih =>
    rw [fstN_snoc]
    by_cases h : x.net ∈ fstN l
    · rw [if_pos h]; exact ih
    · rw [if_neg h, List.nodup_append]
      exact ⟨ih, by simp, fun a ha b hb e => by rw [List.mem_singleton.1 hb] at e; subst e; exact h ha⟩
theorem fstN_mono (l m : List Hea) : (fstN l).length ≤ (fstN (l ++ m)).length := by
  induction m using snocI with
  | h0 => rw [List.append_nil]; exact Nat.le_refl _
  | h1 m x ih =>
    rw [← List.append_assoc, fstN_snoc]
    split
    · exact ih
    · rw [List.length_append]; omega
def netsM (l : List Hea) : List Nt := ordered (fstN l)
theorem netsM_mem (l : List Hea) (q : Nt) : q ∈ netsM l ↔ ∃ x ∈ l, x.net = q := by unfold netsM; rw [ordered_mem, fstN_mem]
theorem netsM_len (l : List Hea) : (netsM l).length = (fstN l).length := ordered_len _
theorem ordered_sorted {l : List Nt} (h : l.Nodup) : NSorted (ordered l) := by
  induction l using snocI with
  | h0 => exact List.Pairwise.nil
  | h1 l x ih =>
    rw [ordered_snoc]
    obtain ⟨h1, -, h3⟩ := List.nodup_append.1 h
    have hs := ih h1
    exact nIns_sorted hs (fun hh => h3 x ((ordered_mem l x).1 ((nHas_iff hs x).1 hh)) x (by simp) rfl)
theorem netsM_sorted (l : List Hea) : NSorted (netsM l) := ordered_sorted (fstN_nodup l)
end Go
namespace Go.Proofs.Ytgfbkebbnfcgkaa
open Go.RowKit

end Go.Proofs.Ytgfbkebbnfcgkaa
end

section
namespace Go.Proofs.Ytgfbkebbnfcgkaa
open Go.RowKit Go.Maps

/-- What a rib's list says, as it was heard. -/
abbrev hdL (l : List Td) : List Hea := l.map Td.hd
theorem td_heard {N : Nat} {now : Int} {x : Td} (h : TdOk now x) (hb : x.f < N ∧ netErr x.a x.n = none) : heardE N (Td.hd x) = none := by
  unfold heardE Td.hd
  simp only
  rw [if_neg (by have := h.f0; omega), hb.2]
  simp only
  rw [if_neg (by have := h.m0; have := h.m1; omega)]
/-- The best way to a net. -/
def bestD (D : DC) (l : List Td) (q : Nt) : Int × List Int := if q ∈ D.own then (1, []) else bestM (hdL l) D.costs q.a q.n
/-- All ways, in order. -/
structure AllR (D : DC) (l : List Td) (R : List BestR) : Prop where
  srt : NSorted (R.map bnet)
  mem : ∀ q : Nt, q ∈ R.map bnet ↔ q ∈ D.own ∨ ∃ x ∈ l, (⟨x.a, x.n⟩ : Nt) = q
  val : ∀ r ∈ R, (r.m, r.h) = bestD D l (bnet r)
  len : R.length ≤ 89
def RetDAll (w : World) (D : DC) (l : List Td) (e : Ending) (w' : World) : Prop :=
  ∃ (R : List BestR) (aR : Option Addr) (cR : Nat) (ob : Option Nat), e = .returned (.slice aR R.length cR) ∧ Alls w.heap.size w'.heap R aR cR ob ∧ AllR D l R ∧ Fr (fun _ => False) w w'
/-- The first ways: those to own nets. -/
def ownR (own : List Nt) : List BestR := own.map fun x => ⟨x.a, x.n, 1, [], none, 0⟩
theorem ownR_len (own : List Nt) : (ownR own).length = own.length := by simp [ownR]
theorem ownR_net (own : List Nt) : (ownR own).map bnet = own := by unfold ownR; rw [List.map_map]; exact List.map_id' own
theorem ownR_none {own : List Nt} {r : BestR} (h : r ∈ ownR own) : r.A = none ∧ r.m = 1 ∧ r.h = [] := by
  obtain ⟨x, _, rfl⟩ := List.mem_map.1 h; exact ⟨rfl, rfl, rfl⟩
theorem Alls.frN {base : Nat} {w w' : World} {R : List BestR} {aR : Option Addr} {cR : Nat} {ob : Option Nat} {S : Nat → Prop} (h : Alls base w.heap R aR cR ob) (f : Fr S w w') (h1 : ∀ g, ob = some g → ¬ S g) (h2 : ∀ x ∈ R, ∀ b off, x.A = some ⟨b, off, none⟩ → ¬ S b) : Alls base w'.heap R aR cR ob :=
  ⟨h.own.fr f h1, h.new, fun x hx => by
    obtain ⟨o, q1, q2⟩ := h.row x hx
    refine ⟨o, q1.fr f (fun g hg hs => ?_), q2⟩
    rcases q1.is with ⟨_, _, _, e⟩ | ⟨g', _, e, e2, _⟩
    · rw [e] at hg; cases hg
    · rw [e2] at hg; cases hg; exact h2 x hx _ _ e hs, h.pw⟩
theorem hdL_snoc (l : List Td) {k : Nat} (h : k < l.length) : hdL (l.take (k + 1)) = hdL (l.take k) ++ [Td.hd (nth l k)] := by unfold hdL; rw [take_succ_nth l k h, List.map_append]; rfl
theorem fst_hd (l : List Td) (q : Nt) : q ∈ fstN (hdL l) ↔ ∃ x ∈ l, (⟨x.a, x.n⟩ : Nt) = q := by
  rw [fstN_mem]
  constructor
  · rintro ⟨y, hy, rfl⟩
    obtain ⟨x, hx, rfl⟩ := List.mem_map.1 hy
    exact ⟨x, hx, rfl⟩
  · rintro ⟨x, hx, rfl⟩
    exact ⟨Td.hd x, List.mem_map.2 ⟨x, hx, rfl⟩, rfl⟩
theorem fstN_le (l : List Hea) : (fstN l).length ≤ l.length := by
  refine snocI (P := fun l => (fstN l).length ≤ l.length) (by simp [fstN]) (fun l x ih => ?_) l
  rw [fstN_snoc]
  split <;> simp <;> omega
theorem setE_none {costs : List Int} {E : List Ent} {h : Hea} (hh : heardE costs.length h = none) (hl : E.length < 64) : setE costs E h = none := by
  unfold setE
  rw [hh]
  simp only
  rw [if_neg (by omega)]
theorem keysE_le {E E' : List Ent} {q : Nt} (h : E'.map (·.key) = keysE E q) : E'.length ≤ E.length + 1 := by
  have h1 : E'.length = (keysE E q).length := by rw [← h]; simp
  unfold keysE at h1
  split at h1 <;> simp at h1 <;> omega
theorem bestD_own {D : DC} {l : List Td} {q : Nt} (h : q ∈ D.own) : bestD D l q = (1, []) := if_pos h
theorem bestD_other {D : DC} {l : List Td} {q : Nt} (h : q ∉ D.own) : bestD D l q = bestM (hdL l) D.costs q.a q.n := if_neg h

set_option maxRecDepth 100000 in
set_option maxHeartbeats 16000000 in
theorem dall_any {base : Nat} {D : DC} {now : Int} {l : List Td} {bad : Int} (w : World) (hD : Dmn w base D now l bad) :
    Calls Try.prog 21 #[.pointer (some ⟨D.bd, 0, none⟩)] w (RetDAll w D l) := by
  obtain ⟨c0, c1, c2, -, -, cl⟩ := hD.cells
  have H := Lib.hid hD
  have h64 := hD.l64
  have hc8 := hD.c8
  have h25 := hD.o25
  have HNE := Lib.hid hD.near
  obtain ⟨ao, hao0⟩ : ∃ ao, ao = D.ao := ⟨_, rfl⟩
  rw [← hao0] at c2
  have HOWN := Lib.hid (show Recs w.heap ao 2 Nt.cells D.own by rw [hao0]; exact hD.owns)
  clear hD hao0
  go_enter Try.func21, Try.ntmps21
  go_wp2_with (fail)
  refine (engNew_any D.costs D.ac D.cc w H.out.cost (by omega) rfl).mono ?_
  intro e1 w1 R1
  obtain ⟨be, bn, ae, ce, rfl, hE1, hF1⟩ := R1.okE HNE.out
  have hws1 := hF1.size
  obtain ⟨U0, hU0⟩ : ∃ U0 : Nat → Prop, U0 = fun k => w.heap.size ≤ k ∧ k < w1.heap.size := ⟨_, rfl⟩
  rw [← hU0] at hE1
  have HU0 := Lib.hid (show ∀ k, U0 k → w.heap.size ≤ k ∧ k < w1.heap.size from fun k hk => by rw [hU0] at hk; exact hk)
  have c0' := (hF1.cell (p := ⟨D.bd, 0, none⟩) cl (fun h => h)).trans c0
  have c2' := (hF1.cell (p := ⟨D.bd, 2, none⟩) cl (fun h => h)).trans c2
  clear R1 hU0 c0 c1 c2
  go_wp2
  go_loopw [30, 5] (fun s30 s5 wr => ∃ (i : Nat) (aR : Option Addr) (cR : Nat) (ob : Option Nat), i ≤ D.own.length ∧ s30 = .int .i64 i ∧ s5 = .slice aR i cR ∧ Eng U0 wr be bn D.costs [] [] ae ce ∧ Alls w.heap.size wr.heap (ownR (D.own.take i)) aR cR ob ∧ Hid (∀ g, ob = some g → w1.heap.size ≤ g) ∧ Fr (fun _ => False) w wr ∧ w1.heap.size ≤ wr.heap.size) (fun s _ _ => D.own.length - (intOf s).toNat)
  case atStart => exact ⟨0, none, 0, none, by omega, rfl, rfl, hE1, Alls.nil _ _, Lib.hid (fun _ h => nomatch h), hF1, Nat.le_refl _⟩
  case round =>
    clear hE1 hF1 c0' c2'
    obtain ⟨i, aR, cR, ob, hi, rfl, rfl, hE, hA, hob, hF, hw1r⟩ := hrel
    have c0 := (hF.cell (p := ⟨D.bd, 0, none⟩) cl (fun h => h)).trans H.out.cells.1
    have cl' := Nat.lt_of_lt_of_le cl hF.size
    by_cases hik : i < D.own.length
    · obtain ⟨g, o, rfl, hgl, hgc⟩ := Recs.pos HOWN.out Nt.cells_len (by omega) (by omega)
      have d0 := (hF.cell (p := ⟨g, o + (i * 2 + 0), none⟩) hgl (fun h => h)).trans (hgc w rfl i 0 hik (by omega))
      have d1 := (hF.cell (p := ⟨g, o + (i * 2 + 1), none⟩) hgl (fun h => h)).trans (hgc w rfl i 1 hik (by omega))
      have hT := take_succ_nth D.own i hik
      generalize nth D.own i = y at *
      obtain ⟨ya, yn⟩ := y
      simp only [Nt.cells, List.getElem?_cons_zero, List.getElem?_cons_succ, ← Nat.add_assoc, Nat.add_zero] at d0 d1
      have HT := Lib.hid (show ownR (D.own.take (i + 1)) = ownR (D.own.take i) ++ [⟨ya, yn, 1, [], none, 0⟩] by rw [hT]; unfold ownR; rw [List.map_append]; rfl)
      have hlen : (ownR (D.own.take i)).length = i := by rw [ownR_len, List.length_take_of_le hi]
      have hO := hA.own
      rw [hlen] at hO
      have hFa := (Fr.refl (fun _ => False) wr).alloc (.cells #[.int .u32 ya, .int .i64 yn] 34)
      have hrd := rd_lit1 wr (.cells #[.int .u32 ya, .int .i64 yn] 34) 49 [.int .u32 ya, .int .i64 yn, .int .i64 1, .slice none 0 0]
      have hFb := hFa.alloc (.cells #[.int .u32 ya, .int .i64 yn, .int .i64 1, .slice none 0 0] 49)
      have hOb := hO.fr hFb (fun _ _ h => h)
      have HA := Lib.hid hA
      have HE := Lib.hid hE
      have HLEN := Lib.hid hlen
      have hws := hF.size
      clear hgc hT hlen hO hA hE c0
      go_wp2_with (at_builtin; refine wpList_app rfl _ _ 36 rfl Try.underlying36 infoBst rfl (by decide) rfl rfl hOb hrd (by simp [Value.oneCell']) (by omega) (by omega) ?_)
      intro a8 c8 w8 ob8 v1 v2 v3
      have hs8 := v2.size
      have hsb : ((wr.alloc (.cells #[.int .u32 ya, .int .i64 yn] 34)).alloc (.cells #[.int .u32 ya, .int .i64 yn, .int .i64 1, .slice none 0 0] 49)).heap.size = wr.heap.size + 2 := by simp
      have hFw8 : Fr (fun k => ob = some k) wr w8 := (hFb.none _).trans v2
      have hob8 : ob8 = ob ∨ ∃ g, ob8 = some g ∧ wr.heap.size ≤ g := by
        rcases v3 with v3 | ⟨g', v3, v4⟩
        · exact .inl v3
        · exact .inr ⟨g', v3, by omega⟩
      have hA8 := HA.out.push hws (x := ⟨ya, yn, 1, [], none, 0⟩) (Ownd.nil _ _ _) (fun _ h => nomatch h) (by rw [HLEN.out]; exact v1) hFw8 hob8
      rw [← HT.out] at hA8
      have HA8 := Lib.hid hA8
      have hE8 := HE.out.fr hFw8 (fun k hk e => by have := hob.out k e; have := HU0.out k hk; omega)
      have hF8 : Fr (fun _ => False) w w8 := hF.trans' hFw8 (fun k hk e => by have := hob.out k e; omega)
      have HB8 := Lib.hid (show ∀ g, ob8 = some g → w1.heap.size ≤ g from fun g hg => by
        rcases hob8 with h | ⟨g', h, h'⟩
        · rw [h] at hg; exact hob.out g hg
        · rw [h] at hg; cases hg; omega)
      clear v1 v2 v3 hFw8 hob8 hA8 hrd hFa hFb hOb
      go_wp2
      go_roundw
      case rel => exact ⟨i + 1, a8, c8, ob8, by omega, by go_num, rfl, hE8, HA8.out, HB8, hF8, by omega⟩
      case measure => simp [intOf]; omega
    · have hie : i = D.own.length := by omega
      have hAo := hA
      rw [hie, List.take_length] at hAo
      have HI := Lib.hid hie
      clear hA hie
      go_wp2_with (fail)
      refine (ribList_any wr (H.out.rib.fr0 hF) h64).mono ?_
      rintro e2 wA ⟨aH, cH, obH, rfl, hOH, hF2, hNH⟩
      have hFA := hF.trans hF2
      have hEA := hE.fr0 hF2
      have hAA := hAo.fr0 hF2
      have hsA := hF2.size
      have HAA := Lib.hid hAA
      have HOH := Lib.hid hOH
      have HNH := Lib.hid (show ∀ g, obH = some g → ¬ U0 g from fun g hg h => by have := hNH g hg; have := HU0.out g h; omega)
      have HFA := Lib.hid hFA
      simp only [id]
      clear hAo hE hF hF2 hOH hNH hFA hAA c0
      go_wp2
      go_loopw [46, 8] (fun s46 s8 wr => ∃ (k : Nat) (E : List Ent) (U : Nat → Prop) (aN : Option Addr) (cN : Nat) (obN : Option Nat) (nN : Nat), k ≤ l.length ∧ s46 = .int .i64 k ∧ s8 = .slice aN nN cN ∧ Hid (nN = (fstN (hdL (l.take k))).length) ∧ Eng U wr be bn D.costs (hdL (l.take k)) E ae ce ∧ E.length ≤ k ∧ nN ≤ k ∧ Ownd wr.heap 34 2 aN nN cN ((fstN (hdL (l.take k))).flatMap Nt.cells) obN ∧ Hid (∀ g, obN = some g → ¬ U g ∧ wA.heap.size ≤ g) ∧ Hid (∀ j, U j → U0 j ∨ wA.heap.size ≤ j) ∧ Fr U0 wA wr) (fun s _ _ => l.length - (intOf s).toNat)
      case atStart => exact ⟨0, [], U0, none, 0, none, 0, by omega, rfl, rfl, Lib.hid rfl, hEA, by simp, by omega, Ownd.nil _ _ _, Lib.hid (fun _ h => nomatch h), Lib.hid (fun _ h => .inl h), Fr.refl _ _⟩
      case round =>
        clear hEA
        obtain ⟨k, E, U, aN, cN, obN, nN, hk, rfl, rfl, hnN, hE, hEk, hNk, hON, hoN, hUU, hF⟩ := hrel
        have hsr := hF.size
        by_cases hkl : k < l.length
        · obtain ⟨g, hga, hgo, hgl, hgc, -⟩ := (HOH.out.fr hF HNH.out).pos (by omega)
          have dd := fun (j : Nat) (hj : j < 4) => (hgc (k * 4 + j) (by omega)).trans (flat_get Td.hcells 4 Td.hcells_len l k j hkl hj)
          have d0 := dd 0 (by omega)
          have d1 := dd 1 (by omega)
          have d2 := dd 2 (by omega)
          have d3 := dd 3 (by omega)
          have hsn := hdL_snoc l hkl
          have hxm := nth_mem l k hkl
          generalize nth l k = x at *
          have hxo := H.out.ok.each x hxm
          have hxb := H.out.by' x hxm
          have hheard := td_heard hxo hxb
          have hset := setE_none (E := E) hheard (by omega)
          have hwf : Nt.wf ⟨x.a, x.n⟩ := ⟨hxo.a0, hxo.a1, i64_small (i := x.n) hxo.n0 (by have := hxo.n1; omega)⟩
          have hfw := i64_small hxo.f0 (by have := hxo.f1; omega)
          obtain ⟨xf, xa, xn, xm, xt⟩ := x
          simp only [Td.hd] at hset hwf hfw hsn hheard
          simp only [Td.hcells, List.getElem?_cons_zero, List.getElem?_cons_succ, Nat.add_zero] at d0 d1 d2 d3
          have HSN := Lib.hid hsn
          have HGA := Lib.hid hga
          subst hga
          have hB := Blk.made wr 111 [.int .i64 xf, .int .u32 xa, .int .i64 xn, .int .i64 xm]
          have hFa := (Fr.refl (fun _ => False) wr).alloc (.cells #[.int .i64 xf, .int .u32 xa, .int .i64 xn, .int .i64 xm] 111)
          have hEa := hE.fr0 hFa
          have hcall := set_any ⟨xf, xa, xn, xm⟩ _ hEa hwf hfw (by simp; omega) (by omega)
          rw [hset] at hcall
          have HUL := Lib.hid hE.lt
          have HWF := Lib.hid hwf
          clear dd hgc hxm hxo hxb hheard hset hsn hwf hfw
          go_wp2_with (fail)
          refine hcall.mono ?_
          intro e3 w3 R3
          obtain ⟨rfl, hF3, E', hE3, hkeys, -⟩ := R3.okE rfl
          have hEl := keysE_le hkeys
          have hsa : (wr.alloc (.cells #[.int .i64 xf, .int .u32 xa, .int .i64 xn, .int .i64 xm] 111)).heap.size = wr.heap.size + 1 := by simp
          have hs3 := hF3.size
          rw [hsa] at hs3
          have hB3 := hB.fr hF3 (fun h => by have := HUL.out _ h; omega)
          have hON3 := (hON.alloc (.cells #[.int .i64 xf, .int .u32 xa, .int .i64 xn, .int .i64 xm] 111)).fr hF3 (fun g hg h => (hoN.out g hg).1 h)
          have hoNlt := hON.lt
          have HOU := Lib.hid (show ∀ g, obN = some g → ¬ usesN U (wr.alloc (.cells #[.int .i64 xf, .int .u32 xa, .int .i64 xn, .int .i64 xm] 111)) w3 g ∧ wA.heap.size ≤ g from fun g hg => ⟨fun h => by
            rcases h with h | h
            · exact (hoN.out g hg).1 h
            · have := hoNlt g hg; rw [hsa] at h; omega, (hoN.out g hg).2⟩)
          have HUU := Lib.hid (show ∀ j, usesN U (wr.alloc (.cells #[.int .i64 xf, .int .u32 xa, .int .i64 xn, .int .i64 xm] 111)) w3 j → U0 j ∨ wA.heap.size ≤ j from fun j hj => by
            rcases hj with h | h
            · exact hUU.out j h
            · rw [hsa] at h; exact .inr (by omega))
          have hF03 : Fr U0 wA w3 := (hF.trans (hFa.none _)).trans' hF3 (fun j hj h => by
            rcases hUU.out j h with q | q
            · exact q
            · omega)
          have b1 := hB3.cell 1
          have b2 := hB3.cell 2
          have bl := hB3.lt
          simp only [List.getElem?_cons_succ, List.getElem?_cons_zero] at b1 b2
          generalize usesN U (wr.alloc (.cells #[.int .i64 xf, .int .u32 xa, .int .i64 xn, .int .i64 xm] 111)) w3 = U' at *
          have HULT := Lib.hid hE3.lt
          clear R3 hcall hEa hE hF hF3 hON hB hFa hkeys d0 d1 d2 d3 hoN hUU HUL hoNlt
          go_wp2_with (fail)
          refine (netIn_any (fstN (hdL (l.take k))) ⟨xa, xn⟩ aN cN w3 (by have := hON3.rd; unfold Recs; rw [← hnN.out]; exact this) (by have := hnN.out; omega) hnN.out).mono ?_
          rintro e4 w4 ⟨rfl, hF4⟩
          have hE4 := hE3.fr0 hF4
          have hON4 := hON3.fr hF4 (fun _ _ h => h)
          have hB4 := hB3.fr hF4 (fun h => h)
          have hF04 := hF03.trans (hF4.none _)
          have b1 := hB4.cell 1
          have b2 := hB4.cell 2
          have bl := hB4.lt
          have hs4 := hF4.size
          simp only [List.getElem?_cons_succ, List.getElem?_cons_zero] at b1 b2
          clear hE3 hON3 hB3 hF03 hF4
          by_cases hm : (⟨xa, xn⟩ : Nt) ∈ fstN (hdL (l.take k))
          · rw [decide_eq_true hm]
            have HFS := Lib.hid (show fstN (hdL (l.take (k + 1))) = fstN (hdL (l.take k)) by rw [HSN.out, fstN_snoc]; exact if_pos hm)
            have HE4 := Lib.hid (show Eng U' w4 be bn D.costs (hdL (l.take (k + 1))) E' ae ce by rw [HSN.out]; exact hE4)
            have HON4 := Lib.hid hON4
            have hnl := hON4.len
            clear hm hE4 hON4
            go_wp2
            go_roundw
            case rel => exact ⟨k + 1, E', U', aN, cN, obN, nN, by omega, by go_num, rfl, Lib.hid (by rw [HFS.out]; exact hnN.out), HE4.out, by omega, by omega, by rw [HFS.out]; exact HON4.out, HOU, HUU, hF04⟩
            case measure => simp [intOf]; omega
          · rw [decide_eq_false hm]
            have HFS := Lib.hid (show fstN (hdL (l.take (k + 1))) = fstN (hdL (l.take k)) ++ [⟨xa, xn⟩] by rw [HSN.out, fstN_snoc]; exact if_neg hm)
            have HE4 := Lib.hid (show Eng U' w4 be bn D.costs (hdL (l.take (k + 1))) E' ae ce by rw [HSN.out]; exact hE4)
            have hrd := rd_lit w4 34 [.int .u32 xa, .int .i64 xn]
            have hFb := (Fr.refl (fun _ => False) w4).alloc (.cells #[.int .u32 xa, .int .i64 xn] 34)
            have hOb := hON4.alloc (.cells #[.int .u32 xa, .int .i64 xn] 34)
            have hoNlt := hON4.lt
            clear hm hE4
            go_wp2_with (at_builtin; refine wpList_app rfl _ _ 35 rfl Try.underlying35 infoNt rfl (by decide) rfl rfl hOb hrd (by simp [Value.oneCell']) (by omega) (by omega) ?_)
            intro a8 c8 w8 ob8 v1 v2 v3
            have hsb : (w4.alloc (.cells #[.int .u32 xa, .int .i64 xn] 34)).heap.size = w4.heap.size + 1 := by simp
            have HE8 := Lib.hid ((HE4.out.fr0 hFb).fr v2 (fun j hj e => (HOU.out j e).1 hj))
            have HON8 := Lib.hid (show Ownd w8.heap 34 2 a8 (nN + 1) c8 ((fstN (hdL (l.take (k + 1)))).flatMap Nt.cells) ob8 by rw [HFS.out, List.flatMap_append]; simpa [hdL] using v1)
            have HOU8 := Lib.hid (show ∀ g, ob8 = some g → ¬ U' g ∧ wA.heap.size ≤ g from fun g hg => by
              rcases v3 with h | ⟨g', h, h'⟩
              · rw [h] at hg; exact HOU.out g hg
              · rw [h] at hg; cases hg
                exact ⟨fun h2 => by have := HULT.out g h2; omega, by omega⟩)
            have hF8 : Fr U0 wA w8 := (hF04.trans (hFb.none _)).trans' v2 (fun j hj e => by have := (HOU.out j e).2; omega)
            clear v1 v2 v3 hrd hFb hOb hON4 hoNlt
            go_wp2
            go_roundw
            case rel => exact ⟨k + 1, E', U', a8, c8, ob8, nN + 1, by omega, by go_num, rfl, Lib.hid (by rw [HFS.out, List.length_append, ← hnN.out]; rfl), HE8.out, by omega, by omega, HON8.out, HOU8, HUU, hF8⟩
            case measure => simp [intOf]; omega
        · have hke : k = l.length := by omega
          rw [hke, List.take_length] at hnN hE hON
          have HFw := Lib.hid (HFA.out.trans' hF (fun j hj h => by have := HU0.out j h; omega))
          have HOBU := Lib.hid (show ∀ g, ob = some g → ¬ U g ∧ obN ≠ some g from fun g hg => by
            have hlt := HAA.out.own.lt g hg
            refine ⟨fun h => ?_, fun h => by have := (hoN.out g h).2; omega⟩
            rcases hUU.out g h with q | q
            · have := HU0.out g q; have := hob.out g hg; omega
            · omega)
          have hAB := HAA.out.frN hF (fun g hg h => by have := HU0.out g h; have := hob.out g hg; omega) (fun x hx b off e => by rw [(ownR_none hx).1] at e; cases e)
          have hlenR : (ownR D.own).length = i := by rw [ownR_len, HI.out]
          obtain ⟨nets, hnets⟩ : ∃ nets, nets = fstN (hdL l) := ⟨_, rfl⟩
          rw [← hnets] at hnN hON
          have HNETS := Lib.hid hnets
          have hn64 : nN ≤ 64 := by have := hnN.out; have h2 := fstN_le (hdL l); rw [← hnets] at h2; simp [hdL] at h2; omega
          have HNO := Lib.hid (show ∀ q ∈ nets, netErr q.a q.n = none ∧ Nt.wf q ∧ q ∉ D.own from fun q hq => by
            rw [hnets, fst_hd] at hq
            obtain ⟨x, hx, rfl⟩ := hq
            have hxo := H.out.ok.each x hx
            exact ⟨(H.out.by' x hx).2, ⟨hxo.a0, hxo.a1, i64_small (i := x.n) hxo.n0 (by have := hxo.n1; omega)⟩, H.out.out x hx⟩)
          have hG0 : Hid ((ownR D.own).map bnet = D.own ++ nets.take 0 ∧ ∀ r ∈ ownR D.own, (r.m, r.h) = bestD D l (bnet r)) := Lib.hid ⟨by rw [ownR_net]; simp, fun r hr => by
            obtain ⟨-, h2, h3⟩ := ownR_none hr
            rw [bestD_own (by have := List.mem_map_of_mem (f := bnet) hr; rwa [ownR_net] at this), h2, h3]⟩
          have HLR := Lib.hid hlenR
          clear hnets hF hlenR hke hoN hUU
          go_wp2
          go_loopw [69, 5] (fun s69 s5 wr => ∃ (j : Nat) (R : List BestR) (aR : Option Addr) (cR : Nat) (ob : Option Nat) (nR : Nat), j ≤ nN ∧ s69 = .int .i64 j ∧ s5 = .slice aR nR cR ∧ Hid (nR = R.length) ∧ nR ≤ 25 + j ∧ Eng U wr be bn D.costs (hdL l) E ae ce ∧ Ownd wr.heap 34 2 aN nN cN (nets.flatMap Nt.cells) obN ∧ Alls w.heap.size wr.heap R aR cR ob ∧ Hid (R.map bnet = D.own ++ nets.take j ∧ ∀ r ∈ R, (r.m, r.h) = bestD D l (bnet r)) ∧ Hid (∀ g, ob = some g → ¬ U g ∧ obN ≠ some g) ∧ Fr (fun _ => False) w wr) (fun s _ _ => nN - (intOf s).toNat)
          case atStart => exact ⟨0, ownR D.own, aR, cR, ob, i, by omega, rfl, rfl, Lib.hid HLR.out.symm, by omega, hE, hON, hAB, hG0, HOBU, HFw.out⟩
          case round =>
            clear hE hON hAB hG0
            obtain ⟨j, R, aR, cR, ob, nR, hj, rfl, rfl, hnR, hn25, hE, hON, hA, hG, hOB, hF⟩ := hrel
            by_cases hjn : j < nN
            · have hjl : j < nets.length := by have := hnN.out; omega
              obtain ⟨g, hga, hgo, hgl, hgc, -⟩ := hON.pos (by omega)
              have dd := fun (q : Nat) (hq : q < 2) => (hgc (j * 2 + q) (by omega)).trans (flat_get Nt.cells 2 Nt.cells_len nets j q hjl hq)
              have d0 := dd 0 (by omega)
              have d1 := dd 1 (by omega)
              have hT := take_succ_nth nets j hjl
              obtain ⟨hq1, hq2, hq3⟩ := HNO.out _ (nth_mem nets j hjl)
              generalize nth nets j = y at *
              obtain ⟨ya, yn⟩ := y
              simp only [Nt.cells, List.getElem?_cons_zero, List.getElem?_cons_succ, Nat.add_zero] at d0 d1
              simp only at hq1 hq3
              have HGA := Lib.hid hga
              subst hga
              have HT := Lib.hid hT
              obtain ⟨M, hM⟩ : ∃ M, M = bestM (hdL l) D.costs ya yn := ⟨_, rfl⟩
              have HV := Lib.hid (show M = bestD D l ⟨ya, yn⟩ by rw [bestD_other hq3]; exact hM)
              have hFa := (Fr.refl (fun _ => False) wr).alloc (.cells #[.int .u32 ya, .int .i64 yn] 34)
              have hcall := get_any ya yn _ (hE.fr0 hFa) hq2
              rw [← hM, hq1] at hcall
              have hm4 : M.2.length ≤ 4 := by rw [hM]; exact (chK_bd (fun i => lastO (hdL l) i ya yn) D.costs (fun i m h => lastO_bd (fun y hy => (heardE_ok (hE.ok y hy)).2.2.2) h) (nearE_ok hE.near).2 D.costs.length (Nat.le_refl _)).2.2.1
              obtain ⟨sm, sh⟩ := M
              simp only at hm4
              clear dd hgc hT hq1 hq2 hq3 hM hjl
              go_wp2_with (fail)
              refine hcall.mono ?_
              intro e3 w3 R3
              obtain ⟨a3, c3, ob3, rfl, hO3, hF3, hN3⟩ := R3.okE rfl
              simp only at hO3 ⊢
              have hsa : (wr.alloc (.cells #[.int .u32 ya, .int .i64 yn] 34)).heap.size = wr.heap.size + 1 := by simp
              rw [hsa] at hN3
              have hFw3 := hFa.trans hF3
              have hFx := (Fr.refl (fun _ => False) w3).alloc (.cells #[.int .u32 ya, .int .i64 yn, .int .i64 sm, .slice a3 sh.length c3] 49)
              have hrd := rd_lit1 w3 (.cells #[.int .u32 ya, .int .i64 yn, .int .i64 sm, .slice a3 sh.length c3] 49) 49 [.int .u32 ya, .int .i64 yn, .int .i64 sm, .slice a3 sh.length c3]
              have hFb := hFx.alloc (.cells #[.int .u32 ya, .int .i64 yn, .int .i64 sm, .slice a3 sh.length c3] 49)
              have hA3 := hA.fr0 hFw3
              have hAo := hA3.own.fr hFb (fun _ _ h => h)
              rw [← hnR.out] at hAo
              have hws3 := hFw3.size
              have HA := Lib.hid hA
              have HE := Lib.hid hE
              have HON := Lib.hid hON
              have hwsr := hF.size
              clear hcall R3 hF3 d0 d1 hA hE hON hFa hA3
              go_wp2_with (at_builtin; refine wpList_app rfl _ _ 36 rfl Try.underlying36 infoBst rfl (by decide) rfl rfl hAo hrd (by simp [Value.oneCell']) (by omega) (by omega) ?_)
              intro a8 c8 w8 ob8 v1 v2 v3
              have hs8 := v2.size
              have hsb : ((w3.alloc (.cells #[.int .u32 ya, .int .i64 yn, .int .i64 sm, .slice a3 sh.length c3] 49)).alloc (.cells #[.int .u32 ya, .int .i64 yn, .int .i64 sm, .slice a3 sh.length c3] 49)).heap.size = w3.heap.size + 2 := by simp
              have hlt3 := hO3.lt
              have hoblt : ∀ g, ob = some g → g < wr.heap.size := HA.out.own.lt
              have hO38 := (hO3.fr hFb (fun _ _ h => h)).fr v2 (fun g hg e => by have := hoblt g e; have := hN3 g hg; omega)
              have hF38 : Fr (fun k => ob = some k) wr w8 := ((hFw3.trans hFb).none _).trans v2
              have hob8 : ob8 = ob ∨ ∃ g, ob8 = some g ∧ wr.heap.size ≤ g := by
                rcases v3 with v3 | ⟨g', v3, v4⟩
                · exact .inl v3
                · exact .inr ⟨g', v3, by omega⟩
              have HA8 := Lib.hid (HA.out.push hwsr (x := ⟨ya, yn, sm, sh, a3, c3⟩) hO38 (fun g hg => ⟨by have := hN3 g hg; omega, fun e => by
                rcases v3 with v3 | ⟨g', v3, v4⟩
                · rw [v3] at e; have := hoblt g e; have := hN3 g hg; omega
                · rw [v3] at e; cases e; have := hlt3 g hg; omega⟩) (by rw [← hnR.out]; simpa using v1) hF38 hob8)
              have hELT := HE.out.lt
              have hNLT := HON.out.lt
              have HE8 := Lib.hid (HE.out.fr hF38 (fun q hq e => (hOB.out q e).1 hq))
              have HON8 := Lib.hid (HON.out.fr hF38 (fun q hq e => (hOB.out q e).2 hq))
              have hF8 : Fr (fun _ => False) w w8 := hF.trans' hF38 (fun q hq e => by have := HA.out.new q e; omega)
              have HOB8 := Lib.hid (show ∀ g, ob8 = some g → ¬ U g ∧ obN ≠ some g from fun g hg => by
                rcases hob8 with h | ⟨g', h, h'⟩
                · rw [h] at hg; exact hOB.out g hg
                · rw [h] at hg; cases hg
                  exact ⟨fun h2 => by have := hELT g h2; omega, fun h2 => by have := hNLT g h2; omega⟩)
              have HG8 := Lib.hid (show (R ++ [(⟨ya, yn, sm, sh, a3, c3⟩ : BestR)]).map bnet = D.own ++ nets.take (j + 1) ∧ ∀ r ∈ R ++ [(⟨ya, yn, sm, sh, a3, c3⟩ : BestR)], (r.m, r.h) = bestD D l (bnet r) from ⟨by rw [HT.out, List.map_append, hG.out.1, List.append_assoc]; rfl, fun z hz => by
                rcases List.mem_append.1 hz with hz | hz
                · exact hG.out.2 z hz
                · rw [List.mem_singleton.1 hz]; exact HV.out⟩)
              clear v1 v2 v3 hO38 hF38 hob8 hO3 hFw3 hFb hAo hrd hFx hELT hNLT
              go_wp2
              go_roundw
              case rel => exact ⟨j + 1, R ++ [⟨ya, yn, sm, sh, a3, c3⟩], a8, c8, ob8, nR + 1, by omega, by go_num, rfl, Lib.hid (by rw [List.length_append, ← hnR.out]; rfl), by omega, HE8.out, HON8.out, HA8.out, HG8, HOB8, hF8⟩
              case measure => simp [intOf]; omega
            · have hje : j = nets.length := by have := hnN.out; omega
              have hk := hG.out.1
              rw [hje, List.take_length] at hk
              have hnd : (R.map bnet).Nodup := by
                rw [hk]
                refine List.nodup_append.2 ⟨H.out.nodup, by rw [HNETS.out]; exact fstN_nodup _, fun a ha b hb e => ?_⟩
                subst e
                exact (HNO.out a hb).2.2 ha
              have HK := Lib.hid hk
              have hl89 : R.length ≤ 89 := by have := hnR.out; omega
              have hR1 : R.length ≤ 1000000 := by omega
              clear hk hje hE hON
              go_wp2_with (fail)
              refine (sortBest_any R aR cR ob wr hA hnR.out hnd hR1).mono ?_
              rintro e5 w5 ⟨S, rfl, hS, hP, hA5, hF5, hn5⟩
              have HAR := Lib.hid (show AllR D l S from ⟨hS, fun q => by
                rw [(hP.map bnet).mem_iff, HK.out, List.mem_append, HNETS.out, fst_hd], fun r hr => hG.out.2 r (hP.mem_iff.1 hr), by rw [hP.length_eq]; exact hl89⟩)
              have hFe : Fr (fun _ => False) w w5 := hF.trans' hF5 (fun q hq e => by have := hA.new q e; omega)
              have HN5 := Lib.hid hn5
              clear hS hP hF hF5 hA hn5 hnd
              go_wp2
              go_ret
              exact ⟨S, aR, cR, ob, by rw [HN5.out]; rfl, hA5, HAR.out, hFe⟩
end Go.Proofs.Ytgfbkebbnfcgkaa
end

section
namespace Go
open Go.RowKit

/-- 'clear(s[i:])', s the call's own, i below its length: what is left is as it was. -/
theorem wpList_clr {P : Program} {w : World} {ops : Array Oper} {rest : List Oper} {o : Oper} {a : Act} {Q : Exit → Act → World → Prop}
    (hg : o.guard = none) (x : Operand) (t : TypeId) (hop : o.op = Op.call { callee := Callee.builtin Builtin.clear, args := #[x], argTypes := #[t] })
    {e : TypeId} {z : Value} {size : Nat} (ht : P.underlying t = some (.slice e)) (hz : ∀ w, (zeroValue e).run P w = .ok z w) (hsz : z.cells.size = size) (h1 : ∀ u ∈ z.cells.toList, u.oneCell' = true)
    {E : TypeId} {g i m c n cap : Nat} (hx : a.eval x = .slice (some ⟨g, i * size, none⟩) m c) {xs : List Value} (hown : Ownd w.heap E size (some ⟨g, 0, none⟩) n cap xs (some g)) (hi : i + m = n) (hm : 0 < m)
    (hK : ∀ w', Ownd w'.heap E size (some ⟨g, 0, none⟩) i cap (xs.take (i * size)) (some g) → Fr (fun k => k = g) w w' → wpList P ops Q rest (a.put o.dst (.tuple #[])) w') :
    wpList P ops Q (o :: rest) a w := by
  obtain ⟨g', cur, hga, hgo, hB, hn, hc, hl, htk⟩ := hown.blk (by omega)
  cases hga
  have hzl : (Builtin.zeroCells z.cells m).toList.length = m * size := by rw [← hsz]; simp [Builtin.zeroCells]
  have hz1 : ∀ u ∈ (Builtin.zeroCells z.cells m).toList, u.oneCell' = true := fun u hu => by
    simp only [Builtin.zeroCells, Array.toList_map, Array.toList_range, List.mem_map, List.mem_range] at hu
    obtain ⟨j, hj, rfl⟩ := hu
    have hs0 : 0 < z.cells.size := by
      rcases Nat.eq_zero_or_pos z.cells.size with h | h
      · rw [h] at hj; simp at hj
      · exact h
    have hjs : j % z.cells.size < z.cells.size := Nat.mod_lt _ hs0
    rw [getElem!_pos z.cells _ hjs]
    exact h1 _ (by simp)
  have hlen : i * size + (Builtin.zeroCells z.cells m).toList.length ≤ cur.length := by
    rw [hzl, hl, ← Nat.add_mul, hi]
    exact Nat.mul_le_mul_right _ hn
  have hst := run_storeCells_at P g (i * size) E (Builtin.zeroCells z.cells m).toList 0 cur.toArray w hB (by simpa using hlen) hz1
  simp only [Nat.add_zero] at hst
  refine wpList_plain hg fun K hK' => ?_
  obtain ⟨m', rfl⟩ : ∃ m', m = m' + 1 := ⟨m - 1, by omega⟩
  have hrun : (Builtin.clear_ #[t] o.type #[.slice (some ⟨g, i * size, none⟩) (m' + 1) c]).run P w = .ok (.tuple #[]) (w.setRow g (splice cur (i * size) (Builtin.zeroCells z.cells (m' + 1)).toList).toArray) := by
    simp [Builtin.clear_, run_underlying ht, hz, hst, splice]
  unfold Oper.wp
  simp [execOp, hop, resolve, invoke, builtin, hx, hrun, Result.andThen]
  refine hK' _ _ (hK _ ?_ ?_)
  · have hB' : Blk (w.setRow g (splice cur (i * size) (Builtin.zeroCells z.cells (m' + 1)).toList).toArray).heap g E (splice cur (i * size) (Builtin.zeroCells z.cells (m' + 1)).toList) := setRow_heap w g _ _ E _ hB
    refine Ownd.of_blk hB' (by omega) hc ?_ ?_
    · unfold splice
      simp only [List.length_append, List.length_take, List.length_drop]
      omega
    · unfold splice
      have : i * size ≤ cur.length := by omega
      rw [List.take_append_of_le_length (by rw [List.length_take]; omega), List.take_take, Nat.min_self, ← htk, List.take_take, Nat.min_eq_left (Nat.mul_le_mul_right _ (by omega))]
  · exact ⟨rfl, rfl, rfl, by simp [World.setRow], fun k hk hs => setRow_other w g k _ hs⟩
end Go
end

section
namespace Go.Proofs.Ytgfbkebbnfcgkaa
open Go.RowKit

/-! slices.Clone, slices.IndexFunc, slices.DeleteFunc at api.Best -/


theorem dbest_set (l : List BestR) (i : Nat) (x : BestR) (h : i < l.length) : (((((l.flatMap BestR.cells).set (i * 4) (.int .u32 x.a)).set (i * 4 + 1) (.int .i64 x.n)).set (i * 4 + 2) (.int .i64 x.m)).set (i * 4 + 3) (.slice x.A x.h.length x.C)) = (l.set i x).flatMap BestR.cells := by
  induction l generalizing i with
  | nil => simp at h
  | cons y l ih =>
    cases i with
    | zero => rfl
    | succ i =>
      have := ih i (by simpa using h)
      rw [List.set_cons_succ, List.flatMap_cons, List.flatMap_cons, ← this]
      rw [show (i + 1) * 4 = i * 4 + 1 + 1 + 1 + 1 by omega]
      rfl
/-- The first of which it is so. -/
def dbest_Idx (w : World) (l : List BestR) (p : BestR → Bool) (e : Ending) (w' : World) : Prop :=
  ∃ i : Int, e = .returned (.int .i64 i) ∧ Fr (fun _ => False) w w' ∧ ((∃ k : Nat, k < l.length ∧ i = k ∧ p (nth l k) = true ∧ ∀ j, j < k → p (nth l j) = false) ∨ (i = -1 ∧ ∀ j, j < l.length → p (nth l j) = false))
set_option maxRecDepth 100000 in
set_option maxHeartbeats 1000000 in
theorem dbest_idx {n : Nat} (l : List BestR) (p : BestR → Bool) (a : Option Addr) (c : Nat)  (w : World) (hL : Recs w.heap a 4 BestR.cells l) (hn : l.length = n) (hl : n ≤ 9223372036854775806)
    (hp : ∀ (x : BestR), x ∈ l → ∀ (w' : World), Fr (fun _ => False) w w' → Calls Try.prog 22 #[.agg #[.int .u32 x.a, .int .i64 x.n, .int .i64 x.m, .slice x.A x.h.length x.C]] w' (RetV w' (.bool (p x)))) :
    Calls Try.prog 37 #[.slice a n c, .func (.func 22) #[] #[]] w (dbest_Idx w l p) := by
  have HN := Lib.hid hn
  have HP := Lib.hid hp
  clear hn hp
  go_enter Try.func37, Try.ntmps37
  go_wp2
  go_loopw [8] (fun s8 wr => ∃ (k : Nat), k ≤ n ∧ s8 = .int .i64 k ∧ Fr (fun _ => False) w wr ∧ Hid (∀ j, j < k → p (nth l j) = false)) (fun s _ => n - (intOf s).toNat)
  case atStart => exact ⟨0, by omega, rfl, Fr.refl _ _, Lib.hid (fun j hj => absurd hj (Nat.not_lt_zero _))⟩
  case round =>
    obtain ⟨k, hk, rfl, hF, hE⟩ := hrel
    by_cases hkl : k < n
    · have hkl' : k < l.length := by rw [HN.out]; exact hkl
      obtain ⟨b, off, rfl, hbb, hc⟩ := Recs.pos hL BestR.cells_len (by omega) (by omega)
      have dd := fun (j : Nat) (hj : j < 4) => (hF.cell (p := ⟨b, off + (k * 4 + j), none⟩) hbb (fun h => h)).trans (hc w rfl k j hkl' hj)
      have d0 := dd 0 (by omega)
      have d1 := dd 1 (by omega)
      have d2 := dd 2 (by omega)
      have d3 := dd 3 (by omega)
      obtain ⟨x, hx⟩ : ∃ x, x = nth l k := ⟨_, rfl⟩
      rw [← hx] at d0 d1 d2 d3
      obtain ⟨xa, xn, xm, xh, xA, xC⟩ := x
      simp only [BestR.cells, List.getElem?_cons_zero, List.getElem?_cons_succ, ← Nat.add_assoc, Nat.add_zero] at d0 d1 d2 d3
      have HX := Lib.hid hx
      clear hc hx dd hkl'
      go_wp2_with (fail)
      refine (HP.out ⟨xa, xn, xm, xh, xA, xC⟩ (by rw [HX.out]; exact nth_mem l k (by rw [HN.out]; exact hkl)) wr hF).mono ?_
      rintro e1 w1 ⟨rfl, hF1⟩
      cases hpx : p ⟨xa, xn, xm, xh, xA, xC⟩ with
      | false =>
        have HPX := Lib.hid hpx
        clear hpx
        go_wp2
        go_roundw
        case rel => exact ⟨k + 1, by omega, by go_num, hF.trans hF1, Lib.hid (fun j hj => by
          rcases Nat.lt_succ_iff_lt_or_eq.1 hj with h | h
          · exact hE.out j h
          · subst h; rw [← HX.out]; exact HPX.out)⟩
        case measure => simp [intOf]; omega
      | true =>
        have HPX := Lib.hid hpx
        clear hpx
        go_wp2
        go_ret
        exact ⟨k, rfl, hF.trans hF1, .inl ⟨k, by rw [HN.out]; exact hkl, rfl, by rw [← HX.out]; exact HPX.out, hE.out⟩⟩
    · obtain rfl : k = n := by omega
      go_wp2
      go_ret
      exact ⟨-1, rfl, hF, .inr ⟨rfl, fun j hj => hE.out j (by rw [← HN.out]; exact hj)⟩⟩

/-- What is left: of those of which it is not so, in the old block. -/
def dbest_Del (w : World) (l : List BestR) (p : BestR → Bool) (ob : Option Nat) (e : Ending) (w' : World) : Prop :=
  ∃ a c m, e = .returned (.slice a m c) ∧ m = (l.filter fun x => !p x).length ∧ Ownd w'.heap 49 4 a m c ((l.filter fun x => !p x).flatMap BestR.cells) ob ∧ Fr (fun k => ob = some k) w w'
theorem zerodbest : ∀ w : World, (zeroValue 49).run Try.prog w = .ok (.agg #[.int .u32 0, .int .i64 0, .int .i64 0, .slice none 0 0]) w := fun w => by kernel_rfl
set_option maxRecDepth 100000 in
set_option maxHeartbeats 2000000 in
theorem dbest_del {n : Nat} (l : List BestR) (p : BestR → Bool) (a : Option Addr) (c : Nat) (ob : Option Nat)  (w : World) (hO : Ownd w.heap 49 4 a n c (l.flatMap BestR.cells) ob) (hn : l.length = n) (hl : n ≤ 9223372036854775806)
    (hp : ∀ (x : BestR), x ∈ l → ∀ (w' : World), Fr (fun k => ob = some k) w w' → Calls Try.prog 22 #[.agg #[.int .u32 x.a, .int .i64 x.n, .int .i64 x.m, .slice x.A x.h.length x.C]] w' (RetV w' (.bool (p x)))) :
    Calls Try.prog 20 #[.slice a n c, .func (.func 22) #[] #[]] w (dbest_Del w l p ob) := by
  have HN := Lib.hid hn
  have HP := Lib.hid hp
  have hL : Recs w.heap a 4 BestR.cells l := by unfold Recs; rw [hn]; exact hO.rd
  clear hn hp
  go_enter Try.func20, Try.ntmps20
  go_wp2_with (fail)
  refine (dbest_idx l p a c  w hL HN.out hl (fun x hx w' hF => HP.out x hx w' (hF.none _))).mono ?_
  rintro e1 w1 ⟨i0, rfl, hF1, hI⟩
  have hO1 := hO.fr hF1 (fun _ _ h => h)
  rcases hI with ⟨k0, hk0, rfl, hpk, hlt⟩ | ⟨rfl, hno⟩
  · have hk0n : k0 < n := by rw [← HN.out]; exact hk0
    obtain ⟨g, rfl, rfl, hgl, -, -⟩ := hO1.pos (by omega)
    have hst : (l.take (k0 + 1)).filter (fun x => !p x) = l.take k0 := by
      rw [take_succ_nth l k0 hk0, List.filter_append, List.filter_eq_self.2 (fun x hx => ?_)]
      · simp [hpk]
      · obtain ⟨j, hj, rfl⟩ := List.getElem_of_mem hx
        have hjk : j < k0 := by simp at hj; omega
        have h1 := hlt j hjk
        rw [nth_eq l j (by omega)] at h1
        simp [h1]
    have hb0 : ((k0 : Int) == -1) = false := by simp
    have HS : Hid ((l.take (k0 + 1)).filter (fun x => !p x) = l.take k0) := hst
    clear hst hpk hlt hL
    go_wp2
    go_loopw [6, 5] (fun s6 s5 wr => ∃ (j i : Nat) (m : List BestR), s6 = .int .i64 j ∧ s5 = .int .i64 i ∧ i < j ∧ j ≤ n ∧ Ownd wr.heap 49 4 (some ⟨g, 0, none⟩) n c (m.flatMap BestR.cells) (some g) ∧ Hid (m.length = n ∧ m.take i = (l.take j).filter (fun x => !p x) ∧ m.drop j = l.drop j) ∧ Fr (fun k => some g = some k) w wr) (fun s _ _ => n - (intOf s).toNat)
    case atStart => exact ⟨k0 + 1, k0, l, by go_num, rfl, by omega, by omega, hO1, ⟨HN.out, HS.out.symm, rfl⟩, hF1.none _⟩
    case round =>
      clear hO1
      obtain ⟨j, i, m, rfl, rfl, hij, hj, hO, hM, hF⟩ := hrel
      by_cases hjn : j < n
      · obtain ⟨hm1, hm2, hm3⟩ := hM.out
        obtain ⟨_, hh, hh2, hgl', hc, hf⟩ := hO.pos (by omega)
        cases hh
        have dd := fun (q : Nat) (hq : q < 4) => (hc (j * 4 + q) (by omega)).trans (flat_get BestR.cells 4 BestR.cells_len m j q (by omega) hq)
        have d0 := dd 0 (by omega)
        have d1 := dd 1 (by omega)
        have d2 := dd 2 (by omega)
        have d3 := dd 3 (by omega)
        have fi := fun q => hf q
        have f0 := fi (i * 4)
        have f1 := fi (i * 4 + 1)
        have f2 := fi (i * 4 + 2)
        have f3 := fi (i * 4 + 3)
        have hnj : nth m j = nth l j := by
          have h1 := drop_nth m j (by omega)
          have h2 := drop_nth l j (by rw [HN.out]; exact hjn)
          rw [hm3] at h1
          rw [h1] at h2
          exact (List.cons.inj h2).1
        have cc := fun (q : Nat) (hq : q < 4) => (hc (i * 4 + q) (by omega)).trans (flat_get BestR.cells 4 BestR.cells_len m i q (by omega) hq)
        have e0 := cc 0 (by omega)
        have e1 := cc 1 (by omega)
        have e2 := cc 2 (by omega)
        have e3 := cc 3 (by omega)
        rw [hnj] at d0 d1 d2 d3
        obtain ⟨x, hx⟩ : ∃ x, x = nth l j := ⟨_, rfl⟩
        rw [← hx] at d0 d1 d2 d3
        generalize nth m i = y at *
        obtain ⟨xa, xn, xm, xh, xA, xC⟩ := x
        obtain ⟨ya, yn, ym, yh, yA, yC⟩ := y
        simp only [BestR.cells, List.getElem?_cons_zero, List.getElem?_cons_succ, Nat.add_zero] at d0 d1 d2 d3 e0 e1 e2 e3
        have HX := Lib.hid hx
        have hset := ((((hO.set rfl (i * 4) (.int .u32 xa)).set rfl (i * 4 + 1) (.int .i64 xn)).set rfl (i * 4 + 2) (.int .i64 xm)).set rfl (i * 4 + 3) (.slice xA xh.length xC))
        rw [dbest_set m i ⟨xa, xn, xm, xh, xA, xC⟩ (by omega)] at hset
        have HSET := Lib.hid hset
        have htk : l.take (j + 1) = l.take j ++ [nth l j] := take_succ_nth l j (by rw [HN.out]; exact hjn)
        have HTK := Lib.hid htk
        clear hc hf dd cc fi hx hset htk hm1 hm2 hm3 hnj hh2
        go_wp2_with (fail)
        refine (HP.out ⟨xa, xn, xm, xh, xA, xC⟩ (by rw [HX.out]; exact nth_mem l j (by rw [HN.out]; exact hjn)) _ (hF.alloc _)).mono ?_
        rintro e2 w2 ⟨rfl, hF2⟩
        have hF02 := ((Fr.refl (fun _ => False) wr).alloc (.cells #[.int .u32 xa, .int .i64 xn, .int .i64 xm, .slice xA xh.length xC] 49)).trans hF2
        have hltb := Nat.lt_of_lt_of_le (show wr.heap.size < (wr.alloc (.cells #[.int .u32 xa, .int .i64 xn, .int .i64 xm, .slice xA xh.length xC] 49)).heap.size by simp) hF2.size
        have hbx := (Blk.made wr 49 [.int .u32 xa, .int .i64 xn, .int .i64 xm, .slice xA xh.length xC]).fr hF2 (fun h => h)
        have h0 := hbx.cell 0
        have h1 := hbx.cell 1
        have h2 := hbx.cell 2
        have h3 := hbx.cell 3
        have e0 := (hF02.cell (p := ⟨g, i * 4, none⟩) hgl' (fun h => h)).trans e0
        have f0 := (hF02.frozen (p := ⟨g, i * 4, none⟩) hgl' (fun h => h)).trans f0
        have e1 := (hF02.cell (p := ⟨g, i * 4 + 1, none⟩) hgl' (fun h => h)).trans e1
        have f1 := (hF02.frozen (p := ⟨g, i * 4 + 1, none⟩) hgl' (fun h => h)).trans f1
        have e2 := (hF02.cell (p := ⟨g, i * 4 + 2, none⟩) hgl' (fun h => h)).trans e2
        have f2 := (hF02.frozen (p := ⟨g, i * 4 + 2, none⟩) hgl' (fun h => h)).trans f2
        have e3 := (hF02.cell (p := ⟨g, i * 4 + 3, none⟩) hgl' (fun h => h)).trans e3
        have f3 := (hF02.frozen (p := ⟨g, i * 4 + 3, none⟩) hgl' (fun h => h)).trans f3
        have hgl2 := Nat.lt_of_lt_of_le hgl' hF02.size
        have hgne : g ≠ wr.heap.size := by omega
        simp only [List.getElem?_cons_zero, List.getElem?_cons_succ] at h0 h1 h2 h3
        cases hpx : p ⟨xa, xn, xm, xh, xA, xC⟩ with
        | false =>
          have hM' : Hid ((m.set i ⟨xa, xn, xm, xh, xA, xC⟩).length = n ∧ (m.set i ⟨xa, xn, xm, xh, xA, xC⟩).take (i + 1) = (l.take (j + 1)).filter (fun x => !p x) ∧ (m.set i ⟨xa, xn, xm, xh, xA, xC⟩).drop (j + 1) = l.drop (j + 1)) := by
            obtain ⟨hm1, hm2, hm3⟩ := hM.out
            refine ⟨by simp [hm1], ?_, ?_⟩
            · rw [HTK.out, List.filter_append, ← hm2, ← HX.out]
              rw [take_succ_nth _ i (by simp; omega), nth_set _ _ _ _ (by omega), if_pos rfl, List.take_set_of_le (Nat.le_refl _)]
              simp [hpx]
            · rw [List.drop_set_of_lt (by omega), ← List.drop_drop, hm3, List.drop_drop]
          clear hpx hM
          have hO2 : Ownd ((((w2.setCell ⟨g, i * 4, none⟩ (.int .u32 xa)).setCell ⟨g, i * 4 + 1, none⟩ (.int .i64 xn)).setCell ⟨g, i * 4 + 2, none⟩ (.int .i64 xm)).setCell ⟨g, i * 4 + 3, none⟩ (.slice xA xh.length xC)).heap 49 4 (some ⟨g, 0, none⟩) n c ((m.set i ⟨xa, xn, xm, xh, xA, xC⟩).flatMap BestR.cells) (some g) := by
            have h0 := hO.fr hF02 (fun _ _ h => h)
            have hset := ((((h0.set rfl (i * 4) (.int .u32 xa)).set rfl (i * 4 + 1) (.int .i64 xn)).set rfl (i * 4 + 2) (.int .i64 xm)).set rfl (i * 4 + 3) (.slice xA xh.length xC))
            rw [dbest_set m i ⟨xa, xn, xm, xh, xA, xC⟩ (by have := hM'.out.1; simp at this; omega)] at hset
            exact hset
          have HO2 := Lib.hid hO2
          clear hO2 hO hbx HSET
          go_wp2
          go_roundw
          case rel => exact ⟨j + 1, i + 1, m.set i ⟨xa, xn, xm, xh, xA, xC⟩, by go_num, by go_num, by omega, by omega, HO2.out, hM', (((((hF.trans (hF02.none _)).setCell (fun _ => rfl) _).setCell (fun _ => rfl) _).setCell (fun _ => rfl) _).setCell (fun _ => rfl) _)⟩
          case measure => simp [intOf]; omega
        | true =>
          have hM' : Hid (m.length = n ∧ m.take i = (l.take (j + 1)).filter (fun x => !p x) ∧ m.drop (j + 1) = l.drop (j + 1)) := by
            obtain ⟨hm1, hm2, hm3⟩ := hM.out
            refine ⟨hm1, ?_, ?_⟩
            · rw [HTK.out, List.filter_append, ← hm2, ← HX.out]
              simp [hpx]
            · rw [← List.drop_drop, hm3, List.drop_drop]
          have hO2 := hO.fr hF02 (fun _ _ h => h)
          clear hpx hM hO hbx HSET
          go_wp2
          go_roundw
          case rel => exact ⟨j + 1, i, m, by go_num, rfl, by omega, by omega, hO2, hM', hF.trans (hF02.none _)⟩
          case measure => simp [intOf]; omega
      · obtain rfl : j = n := by omega
        have hcap := hO.cap
        have hne : ¬ c = i := by omega
        go_wp2_with (refine wpList_clr rfl _ 36 rfl Try.underlying36 zerodbest rfl (by simp [Value.cells, Value.oneCell']) (i := i) (m := j - i) rfl hO (by omega) (by omega) ?_)
        intro w3 hO3 hF3
        have htk : (m.flatMap BestR.cells).take (i * 4) = (l.filter fun x => !p x).flatMap BestR.cells := by
          obtain ⟨hm1, hm2, hm3⟩ := hM.out
          rw [flat_take BestR.cells 4 BestR.cells_len, hm2, List.take_of_length_le (by rw [HN.out]; omega)]
        rw [htk] at hO3
        have hml : i = (l.filter fun x => !p x).length := by
          have := hO3.len
          rw [flat_len _ 4 BestR.cells_len] at this
          omega
        have HML := Lib.hid hml
        have hF03 : Fr (fun k => some g = some k) w w3 := hF.trans (hF3.mono (fun k _ h => by rw [h]))
        clear hO hM htk hml hF3
        go_wp2
        go_ret
        exact ⟨some ⟨g, 0, none⟩, c, i, rfl, HML.out, hO3, hF03⟩
  · have hfl : l.filter (fun x => !p x) = l := List.filter_eq_self.2 (fun x hx => by
      obtain ⟨j, hj, rfl⟩ := List.getElem_of_mem hx
      have h1 := hno j hj
      rw [nth_eq l j hj] at h1
      simp [h1])
    have HFL := Lib.hid hfl
    clear hfl hno hO hL
    go_wp2
    go_ret
    exact ⟨a, c, n, rfl, by rw [HFL.out, HN.out], by rw [HFL.out]; exact hO1, hF1.none _⟩
end Go.Proofs.Ytgfbkebbnfcgkaa
end

section
namespace Go.Proofs.Ytgfbkebbnfcgkaa
open Go.RowKit Go.Maps

theorem bestD_bd {w : World} {base : Nat} {D : DC} {now : Int} {l : List Td} {bad : Int} (h : Dmn w base D now l bad) (q : Nt) : 1 ≤ (bestD D l q).1 ∧ (bestD D l q).1 ≤ 16 ∧ (bestD D l q).2.length ≤ 4 ∧ ∀ z ∈ (bestD D l q).2, 0 ≤ z ∧ z < D.costs.length := by
  unfold bestD
  split
  · exact ⟨by simp, by simp, by simp, fun _ hz => nomatch hz⟩
  · have hl : ∀ x ∈ hdL l, 1 ≤ x.m ∧ x.m ≤ 16 := fun x hx => by
      obtain ⟨y, hy, rfl⟩ := List.mem_map.1 hx
      have := h.ok.each y hy
      exact ⟨this.m0, this.m1⟩
    obtain ⟨p1, p2, p3, p4, -⟩ := chK_bd (fun i => lastO (hdL l) i q.a q.n) D.costs (fun i m hm => lastO_bd hl hm) (nearE_ok h.near).2 D.costs.length (Nat.le_refl _)
    exact ⟨by unfold bestM; omega, p2, p3, fun z hz => by have := p4 z hz; omega⟩
/-- The ways that there are. -/
structure TabR (D : DC) (l : List Td) (R : List BestR) : Prop where
  srt : NSorted (R.map bnet)
  mem : ∀ q : Nt, q ∈ R.map bnet ↔ (q ∈ D.own ∨ ∃ x ∈ l, (⟨x.a, x.n⟩ : Nt) = q) ∧ (bestD D l q).1 < 16
  val : ∀ r ∈ R, (r.m, r.h) = bestD D l (bnet r)
  len : R.length ≤ 89
def RetDTab (w : World) (D : DC) (l : List Td) (e : Ending) (w' : World) : Prop :=
  ∃ (R : List BestR) (aR : Option Addr) (cR : Nat) (ob : Option Nat), e = .returned (.slice aR R.length cR) ∧ Alls w.heap.size w'.heap R aR cR ob ∧ TabR D l R ∧ Fr (fun _ => False) w w'
set_option maxRecDepth 100000 in
theorem table1_any (x : BestR) (w : World) : Calls Try.prog 22 #[.agg #[.int .u32 x.a, .int .i64 x.n, .int .i64 x.m, .slice x.A x.h.length x.C]] w (RetV w (.bool (x.m == 16))) := by
  obtain ⟨xa, xn, xm, xh, xA, xC⟩ := x
  simp only
  generalize xh.length = xl
  go_enter Try.func22, Try.ntmps22
  go_wp2
  go_ret
  exact RetV.mk rfl rfl ((Fr.refl _ _).alloc _)
theorem tabR_of {w : World} {base : Nat} {D : DC} {now : Int} {l : List Td} {bad : Int} (h : Dmn w base D now l bad) {R : List BestR} (hR : AllR D l R) : TabR D l (R.filter fun x => !(x.m == 16)) := by
  have hm : ∀ r ∈ R, (bestD D l (bnet r)).1 = r.m := fun r hr => by rw [← hR.val r hr]
  refine ⟨?_, fun q => ?_, fun r hr => hR.val r (List.mem_filter.1 hr).1, Nat.le_trans (List.length_filter_le _ _) hR.len⟩
  · exact List.Pairwise.sublist ((List.filter_sublist).map bnet) hR.srt
  · rw [List.mem_map]
    have hbd := bestD_bd h q
    constructor
    · rintro ⟨r, hr, rfl⟩
      obtain ⟨h1, h2⟩ := List.mem_filter.1 hr
      refine ⟨(hR.mem _).1 (List.mem_map.2 ⟨r, h1, rfl⟩), ?_⟩
      have h3 := hm r h1
      have h4 : r.m ≠ 16 := by simpa using h2
      omega
    · rintro ⟨h1, h2⟩
      obtain ⟨r, hr, rfl⟩ := List.mem_map.1 ((hR.mem q).2 h1)
      refine ⟨r, List.mem_filter.2 ⟨hr, ?_⟩, rfl⟩
      have h3 := hm r hr
      have h4 : r.m ≠ 16 := by omega
      simpa using h4
theorem Alls.filter {base : Nat} {w w' : World} {R : List BestR} {a a' : Option Addr} {c c' : Nat} {ob : Option Nat} (h : Alls base w.heap R a c ob) (p : BestR → Bool) (hO : Ownd w'.heap 49 4 a' (R.filter p).length c' ((R.filter p).flatMap BestR.cells) ob) (hF : Fr (fun k => ob = some k) w w') : Alls base w'.heap (R.filter p) a' c' ob :=
  ⟨hO, h.new, fun x hx => by
    obtain ⟨o, h1, h2⟩ := h.row x (List.mem_filter.1 hx).1
    exact ⟨o, h1.fr hF (fun g hg e => (h2 g hg).2 e), h2⟩, h.pw.sublist List.filter_sublist⟩
set_option maxRecDepth 100000 in
set_option maxHeartbeats 2000000 in
theorem dtab_any {base : Nat} {D : DC} {now : Int} {l : List Td} {bad : Int} (w : World) (hD : Dmn w base D now l bad) :
    Calls Try.prog 6 #[.pointer (some ⟨D.bd, 0, none⟩)] w (RetDTab w D l) := by
  have H := Lib.hid hD
  go_enter Try.func6, Try.ntmps6
  go_wp2_with (fail)
  refine (dall_any w hD).mono ?_
  rintro e1 w1 ⟨R, aR, cR, ob, rfl, hA, hR, hF⟩
  have hle := hR.len
  have HR := Lib.hid hR
  have HA := Lib.hid hA
  obtain ⟨n, hn⟩ : ∃ n, n = R.length := ⟨_, rfl⟩
  have hO : Ownd w1.heap 49 4 aR n cR (R.flatMap BestR.cells) ob := by rw [hn]; exact hA.own
  rw [← hn] at hle
  rw [show (Value.slice aR R.length cR) = .slice aR n cR by rw [hn]]
  have HN := Lib.hid hn.symm
  clear hD hR hA hn
  go_wp2_with (fail)
  refine (dbest_del R (fun x => x.m == 16) aR cR ob w1 hO HN.out (by omega) (fun x _ w' _ => table1_any x w')).mono ?_
  rintro e2 w2 ⟨a2, c2, m2, rfl, hm2, hO2, hF2⟩
  subst hm2
  have HT := Lib.hid (tabR_of H.out HR.out)
  have HA2 := Lib.hid (HA.out.filter (fun x => !(x.m == 16)) hO2 hF2)
  have hFe : Fr (fun _ => False) w w2 := hF.trans' hF2 (fun q hq e => by have := HA.out.new q e; omega)
  generalize (R.filter fun x => !(x.m == 16)) = S at *
  clear hO2 hF2 hO
  go_wp2
  go_ret
  exact ⟨S, a2, c2, ob, rfl, HA2.out, HT.out, hFe⟩
end Go.Proofs.Ytgfbkebbnfcgkaa
end
