import Derived.Test.YtakkljdeencfbaaDoorEqInts
import Derived.Test.YtakkljdeencfbaaDoorGOk
import Derived.Test.YtakkljdeencfbaaDoorOwn1
namespace Go.Proofs.YtakkljdeencfbaaDoor
open Go.RowKit

/-- A list and an error. -/
def RetIs (w : World) (n : Nat) (r : Except Int (List Int)) (e : Ending) (w' : World) : Prop :=
  match r with
  | .error k => RetV w (.tuple #[.slice none 0 0, errv k]) e w'
  | .ok out => RetNew w 3 1 n (ivals .i64 out) (fun v => .tuple #[v, .nilIface]) e w'
theorem RetIs.err {w w' : World} {n : Nat} {r : Except Int (List Int)} {k : Int} {e : Ending} (h : r = .error k) (he : e = .returned (.tuple #[.slice none 0 0, errv k])) (hF : Fr (fun _ => False) w w') : RetIs w n r e w' := by subst h; exact ⟨he, hF⟩
theorem RetIs.ok {w w' : World} {n : Nat} {r : Except Int (List Int)} {out : List Int} {a : Option Addr} {c : Nat} {ob : Option Nat} {e : Ending} (h : r = .ok out) (he : e = .returned (.tuple #[.slice a n c, .nilIface])) (hO : Own w'.heap 3 1 a n c (ivals .i64 out) ob) (hF : Fr (fun _ => False) w w') (hN : ∀ g, ob = some g → w.heap.size ≤ g) : RetIs w n r e w' := by
  subst h; exact ⟨a, c, ob, he, hO, hF, hN⟩

/-- What nodes think at first. -/
def startL (n to : Nat) : List Int := (List.replicate n (16 : Int)).set to 0
theorem startL_len (n to : Nat) : (startL n to).length = n := by simp [startL]
def startE (n to : Int) : Except Int (List Int) := if n < 1 ∨ 8 < n ∨ to < 0 ∨ n ≤ to then .error 1 else .ok (startL n.toNat to.toNat)

set_option maxRecDepth 100000 in
set_option maxHeartbeats 1000000 in
theorem start_any (n to : Int) (w : World) : Calls Tryd.prog 33 #[.int .i64 n, .int .i64 to] w (RetIs w n.toNat (startE n to)) := by
  go_enter Tryd.func33, Tryd.ntmps33
  by_cases hb : n < 1 ∨ 8 < n ∨ to < 0 ∨ n ≤ to
  · have hX := Lib.hid (show startE n to = .error 1 from if_pos hb)
    go_wp2
    all_goals go_ret2
    all_goals exact RetIs.err hX.out rfl (Fr.refl _ _)
  · have hX := Lib.hid (show startE n to = .ok _ from if_neg hb)
    obtain ⟨N, rfl⟩ : ∃ N : Nat, n = N := ⟨n.toNat, by omega⟩
    obtain ⟨T, rfl⟩ : ∃ T : Nat, to = T := ⟨to.toNat, by omega⟩
    have h1 : 1 ≤ N := by omega
    have h8 : N ≤ 8 := by omega
    have hT : T < N := by omega
    clear hb
    have hlit := (Own.made w 3 1 1 [.int .i64 16] rfl (by decide)).rd
    go_wp2_with (go_at_call 27; refine (repeat_int 16 _ 1 N _ hlit (by omega) (by omega)).mono ?_)
    intro e2 w2 R2
    obtain ⟨a1, c1, ob1, rfl, hO1, hF2, hN1⟩ := R2
    have hFw : Fr (fun _ => False) w w2 := ((Fr.refl _ _).alloc _).trans hF2
    obtain ⟨g, rfl, rfl, hg, hc, hfz⟩ := hO1.pos (by omega)
    have hgn : w.heap.size ≤ g := by have := hN1 g rfl; simp at this; omega
    have hci := (hc T (by omega)).trans (ivals_get .i64 (List.replicate N (16 : Int)) T (by simpa using hT))
    have hfi := hfz T
    have hO2 := hO1.set rfl T (.int .i64 0)
    have e : (ivals .i64 (List.replicate N (16 : Int))).set T (.int .i64 0) = ivals .i64 (startL N T) := by simp [ivals, startL, List.map_set]
    rw [e] at hO2
    clear hc hfz hO1 e hlit
    go_wp2
    go_ret2
    refine RetIs.ok hX.out rfl hO2 (hFw.setCell (fun h => by simp only at h; omega) _) ?_
    intro g' hg'
    cases hg'
    exact hgn

/-- One link told, on both sides. -/
def imn (a b : Int) : Int := if a ≤ b then a else b
def bellF (d : List Int) (o : List Int) (x : Lk) : List Int :=
  (o.set x.a.toNat (imn (nth o x.a.toNat) (x.c + nth d x.b.toNat))).set x.b.toNat (imn (nth o x.b.toNat) (x.c + nth d x.a.toNat))
theorem bellF_len (d : List Int) (o : List Int) (x : Lk) : (bellF d o x).length = o.length := by simp [bellF]
theorem bells_len (d : List Int) : ∀ (l : List Lk) (o : List Int), (l.foldl (bellF d) o).length = o.length
  | [], _ => rfl
  | x :: l, o => by rw [List.foldl_cons, bells_len d l, bellF_len]
def badD (x : Int) : Prop := x < 0 ∨ 16 < x
instance (x : Int) : Decidable (badD x) := by unfold badD; infer_instance
def roundE (n : Int) (l : List Lk) (to : Int) (d : List Int) : Except Int (List Int) :=
  match graphErr n l with
  | some k => .error k
  | none => if n < 1 ∨ 8 < n ∨ to < 0 ∨ n ≤ to then .error 1 else if (d.length : Int) ≠ n then .error 3 else if ∃ x ∈ d, badD x then .error 1 else .ok (l.foldl (bellF d) (startL n.toNat to.toNat))
/-- Nothing is below 0 or above 16. -/
def InB (o : List Int) : Prop := ∀ i, i < o.length → 0 ≤ nth o i ∧ nth o i ≤ 16
theorem InB.f {d o : List Int} {x : Lk} (h : InB o) (hd : ∀ i, i < d.length → 0 ≤ nth d i) (ha : x.a.toNat < d.length) (hb : x.b.toNat < d.length) (hc : 0 ≤ x.c) : InB (bellF d o x) := by
  intro i hi
  have hi' : i < o.length := by rw [bellF_len] at hi; exact hi
  have h1 := hd _ ha
  have h2 := hd _ hb
  have h3 := h i hi'
  have key : ∀ (o : List Int) (j : Nat) (v y : Int), i < o.length → 0 ≤ nth o i → nth o i ≤ 16 → 0 ≤ y → (j = i → v ≤ 16 ∧ 0 ≤ v) → 0 ≤ nth (o.set j (imn v y)) i ∧ nth (o.set j (imn v y)) i ≤ 16 := by
    intro o j v y hio h0 h16 hy hv
    by_cases hj : j < o.length
    · rw [nth_set o j i _ hj]
      split
      · rename_i e
        have := hv e.symm
        unfold imn
        split <;> omega
      · exact ⟨h0, h16⟩
    · rw [List.set_eq_of_length_le (by omega)]; exact ⟨h0, h16⟩
  have hA := key o x.a.toNat (nth o x.a.toNat) (x.c + nth d x.b.toNat) hi' h3.1 h3.2 (by omega) (fun e => by rw [e]; exact ⟨h3.2, h3.1⟩)
  exact key _ x.b.toNat (nth o x.b.toNat) (x.c + nth d x.a.toNat) (by simpa using hi') hA.1 hA.2 (by omega) (fun e => by rw [e]; exact ⟨h3.2, h3.1⟩)
theorem InB.fold {d : List Int} (hd : ∀ i, i < d.length → 0 ≤ nth d i) : ∀ (l : List Lk) (o : List Int), InB o → (∀ x ∈ l, x.a.toNat < d.length ∧ x.b.toNat < d.length ∧ 0 ≤ x.c) → InB (l.foldl (bellF d) o)
  | [], _, h, _ => h
  | x :: l, o, h, hx => by
    rw [List.foldl_cons]
    have h1 := hx x (by simp)
    exact InB.fold hd l _ (h.f hd h1.1 h1.2.1 h1.2.2) (fun y hy => hx y (by simp [hy]))
theorem InB.start (n to : Nat) : InB (startL n to) := by
  intro i hi
  rw [startL_len] at hi
  by_cases ht : to < n
  · rw [startL, nth_set _ _ _ _ (by simpa using ht)]
    split
    · omega
    · rw [nth_replicate _ _ _ hi]; omega
  · rw [startL, List.set_eq_of_length_le (by simp; omega), nth_replicate _ _ _ hi]; omega
end Go.Proofs.YtakkljdeencfbaaDoor
