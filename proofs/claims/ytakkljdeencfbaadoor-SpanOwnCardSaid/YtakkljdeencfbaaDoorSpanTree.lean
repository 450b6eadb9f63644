import Derived.Test.YtakkljdeencfbaaDoorSpan6
import Derived.Test.YtakkljdeencfbaaDoorDelTree
namespace Go.Proofs.YtakkljdeencfbaaDoor
open Go.RowKit

/-- Is it used by none of both? -/
def offT (U : List Int) (x : Lk) : Bool := decide (nth U x.a.toNat ≠ x.b) && decide (nth U x.b.toNat ≠ x.a)
set_option maxRecDepth 100000 in
set_option maxHeartbeats 1000000 in
theorem tree1_any (U : List Int) (a : Option Addr) (k c : Nat) (ob : Option Nat) (b6 : Nat) (x : Lk) (w : World) (hO : Own w.heap 3 1 a k c (ivals .i64 U) ob) (hU : U.length = k) (h6 : b6 < w.heap.size) (hb6 : w.cell? ⟨b6, 0, none⟩ = some (.slice a k c)) (ha : 0 ≤ x.a ∧ x.a < k) (hb : 0 ≤ x.b ∧ x.b < k) :
    Calls Tryd.prog 36 #[.agg #[.int .i64 x.a, .int .i64 x.b, .int .i64 x.c], .pointer (some ⟨b6, 0, none⟩)] w (RetV w (.bool (offT U x))) := by
  obtain ⟨xa, xb, xc⟩ := x
  simp only at ha hb
  obtain ⟨p, rfl⟩ := Int.eq_ofNat_of_zero_le (show 0 ≤ xa by omega)
  obtain ⟨q, rfl⟩ := Int.eq_ofNat_of_zero_le (show 0 ≤ xb by omega)
  have hp : p < k := by omega
  have hq : q < k := by omega
  obtain ⟨g, rfl, -, hgl, hgc, -⟩ := hO.pos (by omega)
  have c1 := (hgc p (by omega)).trans (show (ivals .i64 U)[p]? = some (.int .i64 (nth U p)) by simp [ivals, nth_eq U p (by omega), show p < U.length by omega])
  have c2 := (hgc q (by omega)).trans (show (ivals .i64 U)[q]? = some (.int .i64 (nth U q)) by simp [ivals, nth_eq U q (by omega), show q < U.length by omega])
  have hoff : offT U ⟨p, q, xc⟩ = ((nth U p != (q : Int)) && (nth U q != (p : Int))) := by
    unfold offT
    simp only [Int.toNat_natCast]
    cases h1 : (nth U p != (q : Int)) <;> cases h2 : (nth U q != (p : Int)) <;> simp_all
  rw [hoff]
  clear hgc hoff
  generalize nth U p = y at *
  generalize nth U q = z at *
  by_cases h1 : (y != (q : Int)) = true
  · have HN := Lib.hid h1
    go_enter Tryd.func36, Tryd.ntmps36
    go_wp2
    go_quiet (fail)
    go_wp2
    go_ret
    exact RetV.mk (show Value.bool (z != (p : Int)) = _ from by rw [h1]; rfl) rfl (((Fr.refl _ _).alloc _).drewN _)
  · have h1 : (y != (q : Int)) = false := by simpa using h1
    go_enter Tryd.func36, Tryd.ntmps36
    go_wp2
    go_quiet (fail)
    go_wp2
    go_ret
    exact RetV.mk (show Value.bool false = _ from by rw [h1]; rfl) rfl (((Fr.refl _ _).alloc _).drewN _)

/-- The links of a tree. -/
def treeL (l : List Lk) (bs : List Bl) : List Lk := l.filter fun x => !(offT (bs.map Bl.u) x)
def RetTr (w : World) (n : Int) (l : List Lk) (r : Option Int) (e : Ending) (w' : World) : Prop :=
  match r with
  | some k => RetV w (.tuple #[.slice none 0 0, errv k]) e w'
  | none => ∃ a c ob bs, e = .returned (.tuple #[.slice a (treeL l bs).length c, .nilIface]) ∧ Own w'.heap 32 3 a (treeL l bs).length c ((treeL l bs).flatMap Lk.cells) ob ∧ Fr (fun _ => False) w w' ∧ (∀ g, ob = some g → w.heap.size ≤ g) ∧ FinT l n.toNat bs
theorem RetUp.errE {w w' : World} {n : Int} {l : List Lk} {r : Option Int} {k : Int} {e : Ending} (h : RetUp w n l r e w') (hr : r = some k) : RetV w (.tuple #[.slice none 0 0, errv k]) e w' := by subst hr; exact h
theorem RetUp.okE {w w' : World} {n : Nat} {l : List Lk} {r : Option Int} {e : Ending} (h : RetUp w (n : Int) l r e w') (hr : r = none) : ∃ a c ob bs, e = .returned (.tuple #[.slice a n c, .nilIface]) ∧ Own w'.heap 3 1 a n c (ivals .i64 (bs.map Bl.u)) ob ∧ Fr (fun _ => False) w w' ∧ (∀ g, ob = some g → w.heap.size ≤ g) ∧ BsOk n bs ∧ FinT l n bs := by subst hr; exact h
theorem RetTr.err {w w' : World} {n : Int} {l : List Lk} {r : Option Int} {k : Int} {e : Ending} (h : r = some k) (he : e = .returned (.tuple #[.slice none 0 0, errv k])) (hF : Fr (fun _ => False) w w') : RetTr w n l r e w' := by subst h; exact ⟨he, hF⟩
theorem RetTr.errE {w w' : World} {n : Int} {l : List Lk} {r : Option Int} {k : Int} {e : Ending} (h : RetTr w n l r e w') (hr : r = some k) : RetV w (.tuple #[.slice none 0 0, errv k]) e w' := by subst hr; exact h
theorem RetTr.okE {w w' : World} {n : Int} {l : List Lk} {r : Option Int} {e : Ending} (h : RetTr w n l r e w') (hr : r = none) : ∃ a c ob bs, e = .returned (.tuple #[.slice a (treeL l bs).length c, .nilIface]) ∧ Own w'.heap 32 3 a (treeL l bs).length c ((treeL l bs).flatMap Lk.cells) ob ∧ Fr (fun _ => False) w w' ∧ (∀ g, ob = some g → w.heap.size ≤ g) ∧ FinT l n.toNat bs := by subst hr; exact h
set_option maxRecDepth 100000 in
set_option maxHeartbeats 2000000 in
theorem tree_any (n : Int) (l : List Lk) (a : Option Addr) (c : Nat) (w : World) (hL : Links w.heap a l) (hl : l.length * 24 ≤ 140737488351232) (hw : ∀ x ∈ l, (Lit.int .i64 x.a).wf = true ∧ (Lit.int .i64 x.b).wf = true ∧ (Lit.int .i64 x.c).wf = true) (hnil : a = none → l = []) :
    Calls Tryd.prog 20 #[.int .i64 n, .slice a l.length c] w (RetTr w n l (graphErr n l)) := by
  obtain ⟨GE, hGE⟩ : ∃ GE, GE = graphErr n l := ⟨_, rfl⟩
  rw [← hGE]
  have HGE := Lib.hid hGE
  clear hGE
  go_enter Tryd.func20, Tryd.ntmps20
  go_wp2_with (fail)
  refine (sups_any n l a c _ hL (by omega) hw).mono ?_
  intro e1 w1 R1
  cases hg : graphErr n l with
  | some k =>
    have hX := Lib.hid (show GE = some k from HGE.out.trans hg)
    obtain ⟨rfl, hF1⟩ := R1.errE hg
    clear hg R1
    go_wp2
    go_ret2
    exact RetTr.err hX.out rfl (hF1.alloc _)
  | none =>
    have hX := Lib.hid (show GE = none from HGE.out.trans hg)
    obtain ⟨hn, hok, -⟩ := graph_ok hg
    obtain ⟨N, rfl⟩ : ∃ N : Nat, n = N := ⟨n.toNat, by omega⟩
    obtain ⟨a1, c1, ob1, bs, rfl, hO1, hF1, hN1, hbs, hfin⟩ := R1.okE hg
    have HFIN := Lib.hid hfin
    have HOK := Lib.hid hok
    have hUl : (bs.map Bl.u).length = N := by simp [hbs.len]
    clear hg R1 hw HGE hfin hok hn
    go_wp2_with (fail)
    have hFa := hF1.alloc (.cells #[.slice a1 N c1] 30)
    have hba : (w1.alloc (.cells #[.slice a1 N c1] 30)).cell? ⟨w1.heap.size, 0, none⟩ = some (.slice a1 N c1) := by simp
    refine (dtree_clone l a c _ (hL.fr hFa (fun _ _ _ h => h)) rfl hl hnil).mono ?_
    rintro e2 w2 ⟨a2, c2, ob2, rfl, hO2, hF2, hN2⟩
    have hO12 := (hO1.alloc (.cells #[.slice a1 N c1] 30)).fr hF2 (fun _ _ h => h)
    have hb2 := (hF2.cell (p := ⟨w1.heap.size, 0, none⟩) (by simp) (fun h => h)).trans hba
    have hbl : w1.heap.size < w2.heap.size := Nat.lt_of_lt_of_le (show w1.heap.size < (w1.alloc (.cells #[.slice a1 N c1] 30)).heap.size by simp) hF2.size
    have hlt1 := hO1.lt
    go_wp2_with (fail)
    refine (dtree_del l (offT (bs.map Bl.u)) a2 c2 ob2 w1.heap.size _ hO2 rfl (by omega) (fun x hx w' hF => ?_)).mono ?_
    · have hx1 := (HOK.out x hx).1
      unfold Lk.bad at hx1
      have hsz : (w1.alloc (.cells #[.slice a1 N c1] 30)).heap.size = w1.heap.size + 1 := by simp
      refine tree1_any (bs.map Bl.u) a1 N c1 ob1 w1.heap.size x w' (hO12.fr hF (fun g h h' => ?_)) hUl (Nat.lt_of_lt_of_le hbl hF.size) ((hF.cell (p := ⟨w1.heap.size, 0, none⟩) hbl (fun h => ?_)).trans hb2) (by omega) (by omega)
      · have := hlt1 g h; have := hN2 g h'; omega
      · have h3 : (w1.alloc (.cells #[.slice a1 N c1] 30)).heap.size ≤ w1.heap.size := hN2 _ h
        omega
    · rintro e3 w3 ⟨a3, c3, m, rfl, hm, hO3, hF3⟩
      subst hm
      have hF03 : Fr (fun _ => False) w w3 := (hFa.trans hF2).trans' hF3 (fun i hi h => by
        have := hN2 i h
        have h2 : w.heap.size ≤ w1.heap.size := hF1.size
        have h1 : (w1.alloc (.cells #[.slice a1 N c1] 30)).heap.size = w1.heap.size + 1 := by simp
        omega)
      have hN3 : ∀ g, ob2 = some g → w.heap.size ≤ g := fun g h => by
        have := hN2 g h
        have h2 : w.heap.size ≤ w1.heap.size := hF1.size
        have h1 : (w1.alloc (.cells #[.slice a1 N c1] 30)).heap.size = w1.heap.size + 1 := by simp
        omega
      go_wp2
      go_ret2
      rw [hX.out]
      exact ⟨a3, c3, ob2, bs, rfl, hO3, hF03, hN3, by rw [Int.toNat_natCast]; exact HFIN.out⟩
end Go.Proofs.YtakkljdeencfbaaDoor
