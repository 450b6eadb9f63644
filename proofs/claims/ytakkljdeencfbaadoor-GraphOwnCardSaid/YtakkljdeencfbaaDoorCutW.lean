import Derived.Test.YtakkljdeencfbaaDoorDelCut
import Derived.Test.YtakkljdeencfbaaDoorGOk
import Derived.Test.YtakkljdeencfbaaDoorLkInfo
namespace Go.Proofs.YtakkljdeencfbaaDoor
open Go.RowKit

/-- Is it the link from a to b? -/
def cutP (a b : Int) (x : Lk) : Bool := ((x.a == a) && (x.b == b)) || ((x.a == b) && (x.b == a))
set_option maxRecDepth 100000 in
set_option maxHeartbeats 1000000 in
theorem cut1_any (a b : Int) (b6 b7 : Nat) (x : Lk) (w : World) (h6 : b6 < w.heap.size) (h7 : b7 < w.heap.size) (d6 : w.cell? ⟨b6, 0, none⟩ = some (.int .i64 a)) (d7 : w.cell? ⟨b7, 0, none⟩ = some (.int .i64 b)) :
    Calls Tryd.prog 30 #[.agg #[.int .i64 x.a, .int .i64 x.b, .int .i64 x.c], .pointer (some ⟨b6, 0, none⟩), .pointer (some ⟨b7, 0, none⟩)] w (RetV w (.bool (cutP a b x))) := by
  obtain ⟨xa, xb, xc⟩ := x
  have q : ((xa == a) = true ∧ (xb == b) = true) ∨ ((xa == a) = true ∧ (xb == b) = false ∧ (xa == b) = true ∧ (xb == a) = true) ∨ ((xa == a) = true ∧ (xb == b) = false ∧ (xa == b) = true ∧ (xb == a) = false) ∨ ((xa == a) = true ∧ (xb == b) = false ∧ (xa == b) = false) ∨ ((xa == a) = false ∧ (xa == b) = true ∧ (xb == a) = true) ∨ ((xa == a) = false ∧ (xa == b) = true ∧ (xb == a) = false) ∨ ((xa == a) = false ∧ (xa == b) = false) := by
    cases (xa == a) <;> cases (xb == b) <;> cases (xa == b) <;> cases (xb == a) <;> simp
  have hc : cutP a b ⟨xa, xb, xc⟩ = (((xa == a) && (xb == b)) || ((xa == b) && (xb == a))) := rfl
  rw [hc]
  clear hc
  rcases q with ⟨e1, e2⟩ | ⟨e1, e2, e3, e4⟩ | ⟨e1, e2, e3, e4⟩ | ⟨e1, e2, e3⟩ | ⟨e1, e3, e4⟩ | ⟨e1, e3, e4⟩ | ⟨e1, e3⟩
  all_goals
    go_enter Tryd.func30, Tryd.ntmps30
    go_wp2
    go_ret
    exact ⟨by simp [*], (Fr.refl _ _).alloc _⟩

/-- What is wrong, and how many are left. -/
def cutErr (n : Int) (l : List Lk) (a b : Int) : Option Int :=
  match graphErr n l with
  | some k => some k
  | none => if (l.filter fun x => !cutP a b x).length = l.length then some 2 else none
def cutLen (n : Int) (l : List Lk) (a b : Int) : Nat :=
  match cutErr n l a b with
  | some _ => 0
  | none => (l.filter fun x => !cutP a b x).length
def RetCut (w : World) (er : Option Int) (m : Nat) (e : Ending) (w' : World) : Prop :=
  ∃ a c ob xs, e = .returned (.tuple #[.slice a m c, errO er]) ∧ Own w'.heap 32 3 a m c xs ob ∧ Fr (fun _ => False) w w' ∧ (∀ g, ob = some g → w.heap.size ≤ g)
theorem cutLen_le {n : Int} {l : List Lk} {a b : Int} : cutLen n l a b ≤ l.length := by
  unfold cutLen
  split
  · omega
  · exact List.length_filter_le _ _
set_option maxRecDepth 100000 in
set_option maxHeartbeats 2000000 in
theorem cut_any (n : Int) (l : List Lk) (a : Option Addr) (c : Nat) (p q : Int) (w : World) (hL : Links w.heap a l) (hl : l.length * 24 ≤ 140737488351232) (hw : ∀ x ∈ l, (Lit.int .i64 x.a).wf = true ∧ (Lit.int .i64 x.b).wf = true ∧ (Lit.int .i64 x.c).wf = true) (hnil : a = none → l = []) :
    Calls Tryd.prog 9 #[.int .i64 n, .slice a l.length c, .int .i64 p, .int .i64 q] w (RetCut w (cutErr n l p q) (cutLen n l p q)) := by
  obtain ⟨E, hE⟩ : ∃ E, E = cutErr n l p q := ⟨_, rfl⟩
  obtain ⟨M, hM⟩ : ∃ M, M = cutLen n l p q := ⟨_, rfl⟩
  rw [← hE, ← hM]
  have HE := Lib.hid hE
  have HM := Lib.hid hM
  clear hE hM
  go_enter Tryd.func9, Tryd.ntmps9
  go_wp2_with (fail)
  have hF2 := ((Fr.refl (fun _ => False) w).alloc (.cells #[.int .i64 p] 3)).alloc (.cells #[.int .i64 q] 3)
  refine (gcheck_any n l a c _ (hL.fr hF2 (fun _ _ _ h => h)) (by omega) hw).mono ?_
  rintro e1 w1 ⟨rfl, hF1⟩
  have d6 := (hF1.cell (p := ⟨w.heap.size, 0, none⟩) (by simp; omega) (fun h => h)).trans (show _ = some (Value.int .i64 p) by simp)
  have d7 := (hF1.cell (p := ⟨w.heap.size + 1, 0, none⟩) (by simp) (fun h => h)).trans (show _ = some (Value.int .i64 q) by simp)
  have hs1 : w.heap.size + 2 ≤ w1.heap.size := Nat.le_trans (by simp) hF1.size
  have hF01 := hF2.trans hF1
  clear hF1 hF2
  cases hg : graphErr n l with
  | some k =>
    have hX : cutErr n l p q = some k := by unfold cutErr; rw [hg]
    have hX2 : cutLen n l p q = 0 := by unfold cutLen; rw [hX]
    have H1 := Lib.hid (HE.out.trans hX)
    have H2 := Lib.hid (HM.out.trans hX2)
    clear hg hX hX2
    rw [show errO (some k) = errv k from rfl]
    go_wp2
    go_ret2
    rw [H1.out, H2.out]
    exact ⟨none, 0, none, [], rfl, Own.nil _ _ _, hF01, fun g h => nomatch h⟩
  | none =>
    rw [show errO none = .nilIface from rfl]
    have HG := Lib.hid hg
    clear hg
    go_wp2_with (fail)
    refine (dcut_clone l a c _ (hL.fr hF01 (fun _ _ _ h => h)) rfl hl hnil).mono ?_
    rintro e2 w2 ⟨a2, c2, ob2, rfl, hO2, hF2, hN2⟩
    have hs2 := hF2.size
    have g6 := (hF2.cell (p := ⟨w.heap.size, 0, none⟩) (by show w.heap.size < _; omega) (fun h => h)).trans d6
    have g7 := (hF2.cell (p := ⟨w.heap.size + 1, 0, none⟩) (by show w.heap.size + 1 < _; omega) (fun h => h)).trans d7
    go_wp2_with (fail)
    refine (dcut_del l (cutP p q) a2 c2 ob2 w.heap.size (w.heap.size + 1) _ hO2 rfl (by omega) (fun x hx w' hF => ?_)).mono ?_
    · have hs3 := hF.size
      refine cut1_any p q _ _ x w' (by omega) (by omega) ((hF.cell (p := ⟨w.heap.size, 0, none⟩) (by show w.heap.size < _; omega) (fun h => ?_)).trans g6) ((hF.cell (p := ⟨w.heap.size + 1, 0, none⟩) (by show w.heap.size + 1 < _; omega) (fun h => ?_)).trans g7)
      · have h3 : w1.heap.size ≤ w.heap.size := hN2 _ h
        omega
      · have h3 : w1.heap.size ≤ w.heap.size + 1 := hN2 _ h
        omega
    · rintro e3 w3 ⟨a3, c3, m, rfl, hm, hO3, hF3⟩
      have hF03 : Fr (fun _ => False) w w3 := (hF01.trans hF2).trans' hF3 (fun i hi h => by have := hN2 i h; omega)
      have hN3 : ∀ g, ob2 = some g → w.heap.size ≤ g := fun g h => by have := hN2 g h; omega
      by_cases hml : m = l.length
      · have hX : cutErr n l p q = some 2 := by unfold cutErr; rw [HG.out]; exact if_pos (by rw [← hm]; exact hml)
        have hX2 : cutLen n l p q = 0 := by unfold cutLen; rw [hX]
        have H1 := Lib.hid (HE.out.trans hX)
        have H2 := Lib.hid (HM.out.trans hX2)
        have hb : ((m : Int) == (l.length : Int)) = true := by simp [hml]
        clear hX hX2 hml hm hO3
        go_wp2
        go_ret2
        rw [H1.out, H2.out]
        exact ⟨none, 0, none, [], rfl, Own.nil _ _ _, hF03, fun g h => nomatch h⟩
      · have hX : cutErr n l p q = none := by unfold cutErr; rw [HG.out]; exact if_neg (by rw [← hm]; exact hml)
        have hX2 : cutLen n l p q = m := by unfold cutLen; rw [hX]; exact hm.symm
        have H1 := Lib.hid (HE.out.trans hX)
        have H2 := Lib.hid (HM.out.trans hX2)
        have hb : ((m : Int) == (l.length : Int)) = false := by simp; omega
        have HO := Lib.hid hO3
        clear hX hX2 hml hm hO3
        go_wp2
        go_ret2
        rw [H1.out, H2.out]
        exact ⟨a3, c3, ob2, _, rfl, HO.out, hF03, hN3⟩
end Go.Proofs.YtakkljdeencfbaaDoor
