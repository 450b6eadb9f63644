import Derived.Test.YtakkljdeencfbaaDoorSpanTree
import Derived.Test.YtakkljdeencfbaaDoorLinkSame
import Derived.Test.YtakkljdeencfbaaDoorTold
import Derived.Test.YtakkljdeencfbaaDoorOne
namespace Go.Proofs.YtakkljdeencfbaaDoor
open Go.RowKit

/-- How many links a tree has. -/
def TreeLen (n : Int) (l : List Lk) (m : Nat) : Prop := (graphErr n l = none ∧ ∃ bs, FinT l n.toNat bs ∧ m = (treeL l bs).length) ∨ (graphErr n l ≠ none ∧ m = 0)
theorem TreeLen.eq {n : Int} {l : List Lk} {m k : Nat} (h : TreeLen n l m) (h' : TreeLen n l k) : m = k := by
  rcases h with ⟨h0, bs, h1, rfl⟩ | ⟨h0, rfl⟩
  · rcases h' with ⟨-, cs, h2, rfl⟩ | ⟨h2, -⟩
    · rw [h1.eq h2]
    · exact absurd h0 h2
  · rcases h' with ⟨h2, -⟩ | ⟨-, rfl⟩
    · exact absurd h2 h0
    · rfl
theorem RetTr.got {w w' : World} {n : Int} {l : List Lk} {e : Ending} (h : RetTr w n l (graphErr n l) e w') : ∃ a m c ob xs, e = .returned (.tuple #[.slice a m c, errO (graphErr n l)]) ∧ Own w'.heap 32 3 a m c xs ob ∧ Fr (fun _ => False) w w' ∧ (∀ g, ob = some g → w.heap.size ≤ g) ∧ TreeLen n l m ∧ m ≤ l.length := by
  cases hg : graphErr n l with
  | some k =>
    obtain ⟨rfl, hF⟩ := h.errE hg
    exact ⟨none, 0, 0, none, [], rfl, Own.nil _ _ _, hF, (fun g h => nomatch h), .inr ⟨by rw [hg]; simp, rfl⟩, by omega⟩
  | none =>
    obtain ⟨a, c, ob, bs, rfl, hO, hF, hN, hf⟩ := h.okE hg
    exact ⟨a, _, c, ob, _, rfl, hO, hF, hN, .inl ⟨hg, bs, hf, rfl⟩, List.length_filter_le _ _⟩

set_option maxRecDepth 100000 in
set_option maxHeartbeats 4000000 in
theorem spanOwn_any (n : Int) (l : List Lk) (al : Option Addr) (c : Nat) (x : Int) (w : World) (hg : Hd w) (hL : Links w.heap al l) (hl : l.length * 24 ≤ 140737488351232) (hw : ∀ x ∈ l, (Lit.int .i64 x.a).wf = true ∧ (Lit.int .i64 x.b).wf = true ∧ (Lit.int .i64 x.c).wf = true) (hnil : al = none → l = []) :
    Calls Tryd.prog 5 #[.int .i64 n, .slice al l.length c, .int .i64 x] w (RetV w (.bool true)) := by
  have HNIL := Lib.hid hnil
  clear hnil
  go_enter Tryd.func5, Tryd.ntmps5
  go_wp2_with (at_builtin; refine wpList_app rfl _ _ 22 rfl Tryd.underlying22 infoLk rfl (by decide) rfl rfl (Own.made w 32 3 0 [] rfl (by decide)) (hL.fr (S := fun _ => False) ((Fr.refl _ _).alloc _) (fun _ _ _ h => h)) (lk_one l) (by omega) (by omega) ?_)
  intro a1 c1 w1 ob1 hO1 hF1 hN1
  have hF01 : Fr (fun _ => False) w w1 := ((Fr.refl _ _).alloc _).trans' hF1 (fun i hi h => by omega)
  clear hN1 hF1
  have hLo : Links w1.heap a1 l := hO1.rd
  have hn1 : a1 = none → l = [] := fun h => by
    rcases Nat.eq_zero_or_pos l.length with h0 | h0
    · exact List.length_eq_zero_iff.1 h0
    · obtain ⟨g, h1, -⟩ := hO1.pos (by omega)
      rw [h] at h1
      cases h1
  go_wp2_with (fail)
  refine (tree_any n l a1 c1 _ hLo hl hw hn1).mono ?_
  intro e2 w2 R2
  obtain ⟨a2, m, c2, ob2, xs, rfl, hO2, hF2, hN2, hT, hml⟩ := R2.got
  have HT := Lib.hid hT
  clear hn1 R2 hT
  go_wp2_with (fail)
  refine (one_any _).mono ?_
  rintro e4 w4 ⟨rfl, rfl⟩
  go_wp2_with (fail)
  refine (sups_any 2 oneL _ 1 _ (one_links w2) (by decide) one_wf).mono ?_
  intro e5 w5 R5
  obtain ⟨a5, c5, ob5, bs5, rfl, -, hF5, -⟩ := RetUp.okE (n := 2) R5 one_graph
  have hF25 := (((Fr.refl (fun _ => False) w2).alloc (.cells #[.int .i64 0, .int .i64 1, .int .i64 3] 32)).trans hF5)
  have hF15 := hF2.trans hF25
  have hO5 := hO2.fr hF25 (fun _ _ h => h)
  clear R5 hF5 hO2
  go_wp2_with (fail)
  refine (slinks_any l l a1 al c1 c _ (hLo.fr0 hF15 (fun _ _ h => h)) (hL.fr0 (hF01.trans hF15) (fun _ _ h => h)) (by omega) (by omega) rfl rfl).mono ?_
  rintro e6 w6 ⟨rfl, n6, rfl⟩
  have hF16 := hF15.drewN n6
  have hO6 := hO5.fr ((Fr.refl (fun _ => False) w5).drewN n6) (fun _ _ h => h)
  have hdl : decide (l = l) = true := by simp
  have hs1 := hF2.size
  have hcap := hO6.cap
  rw [hdl]
  clear hF15 hO5 hdl
  go_wp2
  go_loopw [13] (fun s13 wr => ∃ (i : Nat) (ys : List Value), s13 = .int .i64 i ∧ i ≤ m ∧ Own wr.heap 32 3 a2 m c2 ys ob2 ∧ Fr (fun k => ob2 = some k) (w5.drewN n6) wr) (fun s _ => m - (intOf s).toNat)
  case atStart => exact ⟨0, xs, rfl, by omega, hO6, Fr.refl _ _⟩
  case round =>
    clear hO6
    obtain ⟨i, ys, rfl, hi, hO, hF⟩ := hrel
    by_cases him : i < m
    · obtain ⟨g, rfl, rfl, hgl, hgc, hgf⟩ := hO.pos (by omega)
      have hyl := hO.len
      have d := (hgc (i * 3 + 2) (by omega)).trans (List.getElem?_eq_getElem (show i * 3 + 2 < ys.length by omega))
      have f := hgf (i * 3 + 2)
      generalize ys[i * 3 + 2]'(by omega) = y at d
      have hset := hO.set rfl (i * 3 + 2) (.int .i64 x)
      have hFz := hF.setCell (p := ⟨g, i * 3 + 2, none⟩) (fun _ => rfl) (.int .i64 x)
      clear hgc hgf
      go_wp2
      go_roundw
      case rel => exact ⟨i + 1, _, by go_num, by omega, hset, hFz⟩
      case measure => simp [intOf]; omega
    · obtain rfl : i = m := by omega
      have hF1r : Fr (fun _ => False) w1 wr := hF16.trans' hF (fun k hk h => by have := hN2 k h; omega)
      have hF0r := hF01.trans hF1r
      have HNX := HNIL.out
      clear hF hO
      go_wp2_with (fail)
      refine (slinks_any l l a1 al c1 c _ (hLo.fr0 hF1r (fun _ _ h => h)) (hL.fr0 hF0r (fun _ _ h => h)) (by omega) (by omega) rfl rfl).mono ?_
      rintro e7 w7 ⟨rfl, n7, rfl⟩
      have hF07 := hF0r.drewN n7
      have hdl : decide (l = l) = true := by simp
      rw [hdl]
      clear hdl
      go_wp2_with (fail)
      refine (tree_any n l al c _ (hL.fr0 hF07 (fun _ _ h => h)) hl hw HNX).mono ?_
      intro e8 w8 R8
      obtain ⟨a8, m8, c8, ob8, xs8, rfl, -, hF8, -, hT8, -⟩ := R8.got
      obtain rfl := HT.out.eq hT8
      have hF08 := hF07.trans hF8
      clear HNX R8 hT8
      go_wp2_with (fail)
      refine (told2_any (graphErr n l) (graphErr n l) _ (hg.none hF08)).mono ?_
      rintro e9 w9 ⟨rfl, hF9⟩
      have hF09 := hF08.trans hF9
      have hdg : (errN (graphErr n l) == errN (graphErr n l)) = true := by simp
      try rw [hdg]
      clear hdg
      go_wp2
      go_ret
      exact RetV.mk rfl rfl hF09
end Go.Proofs.YtakkljdeencfbaaDoor
