import Derived.Test.YtakkljdeencfbaaDoorCostsOf
import Derived.Test.YtakkljdeencfbaaDoorRowsSame
import Derived.Test.YtakkljdeencfbaaDoorLinkSame
import Derived.Test.YtakkljdeencfbaaDoorTold
namespace Go.Proofs.YtakkljdeencfbaaDoor
open Go.RowKit

/-- The table, empty where something is wrong. -/
def tabL (n : Int) (l : List Lk) : List (List Int) :=
  match graphErr n l with
  | none => costsM n.toNat l
  | some _ => []
theorem RetMat.got {w w' : World} {n : Int} {l : List Lk} {e : Ending} (h : RetMat w (costsE n l) e w') : ∃ a c ob G C, e = .returned (.tuple #[.slice a (tabL n l).length c, errO (graphErr n l)]) ∧ OMat w'.heap w.heap.size 30 3 a c ob (tabL n l) G C ∧ Fr (fun _ => False) w w' := by
  unfold costsE at h
  unfold tabL
  cases hg : graphErr n l with
  | some k =>
    rw [hg] at h
    obtain ⟨rfl, hF⟩ := h
    exact ⟨none, 0, none, fun _ => 0, fun _ => 0, rfl, OMat.nil _ _ _ _ _ _, hF⟩
  | none =>
    rw [hg] at h
    obtain ⟨a, c, ob, G, C, rfl, hM, hF⟩ := h
    exact ⟨a, c, ob, G, C, rfl, hM, hF⟩

set_option maxRecDepth 100000 in
set_option maxHeartbeats 4000000 in
theorem graphOwn_any (n : Int) (l : List Lk) (al : Option Addr) (c : Nat) (p q x : Int) (w : World) (hg : Hd w) (hL : Links w.heap al l) (hl : l.length * 24 ≤ 140737488351232) (hw : ∀ x ∈ l, (Lit.int .i64 x.a).wf = true ∧ (Lit.int .i64 x.b).wf = true ∧ (Lit.int .i64 x.c).wf = true) (hnil : al = none → l = []) :
    Calls Tryd.prog 3 #[.int .i64 n, .slice al l.length c, .int .i64 p, .int .i64 q, .int .i64 x] w (RetV w (.bool true)) := by
  have HNIL := Lib.hid hnil
  clear hnil
  go_enter Tryd.func3, Tryd.ntmps3
  go_wp2_with (at_builtin; refine wpList_app rfl _ _ 22 rfl Tryd.underlying22 infoLk rfl (by decide) rfl rfl (Own.made w 32 3 0 [] rfl (by decide)) (hL.fr (S := fun _ => False) ((Fr.refl _ _).alloc _) (fun _ _ _ h => h)) (lk_one l) (by omega) (by omega) ?_)
  intro a1 c1 w1 ob1 hO1 hF1 hN1
  have hF01 : Fr (fun _ => False) w w1 := ((Fr.refl _ _).alloc _).trans' hF1 (fun i hi h => by omega)
  clear hN1 hF1
  have hLo : Links w1.heap a1 l := hO1.rd
  have hn1 : a1 = none → l = [] := fun h => by
    rcases Nat.eq_zero_or_pos l.length with h0 | h0
    · exact List.length_eq_zero_iff.1 h0
    · obtain ⟨g, h1, -⟩ := hO1.pos (by omega)
      rw [h] at h1
      cases h1
  go_wp2_with (fail)
  refine (costs_any n l a1 c1 _ hLo (by omega) hw).mono ?_
  intro e2 w2 R2
  obtain ⟨a2, c2, ob2, G2, C2, rfl, hM2, hF2⟩ := R2.got
  obtain ⟨rs0, hrs⟩ : ∃ rs, rs = tabL n l := ⟨_, rfl⟩
  rw [← hrs] at hM2 ⊢
  obtain ⟨M, hMl⟩ : ∃ M, M = rs0.length := ⟨_, rfl⟩
  rw [← hMl]
  have hm8 : M ≤ 8 := by
    rw [hMl, hrs]
    unfold tabL
    split
    · rename_i h
      obtain ⟨h1, h2, -⟩ := graph_ok h
      obtain ⟨N, rfl⟩ : ∃ N : Nat, n = N := ⟨n.toNat, by omega⟩
      have h3 := (fold_ctab l _ (one_ctab N) h2).sq.len
      rw [Int.toNat_natCast]
      unfold costsM
      omega
    · simp
  have HML := Lib.hid hMl
  clear R2 hrs hMl
  go_wp2_with (fail)
  refine (cut_any n l a1 c1 p q _ (hLo.fr0 hF2 (fun _ _ h => h)) hl hw hn1).mono ?_
  rintro e3 w3 ⟨a3, c3, ob3, xs, rfl, hO3, hF3, hN3⟩
  have hml := cutLen_le (n := n) (l := l) (a := p) (b := q)
  obtain ⟨m, hm⟩ : ∃ m, m = cutLen n l p q := ⟨_, rfl⟩
  rw [← hm] at hO3 hml ⊢
  have HM := Lib.hid hm
  have hM3 := hM2.fr hF3 (fun _ _ _ h => h)
  clear hn1 hm
  go_wp2_with (fail)
  refine (costs_any 1 [] none 0 _ (Rd.nil _ _ _) (by decide) (by simp)).mono ?_
  intro e4 w4 R4
  obtain ⟨a4, c4, ob4, G4, C4, rfl, -, hF4⟩ := R4.get (n := 1) rfl rfl
  have hM4 := hM3.fr hF4 (fun _ _ _ h => h)
  have hO4 := hO3.fr hF4 (fun _ _ h => h)
  have hF14 := (hF2.trans hF3).trans hF4
  have hG : ∀ i, i < M → G2 i < w2.heap.size := fun i hi => (hM2.row i (by rw [← HML.out]; exact hi)).lt _ rfl
  have hob2 : ∀ g, ob2 = some g → g < w2.heap.size := fun g h => hM2.top.lt g h
  have HGL := Lib.hid hG
  have hs12 := hF2.size
  clear R4 hM3 hO3 hM2 hG
  go_wp2
  go_loopw [18] (fun s18 wr => ∃ (i : Nat) (rs : List (List Int)), s18 = .int .i64 i ∧ i ≤ M ∧ Hid (rs.length = M) ∧ Hid (∀ j, (nth rs j).length = (nth rs0 j).length) ∧ OMat wr.heap w1.heap.size 30 3 a2 c2 ob2 rs G2 C2 ∧ Fr (fun k => w1.heap.size ≤ k ∧ k < w2.heap.size) w4 wr) (fun s _ => M - (intOf s).toNat)
  case atStart => exact ⟨0, rs0, rfl, by omega, HML.out.symm, Lib.hid (fun _ => rfl), hM4, Fr.refl _ _⟩
  case round =>
    clear hM4
    obtain ⟨i, rs, rfl, hi, hrl, hrr, hM, hF⟩ := hrel
    by_cases him : i < M
    · obtain ⟨L, hLe⟩ : ∃ L, L = (nth rs0 i).length := ⟨_, rfl⟩
      have hLL : (nth rs i).length = L := by rw [hrr.out i, hLe]
      have hL9 : L ≤ 9223372036854775807 := by
        have h1 := (hM.row i (by rw [hrl.out]; exact him)).le
        rw [hLL] at h1
        exact h1
      have HLE := Lib.hid hLe
      have HLL := Lib.hid hLL
      clear hLe hLL
      go_wp2
      go_loopw [19] (fun s19 wr => ∃ (k : Nat) (rs : List (List Int)), s19 = .int .i64 k ∧ k ≤ L ∧ Hid (rs.length = M) ∧ Hid (∀ j, (nth rs j).length = (nth rs0 j).length) ∧ OMat wr.heap w1.heap.size 30 3 a2 c2 ob2 rs G2 C2 ∧ Fr (fun k => w1.heap.size ≤ k ∧ k < w2.heap.size) w4 wr) (fun s _ => L - (intOf s).toNat)
      case atStart => exact ⟨0, rs, rfl, by omega, hrl, hrr, hM, hF⟩
      case round =>
        clear hM hF hrl hrr HLL
        obtain ⟨k, rs, rfl, hk, hrl, hrr, hM, hF⟩ := hrel
        have hir : i < rs.length := by rw [hrl.out]; exact him
        obtain ⟨gt, rfl, rfl, hgt, hct, -⟩ := hM.top.pos (by omega)
        have d0 := hct i (by omega)
        simp only [List.getElem?_map, List.getElem?_range hir, Option.map_some] at d0
        have hro := hM.row i hir
        have hri : (nth rs i).length = L := by rw [hrr.out i, HLE.out]
        rw [hri] at d0 hro
        have hGi := HGL.out i him
        have hGb := hM.gn i hir
        have hrlM := hrl.out
        by_cases hkl : k < L
        · obtain ⟨_, h4, -, hgl, hc, hfz⟩ := hro.pos (by omega)
          cases h4
          have d1 := (hc k (by omega)).trans (ivals_get .i64 (nth rs i) k (by omega))
          have f1 := hfz k
          have hset := OMat.set hM i k x hir
          have hF' : Fr (fun k => w1.heap.size ≤ k ∧ k < w2.heap.size) w4 (wr.setCell ⟨G2 i, k, none⟩ (.int .i64 x)) := hF.setCell (fun _ => ⟨hGb, hGi⟩) _
          have hset' : Hid (OMat (wr.setCell ⟨G2 i, k, none⟩ (.int .i64 x)).heap w1.heap.size 30 3 (some ⟨gt, 0, none⟩) c2 (some gt) (rs.set i ((nth rs i).set k x)) G2 C2) := hset
          have hrl' : Hid ((rs.set i ((nth rs i).set k x)).length = M) := Lib.hid (by rw [List.length_set, hrl.out])
          have hrr' : Hid (∀ j, (nth (rs.set i ((nth rs i).set k x)) j).length = (nth rs0 j).length) := Lib.hid (fun j => by
            rw [nth_set rs i j _ hir]
            split
            · rename_i h; rw [List.length_set, hrr.out, h]
            · exact hrr.out j)
          rw [hrlM] at *
          clear hct hc hfz hset hro hM
          go_wp2
          go_roundw
          case rel => exact ⟨k + 1, _, by go_num, by omega, hrl', hrr', hset'.out, hF'⟩
          case measure => simp [intOf]; omega
        · obtain rfl : k = L := by omega
          have HMM := Lib.hid hM
          rw [hrlM] at *
          clear hct hro hM
          go_wp2
          go_roundw
          case rel => exact ⟨i + 1, rs, by go_num, by omega, hrl, hrr, HMM.out, hF⟩
          case measure => simp [intOf]; omega
    · obtain rfl : i = M := by omega
      have hs23 := hF3.size
      have hs34 := hF4.size
      have hOr := hO4.fr hF (fun g h h' => by have := hN3 g h; omega)
      have hF1y : Fr (fun _ => False) w1 wr := hF14.trans' hF (fun k hk h => by omega)
      have hs1r := hF1y.size
      clear hM hO4 hF
      go_wp2
      go_loopw [20] (fun s20 wx => ∃ (k : Nat) (ys : List Value), s20 = .int .i64 k ∧ k ≤ m ∧ Own wx.heap 32 3 a3 m c3 ys ob3 ∧ Fr (fun k => ob3 = some k) wr wx) (fun s _ => m - (intOf s).toNat)
      case atStart => exact ⟨0, xs, rfl, by omega, hOr, Fr.refl _ _⟩
      case round =>
        clear hOr
        obtain ⟨k, ys, rfl, hk, hO, hFx⟩ := hrel
        by_cases hkm : k < m
        · obtain ⟨g, rfl, rfl, hgl, hgc, hgf⟩ := hO.pos (by omega)
          have hyl := hO.len
          have d := (hgc (k * 3 + 2) (by omega)).trans (List.getElem?_eq_getElem (show k * 3 + 2 < ys.length by omega))
          have f := hgf (k * 3 + 2)
          generalize ys[k * 3 + 2]'(by omega) = y at d
          have hset := hO.set rfl (k * 3 + 2) (.int .i64 x)
          have hFz := hFx.setCell (p := ⟨g, k * 3 + 2, none⟩) (fun _ => rfl) (.int .i64 x)
          clear hgc hgf
          go_wp2
          go_roundw
          case rel => exact ⟨k + 1, _, by go_num, by omega, hset, hFz⟩
          case measure => simp [intOf]; omega
        · obtain rfl : k = m := by omega
          have hFw := hF1y.trans' hFx (fun k hk h => by have := hN3 k h; omega)
          have hF0w := hF01.trans hFw
          clear hFx hO hF1y
          have HNX := HNIL.out
          go_wp2_with (fail)
          refine (slinks_any l l a1 al c1 c _ (hLo.fr0 hFw (fun _ _ h => h)) (hL.fr0 hF0w (fun _ _ h => h)) (by omega) (by omega) rfl rfl).mono ?_
          rintro e7 w7 ⟨rfl, n7, rfl⟩
          have hF07 := hF0w.drewN n7
          have hdl : decide (l = l) = true := by simp
          rw [hdl]
          clear hdl
          go_wp2_with (fail)
          refine (costs_any n l al c _ (hL.fr0 hF07 (fun _ _ h => h)) (by omega) hw).mono ?_
          intro e8 w8 R8
          obtain ⟨a8, c8, ob8, G8, C8, rfl, hM8, hF8⟩ := R8.got
          have hF08 := hF07.trans hF8
          clear R8
          go_wp2_with (fail)
          refine (cut_any n l al c p q _ (hL.fr0 hF08 (fun _ _ h => h)) hl hw HNX).mono ?_
          rintro e9 w9 ⟨a9, c9, ob9, xs9, rfl, -, hF9, -⟩
          rw [← HM.out]
          have hF09 := hF08.trans hF9
          have hM9 := hM8.fr hF9 (fun _ _ _ h => h)
          clear HNX hM8
          go_wp2_with (fail)
          refine (told2_any (graphErr n l) (graphErr n l) _ (hg.none hF09)).mono ?_
          rintro e10 w10 ⟨rfl, hF10⟩
          have hdg : (errN (graphErr n l) == errN (graphErr n l)) = true := by simp
          try rw [hdg]
          clear hdg
          have hF010 := hF09.trans hF10
          have hM10 := hM9.fr hF10 (fun _ _ _ h => h)
          clear hM9
          go_wp2_with (fail)
          refine (told2_any (cutErr n l p q) (cutErr n l p q) _ (hg.none hF010)).mono ?_
          rintro e11 w11 ⟨rfl, hF11⟩
          have hdg : (errN (cutErr n l p q) == errN (cutErr n l p q)) = true := by simp
          try rw [hdg]
          clear hdg
          have hF011 := hF010.trans hF11
          have hM11 := hM10.fr hF11 (fun _ _ _ h => h)
          clear hM10
          cases hge : graphErr n l with
          | some e =>
            rw [show errO (some e) = errv e from rfl]
            clear hge
            go_wp2
            go_ret
            exact RetV.mk rfl rfl hF011
          | none =>
            rw [show errO none = .nilIface from rfl]
            obtain ⟨hn, hok, -⟩ := graph_ok hge
            obtain ⟨N, rfl⟩ : ∃ N : Nat, n = N := ⟨n.toNat, by omega⟩
            have hT : tabL N l = costsM N l := by unfold tabL; rw [hge]; rfl
            have hTl : (costsM N l).length = N := (fold_ctab l _ (one_ctab N) hok).sq.len
            rw [hT] at hM11 ⊢
            rw [hTl]
            have HGE := Lib.hid hge
            have HTL := Lib.hid hTl
            have HM11 := Lib.hid hM11
            have hN8 : N ≤ 8 := by omega
            clear hge hok hn hT hTl hM11
            go_wp2_with (fail)
            refine (costsOf_any N l al c _ (hL.fr0 hF011 (fun _ _ h => h)) HGE.out).mono ?_
            rintro e12 w12 ⟨a12, c12, ob12, G12, C12, rfl, hM12, hF12⟩
            have hS := srows_any (costsM N l) (costsM N l) a8 a12 c8 c12 _ _ _ _ w12 (HM11.out.fr hF12 (fun _ _ _ h => h)).mat hM12.mat (by rw [HTL.out]; omega) (by rw [HTL.out]; omega)
            rw [HTL.out, decide_eq_true rfl] at hS
            have HS := Lib.hid hS
            clear hS hM12
            go_wp2_with (fail)
            refine HS.out.mono ?_
            rintro e13 w13 ⟨rfl, n13, rfl⟩
            have hF013 := (hF011.trans hF12).drewN n13
            clear HS
            go_wp2
            go_ret
            exact RetV.mk rfl rfl hF013
end Go.Proofs.YtakkljdeencfbaaDoor
