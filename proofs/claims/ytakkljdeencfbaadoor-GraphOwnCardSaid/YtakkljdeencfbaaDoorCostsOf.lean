import Derived.Test.YtakkljdeencfbaaDoorSpfLaw
import Derived.Test.YtakkljdeencfbaaDoorCutW
import Derived.Test.YtakkljdeencfbaaDoorSpan3
namespace Go.Proofs.YtakkljdeencfbaaDoor
open Go.RowKit

/-- The cost between two: as the answer finds it. -/
def costOf (l : List Lk) (a b : Int) : Int := if a = b then 0 else
  match l.find? (cutP a b) with
  | some x => x.c
  | none => 16
theorem fold_find {n : Nat} {p q : Nat} (hpq : p ≠ q) : ∀ (l : List Lk) (rs : List (List Int)), Sq n rs → (∀ x ∈ l, (x.a.toNat < n ∧ x.b.toNat < n) ∧ 0 ≤ x.a ∧ 0 ≤ x.b) → (l.map fun x => (Lk.lo x, Lk.hi x)).Nodup →
    at2 (l.foldl putL rs) p q = match l.find? (cutP p q) with
      | some x => x.c
      | none => at2 rs p q
  | [], _, _, _, _ => rfl
  | y :: l, rs, h, hl, hd => by
    rw [List.map_cons, List.nodup_cons] at hd
    have hy := hl y (by simp)
    rw [List.foldl_cons, fold_find hpq l _ (putL_sq h y hy.1.1 hy.1.2) (fun x hx => hl x (by simp [hx])) hd.2, List.find?_cons]
    have hat := putL_at h y hy.1.1 hy.1.2 p q
    by_cases hc : cutP p q y = true
    · rw [hc]
      have hc' : (y.a = p ∧ y.b = q) ∨ (y.a = q ∧ y.b = p) := by simpa [cutP] using hc
      have hno : l.find? (cutP p q) = none := List.find?_eq_none.2 (fun z hz hcz => hd.1 (List.mem_map.2 ⟨z, hz, by
        have hz' : (z.a = p ∧ z.b = q) ∨ (z.a = q ∧ z.b = p) := by simpa [cutP] using hcz
        simp only [Lk.lo, Lk.hi, Prod.mk.injEq]
        rcases hc' with ⟨c1, c2⟩ | ⟨c1, c2⟩ <;> rcases hz' with ⟨z1, z2⟩ | ⟨z1, z2⟩ <;> rw [c1, c2, z1, z2] <;> constructor <;> split <;> (try split) <;> omega⟩))
      rw [hno]
      simp only
      rw [hat]
      rcases hc' with ⟨c1, c2⟩ | ⟨c1, c2⟩
      · rw [if_neg (by omega), if_pos (by omega)]
      · rw [if_pos (by omega)]
    · have hc' : ¬ ((y.a = p ∧ y.b = q) ∨ (y.a = q ∧ y.b = p)) := by simpa [cutP] using hc
      have hcf : cutP p q y = false := by simpa using hc
      rw [hcf, hat, if_neg (by omega), if_neg (by omega)]
theorem costOf_eq {N : Nat} {l : List Lk} (h : graphErr N l = none) {i k : Nat} (hi : i < N) (hk : k < N) : costOf l i k = at2 (costsM N l) i k := by
  obtain ⟨hn, hok, -⟩ := graph_ok h
  have hd : (l.map fun x => (Lk.lo x, Lk.hi x)).Nodup := by
    unfold graphErr at h
    split at h
    · cases h
    · exact (lk_nodup _ [] h).1
  have hb : ∀ y ∈ l, (y.a.toNat < N ∧ y.b.toNat < N) ∧ 0 ≤ y.a ∧ 0 ≤ y.b := fun y hy => by
    obtain ⟨h1, h2⟩ := hok y hy
    unfold Lk.bad at h1
    omega
  unfold costOf
  by_cases hik : i = k
  · subst hik
    rw [if_pos rfl]
    exact ((fold_ctab l _ (one_ctab N) hok).dia i hi).symm
  · rw [if_neg (by omega)]
    unfold costsM
    rw [fold_find hik l _ (one_sq N) hb hd, one_at hi hk, if_neg (fun e => hik e.symm)]

set_option maxRecDepth 100000 in
set_option maxHeartbeats 2000000 in
theorem costOf_any (l : List Lk) (al : Option Addr) (c : Nat) (a b : Int) (w : World) (hL : Links w.heap al l) (hl : l.length ≤ 9223372036854775806) :
    Calls Tryd.prog 32 #[.slice al l.length c, .int .i64 a, .int .i64 b] w (RetV w (.int .i64 (costOf l a b))) := by
  go_enter Tryd.func32, Tryd.ntmps32
  by_cases hab : a = b
  · have hX : Hid (costOf l a b = 0) := (if_pos hab : costOf l a b = 0)
    have h1 : (a == b) = true := by simp [hab]
    clear hab
    go_wp2
    go_ret
    exact ⟨by rw [hX.out]; rfl, Fr.refl _ _⟩
  · have hX : Hid (costOf l a b = match l.find? (cutP a b) with | some x => x.c | none => 16) := (if_neg hab)
    have h1 : (a == b) = false := by simp [hab]
    clear hab
    go_wp2
    go_loopw [7] (fun s7 wr => ∃ k n : Nat, s7 = .int .i64 k ∧ k ≤ l.length ∧ wr = w.drewN n ∧ Hid ((l.take k).find? (cutP a b) = none)) (fun s _ => l.length - (intOf s).toNat)
    case atStart => exact ⟨0, 0, rfl, by omega, rfl, rfl⟩
    case round =>
      obtain ⟨k, n, rfl, hk, rfl, hf⟩ := hrel
      by_cases hkl : k < l.length
      · obtain ⟨g, off, rfl, hbb, hc⟩ := Recs.pos hL Lk.cells_len (by omega) (by omega)
        have d0 := hc (w.drewN n) rfl k 0 hkl (by omega)
        have d1 := hc (w.drewN n) rfl k 1 hkl (by omega)
        have d2 := hc (w.drewN n) rfl k 2 hkl (by omega)
        have htk := take_succ_nth l k hkl
        obtain ⟨x, hx⟩ : ∃ x, x = nth l k := ⟨_, rfl⟩
        rw [← hx] at d0 d1 d2 htk
        have hfk : cutP a b x = true → l.find? (cutP a b) = some x := fun hc => by
          rw [← List.take_append_drop (k + 1) l, htk, List.find?_append, List.find?_append, hf.out]
          simp [hc]
        have hfn : cutP a b x = false → (l.take (k + 1)).find? (cutP a b) = none := fun hc => by
          rw [htk, List.find?_append, hf.out]
          simp [hc]
        obtain ⟨xa, xb, xc⟩ := x
        simp only [Lk.cells, List.getElem?_cons_zero, List.getElem?_cons_succ, ← Nat.add_assoc, Nat.add_zero] at d0 d1 d2
        have HK := Lib.hid hfk
        have HN := Lib.hid hfn
        have q : ((xa == a) = true ∧ (xb == b) = true) ∨ ((xa == a) = true ∧ (xb == b) = false ∧ (xa == b) = true ∧ (xb == a) = true) ∨ ((xa == a) = true ∧ (xb == b) = false ∧ (xa == b) = true ∧ (xb == a) = false) ∨ ((xa == a) = true ∧ (xb == b) = false ∧ (xa == b) = false) ∨ ((xa == a) = false ∧ (xa == b) = true ∧ (xb == a) = true) ∨ ((xa == a) = false ∧ (xa == b) = true ∧ (xb == a) = false) ∨ ((xa == a) = false ∧ (xa == b) = false) := by
          cases (xa == a) <;> cases (xb == b) <;> cases (xa == b) <;> cases (xb == a) <;> simp
        have hcc : cutP a b ⟨xa, xb, xc⟩ = (((xa == a) && (xb == b)) || ((xa == b) && (xb == a))) := rfl
        have HC := Lib.hid hcc
        clear hc htk hx hfk hfn hcc
        rcases q with ⟨e1, e2⟩ | ⟨e1, e2, e3, e4⟩ | ⟨e1, e2, e3, e4⟩ | ⟨e1, e2, e3⟩ | ⟨e1, e3, e4⟩ | ⟨e1, e3, e4⟩ | ⟨e1, e3⟩
        all_goals
          go_wp2
          first
          | (go_roundw
             case rel => exact ⟨k + 1, n, by go_num, by omega, rfl, HN.out (by rw [HC.out]; simp [*])⟩
             case measure => simp [intOf]; omega)
          | (go_ret
             exact ⟨by rw [hX.out, HK.out (by rw [HC.out]; simp [*])]; rfl, (Fr.refl _ _).drewN _⟩)
      · obtain rfl : k = l.length := by omega
        have hX2 : Hid (costOf l a b = 16) := by
          have := hf.out
          rw [List.take_length] at this
          exact hX.out.trans (by rw [this])
        go_wp2
        go_ret
        exact ⟨by rw [hX2.out]; rfl, (Fr.refl _ _).drewN _⟩

def rowV (r : List Int) (k : Nat) : List Value := ivals .i64 (r.take k)
def RetTab (w : World) (N : Nat) (rs : List (List Int)) (e : Ending) (w' : World) : Prop := ∃ a c ob G C, e = .returned (.slice a N c) ∧ OMat w'.heap w.heap.size 30 3 a c ob rs G C ∧ Fr (fun _ => False) w w'
set_option maxRecDepth 100000 in
set_option maxHeartbeats 2000000 in
theorem costsOf_any (N : Nat) (l : List Lk) (al : Option Addr) (c : Nat) (w : World) (hL : Links w.heap al l) (hg : graphErr N l = none) :
    Calls Tryd.prog 13 #[.int .i64 N, .slice al l.length c] w (RetTab w N (costsM N l)) := by
  obtain ⟨hn, hok, hll⟩ := graph_ok hg
  have hN8 : 1 ≤ N ∧ N ≤ 8 := by omega
  have hsq : Sq N (costsM N l) := (fold_ctab l _ (one_ctab N) hok).sq
  have hat : ∀ i k, i < N → k < N → costOf l i k = nth (nth (costsM N l) i) k := fun i k hi hk => costOf_eq hg hi hk
  obtain ⟨R, hR⟩ : ∃ R, R = costsM N l := ⟨_, rfl⟩
  rw [← hR] at hsq hat ⊢
  have HAT := Lib.hid hat
  have hRl := hsq.len
  have HROW := Lib.hid hsq.rows
  clear hok hg hn hR hat
  go_enter Tryd.func13, Tryd.ntmps13
  go_wp2
  go_loopw [6, 5] (fun s6 s5 wr => ∃ (i : Nat) (a : Option Addr) (c : Nat) (ob : Option Nat) (G C : Nat → Nat), i ≤ N ∧ s6 = .int .i64 i ∧ s5 = .slice a i c ∧ OMat wr.heap w.heap.size 30 3 a c ob (R.take i) G C ∧ Fr (fun _ => False) w wr) (fun s _ _ => N - (intOf s).toNat)
  case atStart => exact ⟨0, none, 0, none, fun _ => 0, fun _ => 0, by omega, rfl, rfl, OMat.nil _ _ _ _ _ _, Fr.refl _ _⟩
  case round =>
    obtain ⟨i, ao, co, ob, G, C, hi, rfl, rfl, hM, hF⟩ := hrel
    by_cases hlt : i < N
    · have hsw := hF.size
      have HM := Lib.hid hM
      clear hM
      go_wp2
      go_loopw [8, 7] (fun s8 s7 wx => ∃ (k : Nat) (a1 : Option Addr) (c1 : Nat) (ob1 : Option Nat), k ≤ N ∧ s8 = .int .i64 k ∧ s7 = .slice a1 k c1 ∧ Own wx.heap 3 1 a1 k c1 (rowV (nth R i) k) ob1 ∧ Fr (fun _ => False) wr wx ∧ (∀ g, ob1 = some g → wr.heap.size ≤ g)) (fun s _ _ => N - (intOf s).toNat)
      case atStart => exact ⟨0, none, 0, none, by omega, rfl, rfl, Own.nil _ _ _, Fr.refl _ _, (fun g h => nomatch h)⟩
      case round =>
        obtain ⟨k, a1, c1, ob1, hk, rfl, rfl, hO1, hF1, hN1⟩ := hrel
        by_cases hkl : k < N
        · go_wp2_with (fail)
          refine (costOf_any l al c i k _ (hL.fr0 (hF.trans hF1) (fun _ _ h => h)) (by omega)).mono ?_
          rintro e2 w2 ⟨rfl, hF2⟩
          have hO2 := hO1.fr hF2 (fun _ _ h => h)
          have htk : rowV (nth R i) (k + 1) = rowV (nth R i) k ++ [.int .i64 (costOf l i k)] := by
            unfold rowV
            rw [take_succ_nth _ k (by rw [HROW.out i hlt]; exact hkl), HAT.out i k hlt hkl]
            simp [ivals]
          have HT := Lib.hid htk
          have hrd := rd_lit w2 3 [.int .i64 (costOf l i k)]
          clear htk
          go_wp2_with (at_builtin; refine wpList_app rfl _ _ 30 rfl Tryd.underlying30 infoInt rfl (by decide) rfl rfl (hO2.alloc _) hrd (by simp [Value.oneCell']) (by omega) (by omega) ?_)
          intro a' c' w6 ob' z1 z2 z3
          have hF6 := Fr.app ((hF1.trans hF2).alloc _) z2 hN1
          have hN6 := app_new hN1 z3 (by have := (hF1.trans hF2).size; simp; omega)
          have z4 : Own w6.heap 3 1 a' (k + 1) c' (rowV (nth R i) (k + 1)) ob' := by rw [HT.out]; exact z1
          clear z1 z2 z3 hrd hO1 hO2
          go_wp2
          go_roundw
          case rel => exact ⟨k + 1, a', c', ob', by omega, by go_num, rfl, z4, hF6, hN6⟩
          case measure => simp [intOf]; omega
        · obtain rfl : k = N := by omega
          rw [show rowV (nth R i) k = ivals .i64 (nth R i) by unfold rowV; rw [List.take_of_length_le (by rw [HROW.out i hlt]; omega)]] at hO1
          obtain ⟨g, rfl, rfl, hgl, -, -⟩ := hO1.pos (by omega)
          have hgn := hN1 g rfl
          have hFw := hF.trans hF1
          have hM := HM.out
          have hlen : (R.take i).length = i := by simp; omega
          have hob : ob ≠ some g := fun h => by have := (hM.top.lt g h); omega
          have hGg : ∀ j, j < i → G j ≠ g := fun j hj h => by have := (hM.row j (by rw [hlen]; exact hj)).lt _ rfl; omega
          have hM4 := hM.fr hF1 (fun _ _ _ h => h)
          have htop := (hM4.alloc (.cells #[.slice (some ⟨g, 0, none⟩) k c1] 30)).top
          rw [hlen] at htop
          have hrd := (Own.made wr 30 1 1 [.slice (some ⟨g, 0, none⟩) k c1] rfl (by decide)).rd
          have hrl : (nth R i).length = k := HROW.out i hlt
          rw [← hrl] at hO1
          have HO1 := Lib.hid hO1
          have HM4 := Lib.hid hM4
          clear hM hM4 hO1
          go_wp2_with (at_builtin; refine wpList_app rfl _ _ 23 rfl Tryd.underlying23 infoInts rfl (by decide) rfl rfl htop hrd (by simp [Value.oneCell']) (by omega) (by omega) ?_)
          intro a' c' w6 ob' z1 z2 z3
          go_wp2
          have hP := OMat.push (r := nth R i) (cr := c1) (HM4.out.alloc (.cells #[.slice (some ⟨g, 0, none⟩) k c1] 30)) (HO1.out.alloc _) (by omega) hob (fun q hq => hGg q (by rw [hlen] at hq; exact hq)) (by have := (hFw.alloc (.cells #[.slice (some ⟨g, 0, none⟩) k c1] 30)).size; exact this) (by rw [hlen, hrl]) (by rw [hlen]; exact z1) z2 (by simpa using z3)
          have hF6 := Fr.app (hFw.alloc _) z2 (fun q hq => (HM4.out.obn q hq).1)
          rw [← take_succ_nth R i (by omega)] at hP
          clear htop hrd z1 z2 z3
          go_roundw
          case rel => exact ⟨i + 1, a', c', ob', _, _, by omega, by go_num, rfl, hP, hF6⟩
          case measure => simp [intOf]; omega
    · obtain rfl : i = N := by omega
      rw [List.take_of_length_le (by omega)] at hM
      go_wp2
      go_ret
      exact ⟨ao, co, ob, G, C, rfl, hM, hF⟩
end Go.Proofs.YtakkljdeencfbaaDoor
