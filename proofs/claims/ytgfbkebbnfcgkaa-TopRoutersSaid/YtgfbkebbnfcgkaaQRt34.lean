import Derived.Test.YtgfbkebbnfcgkaaQRt30
import Derived.Test.YtgfbkebbnfcgkaaQRt32
import Derived.Test.YtgfbkebbnfcgkaaQRt31
section
namespace Go.Proofs.Ytgfbkebbnfcgkaa
open Go.RowKit

/-- The neighbours among the first ones. -/
def nearP (C : Nat → Nat → Int) (i k : Nat) : List Int := ((List.range k).filter fun j => decide (0 < C i j ∧ C i j < 16)).map Int.ofNat
theorem nearP_yes {C : Nat → Nat → Int} {i k : Nat} (h : 0 < C i k ∧ C i k < 16) : nearP C i (k + 1) = nearP C i k ++ [(k : Int)] := by
  unfold nearP
  rw [List.range_succ, List.filter_append, List.map_append]
  congr 1
  simp [h]
theorem nearP_no {C : Nat → Nat → Int} {i k : Nat} (h : ¬ (0 < C i k ∧ C i k < 16)) : nearP C i (k + 1) = nearP C i k := by
  unfold nearP
  rw [List.range_succ, List.filter_append, List.map_append]
  simp [h]
theorem nearP_all (N : Nat) (C : Nat → Nat → Int) (i : Nat) : nearP C i N = (nearL N C i).map Int.ofNat := rfl
theorem nearP_len (C : Nat → Nat → Int) (i k : Nat) : (nearP C i k).length ≤ k := by
  unfold nearP
  rw [List.length_map]
  refine Nat.le_trans (List.length_filter_le _ _) (by simp)
set_option maxRecDepth 100000 in
set_option maxHeartbeats 4000000 in
theorem gnear_any (N : Nat) (l : List Lk) (a : Option Addr) (c i : Nat) (w : World) (hL : Links w.heap a l) (hl : l.length ≤ 9223372036854775807) (hw : ∀ x ∈ l, (Lit.int .i64 x.a).wf = true ∧ (Lit.int .i64 x.b).wf = true ∧ (Lit.int .i64 x.c).wf = true) (hg : graphErr N l = none) (hi : i < N) :
    Calls Try.prog 7 #[.int .i64 N, .slice a l.length c, .int .i64 i] w (RetNew w 3 1 (nearL N (costF N l) i).length (ivals .i64 ((nearL N (costF N l) i).map Int.ofNat)) (fun v => .tuple #[v, .nilIface])) := by
  have hcall := costs_any N l a c w hL hl hw
  obtain ⟨hE, hT, hN8⟩ : costsE N l = .ok (costsM N l) ∧ CTab N (costsM N l) ∧ N ≤ 8 := by
    rcases costsE_cases (N : Int) l with ⟨k, e, -⟩ | ⟨m, hm, -, h8, -, h, hct⟩
    · rw [hg] at e; cases e
    · obtain rfl : N = m := by omega
      exact ⟨h, hct, h8⟩
  rw [hE] at hcall
  clear hL hl hw hE hg
  go_enter Try.func7, Try.ntmps7
  go_wp2_with (fail)
  refine hcall.mono ?_
  intro e1 w1 R1
  obtain ⟨am, cm, obm, G, Cc, rfl, hM, hF1⟩ := R1
  have hln := hT.sq.len
  have hcell : ∀ k, k < N → w1.cell? ⟨G i, k, none⟩ = some (.int .i64 (costF N l i k)) := fun k hk => by
    obtain ⟨_, _, _, _, h2, _⟩ := OMat.cells hM hln hT.sq.rows i k hi hk
    exact h2
  obtain ⟨g, hga, -, hgl, hgc, -⟩ := hM.top.pos (by rw [hln]; omega)
  have d0 := hgc i (by rw [hln]; omega)
  rw [List.getElem?_map, List.getElem?_range (by rw [hln]; exact hi), Option.map_some, hT.sq.rows i hi] at d0
  have hgr := (hM.row i (by rw [hln]; exact hi)).lt _ rfl
  subst hga
  rw [hln]
  have HC := Lib.hid hcell
  have q1 : decide ((i : Int) < 0) = false := decide_eq_false (by omega)
  have q2 : decide (N ≤ i) = false := decide_eq_false (by omega)
  obtain ⟨Gi, hGi⟩ : ∃ Gi, Gi = G i := ⟨_, rfl⟩
  rw [← hGi] at hgr d0 HC
  clear hcell hM hgc hGi hT hln hcall
  go_wp2
  go_loopw [35, 10] (fun s35 s10 wr => ∃ (k m : Nat) (ao : Option Addr) (co : Nat) (ob : Option Nat), k ≤ N ∧ s35 = .int .i64 k ∧ s10 = .slice ao m co ∧ m ≤ k ∧ Hid (m = (nearP (costF N l) i k).length) ∧ Ownd wr.heap 3 1 ao m co (ivals .i64 (nearP (costF N l) i k)) ob ∧ (∀ g', ob = some g' → w1.heap.size ≤ g') ∧ Fr (fun _ => False) w1 wr) (fun s _ _ => N - (intOf s).toNat)
  case atStart => exact ⟨0, 0, none, 0, none, by omega, rfl, rfl, by omega, Lib.hid rfl, Ownd.nil _ _ _, (fun _ h => nomatch h), Fr.refl _ _⟩
  case round =>
    obtain ⟨k, m, ao, co, ob, hk, rfl, rfl, hmk, hm, hO, hN, hF⟩ := hrel
    by_cases hkn : k < N
    · have s1 : decide (k < N) = true := decide_eq_true hkn
      have e0 := (hF.cell (p := ⟨Gi, k, none⟩) hgr (fun h => h)).trans (HC.out k hkn)
      have hgr' := Nat.lt_of_lt_of_le hgr hF.size
      have HY := Lib.hid (fun (h : 0 < costF N l i k ∧ costF N l i k < 16) => nearP_yes h)
      have HX := Lib.hid (fun (h : ¬ (0 < costF N l i k ∧ costF N l i k < 16)) => nearP_no h)
      generalize hx : costF N l i k = x at e0 HY HX
      clear hx
      by_cases h0 : 0 < x ∧ x < 16
      · have s2 : decide (0 < x) = true := decide_eq_true h0.1
        have s3 : decide (x < 16) = true := decide_eq_true h0.2
        have HS := Lib.hid (HY.out h0)
        have hrd := rd_lit wr 3 [.int .i64 k]
        have hOb := hO.alloc (.cells #[.int .i64 k] 3)
        have hFb := hF.alloc (.cells #[.int .i64 k] 3)
        clear hO HY HX h0
        go_wp2_with (at_builtin; refine wpList_app rfl _ _ 31 rfl Try.underlying31 infoInt rfl (by decide) rfl rfl hOb hrd (by simp [Value.oneCell']) (by omega) (by omega) ?_)
        intro a9 c9 w9 ob9 v1 v2 v3
        have hF9 := Fr.app hFb v2 hN
        have hN9 : ∀ g', ob9 = some g' → w1.heap.size ≤ g' := app_new hN v3 (by have := hF.size; first | omega | (simp only [World.size_alloc]; omega))
        have HO9 := Lib.hid (show Ownd w9.heap 3 1 a9 (m + 1) c9 (ivals .i64 (nearP (costF N l) i (k + 1))) ob9 from by
          rw [HS.out]
          simpa [ivals] using v1)
        have HM9 := Lib.hid (show m + 1 = (nearP (costF N l) i (k + 1)).length by rw [HS.out, List.length_append, ← hm.out]; rfl)
        clear v1 v2 v3 hOb hrd hFb
        go_wp2
        go_roundw
        case rel => exact ⟨k + 1, m + 1, a9, c9, ob9, by omega, by go_num, rfl, by omega, HM9, HO9.out, hN9, hF9⟩
        case measure => simp [intOf]; omega
      · have q : decide (0 < x) = false ∨ (decide (0 < x) = true ∧ decide (x < 16) = false) := by
          simp only [decide_eq_true_eq, decide_eq_false_iff_not]
          omega
        have HS := Lib.hid (HX.out h0)
        clear HY HX h0
        rcases q with s2 | ⟨s2, s3⟩
        all_goals
          go_wp2
          go_roundw
          case rel => exact ⟨k + 1, m, ao, co, ob, by omega, by go_num, rfl, by omega, by rw [HS.out]; exact hm, by rw [HS.out]; exact hO, hN, hF⟩
          case measure => simp [intOf]; omega
    · obtain rfl : k = N := by omega
      have s1 : decide (k < k) = false := by simp
      rw [nearP_all] at hO
      have hm' := hm.out
      rw [nearP_all, List.length_map] at hm'
      have HMM := Lib.hid hm'
      have HO := Lib.hid hO
      have hF1w := hF1.trans hF
      have hs1 := hF1.size
      clear hO hm hm'
      go_wp2
      go_ret2
      exact ⟨ao, co, ob, by rw [← HMM.out]; rfl, by rw [← HMM.out]; exact HO.out, hF1w, fun g' hg' => by have := hN g' hg'; omega⟩
end Go.Proofs.Ytgfbkebbnfcgkaa
end

section
namespace Go.Proofs.Ytgfbkebbnfcgkaa
open Go.RowKit

/-- Is it the link between the two? -/
def cutP (a b : Int) (x : Lk) : Bool := ((x.a == a) && (x.b == b)) || ((x.a == b) && (x.b == a))
/-- The cost between two: as the answer finds it. -/
def costOf (l : List Lk) (a b : Int) : Int := if a = b then 0 else
  match l.find? (cutP a b) with
  | some x => x.c
  | none => 16
theorem fold_find {n : Nat} {p q : Nat} (hpq : p ≠ q) : ∀ (l : List Lk) (rs : List (List Int)), Sq n rs → (∀ x ∈ l, (x.a.toNat < n ∧ x.b.toNat < n) ∧ 0 ≤ x.a ∧ 0 ≤ x.b) → (l.map fun x => (Lk.lo x, Lk.hi x)).Nodup →
    at2 (l.foldl putL rs) p q = match l.find? (cutP p q) with
      | some x => x.c
      | none => at2 rs p q
  | [], _, _, _, _ => rfl
  | y :: l, rs, h, hl, hd => by
    rw [List.map_cons, List.nodup_cons] at hd
    have hy := hl y (by simp)
    rw [List.foldl_cons, fold_find hpq l _ (putL_sq h y hy.1.1 hy.1.2) (fun x hx => hl x (by simp [hx])) hd.2, List.find?_cons]
    have hat := putL_at h y hy.1.1 hy.1.2 p q
    by_cases hc : cutP p q y = true
    · rw [hc]
      have hc' : (y.a = p ∧ y.b = q) ∨ (y.a = q ∧ y.b = p) := by simpa [cutP] using hc
      have hno : l.find? (cutP p q) = none := List.find?_eq_none.2 (fun z hz hcz => hd.1 (List.mem_map.2 ⟨z, hz, by
        have hz' : (z.a = p ∧ z.b = q) ∨ (z.a = q ∧ z.b = p) := by simpa [cutP] using hcz
        simp only [Lk.lo, Lk.hi, Prod.mk.injEq]
        rcases hc' with ⟨c1, c2⟩ | ⟨c1, c2⟩ <;> rcases hz' with ⟨z1, z2⟩ | ⟨z1, z2⟩ <;> rw [c1, c2, z1, z2] <;> constructor <;> split <;> (try split) <;> omega⟩))
      rw [hno]
      simp only
      rw [hat]
      rcases hc' with ⟨c1, c2⟩ | ⟨c1, c2⟩
      · rw [if_neg (by omega), if_pos (by omega)]
      · rw [if_pos (by omega)]
    · have hc' : ¬ ((y.a = p ∧ y.b = q) ∨ (y.a = q ∧ y.b = p)) := by simpa [cutP] using hc
      have hcf : cutP p q y = false := by simpa using hc
      rw [hcf, hat, if_neg (by omega), if_neg (by omega)]
theorem costOf_eq {N : Nat} {l : List Lk} (h : graphErr N l = none) {i k : Nat} (hi : i < N) (hk : k < N) : costOf l i k = at2 (costsM N l) i k := by
  obtain ⟨hn, hok, -⟩ := graph_ok h
  have hd : (l.map fun x => (Lk.lo x, Lk.hi x)).Nodup := by
    unfold graphErr at h
    split at h
    · cases h
    · exact (lk_nodup _ [] h).1
  have hb : ∀ y ∈ l, (y.a.toNat < N ∧ y.b.toNat < N) ∧ 0 ≤ y.a ∧ 0 ≤ y.b := fun y hy => by
    obtain ⟨h1, h2⟩ := hok y hy
    unfold Lk.bad at h1
    omega
  unfold costOf
  by_cases hik : i = k
  · subst hik
    rw [if_pos rfl]
    exact ((fold_ctab l _ (one_ctab N) hok).dia i hi).symm
  · rw [if_neg (by omega)]
    unfold costsM
    rw [fold_find hik l _ (one_sq N) hb hd, one_at hi hk, if_neg (fun e => hik e.symm)]

set_option maxRecDepth 100000 in
set_option maxHeartbeats 2000000 in
theorem costOf_any (l : List Lk) (al : Option Addr) (c : Nat) (a b : Int) (w : World) (hL : Links w.heap al l) (hl : l.length ≤ 9223372036854775806) :
    Calls Try.prog 8 #[.slice al l.length c, .int .i64 a, .int .i64 b] w (RetV w (.int .i64 (costOf l a b))) := by
  go_enter Try.func8, Try.ntmps8
  by_cases hab : a = b
  · have hX : Hid (costOf l a b = 0) := (if_pos hab : costOf l a b = 0)
    have h1 : (a == b) = true := by simp [hab]
    clear hab
    go_wp2
    go_ret
    exact ⟨by rw [hX.out]; rfl, Fr.refl _ _⟩
  · have hX : Hid (costOf l a b = match l.find? (cutP a b) with | some x => x.c | none => 16) := (if_neg hab)
    have h1 : (a == b) = false := by simp [hab]
    clear hab
    go_wp2
    go_loopw [7] (fun s7 wr => ∃ k n : Nat, s7 = .int .i64 k ∧ k ≤ l.length ∧ wr = w.drewN n ∧ Hid ((l.take k).find? (cutP a b) = none)) (fun s _ => l.length - (intOf s).toNat)
    case atStart => exact ⟨0, 0, rfl, by omega, rfl, rfl⟩
    case round =>
      obtain ⟨k, n, rfl, hk, rfl, hf⟩ := hrel
      by_cases hkl : k < l.length
      · obtain ⟨g, off, rfl, hbb, hc⟩ := Recs.pos hL Lk.cells_len (by omega) (by omega)
        have d0 := hc (w.drewN n) rfl k 0 hkl (by omega)
        have d1 := hc (w.drewN n) rfl k 1 hkl (by omega)
        have d2 := hc (w.drewN n) rfl k 2 hkl (by omega)
        have htk := take_succ_nth l k hkl
        obtain ⟨x, hx⟩ : ∃ x, x = nth l k := ⟨_, rfl⟩
        rw [← hx] at d0 d1 d2 htk
        have hfk : cutP a b x = true → l.find? (cutP a b) = some x := fun hc => by
          rw [← List.take_append_drop (k + 1) l, htk, List.find?_append, List.find?_append, hf.out]
          simp [hc]
        have hfn : cutP a b x = false → (l.take (k + 1)).find? (cutP a b) = none := fun hc => by
          rw [htk, List.find?_append, hf.out]
          simp [hc]
        obtain ⟨xa, xb, xc⟩ := x
        simp only [Lk.cells, List.getElem?_cons_zero, List.getElem?_cons_succ, ← Nat.add_assoc, Nat.add_zero] at d0 d1 d2
        have HK := Lib.hid hfk
        have HN := Lib.hid hfn
        have q : ((xa == a) = true ∧ (xb == b) = true) ∨ ((xa == a) = true ∧ (xb == b) = false ∧ (xa == b) = true ∧ (xb == a) = true) ∨ ((xa == a) = true ∧ (xb == b) = false ∧ (xa == b) = true ∧ (xb == a) = false) ∨ ((xa == a) = true ∧ (xb == b) = false ∧ (xa == b) = false) ∨ ((xa == a) = false ∧ (xa == b) = true ∧ (xb == a) = true) ∨ ((xa == a) = false ∧ (xa == b) = true ∧ (xb == a) = false) ∨ ((xa == a) = false ∧ (xa == b) = false) := by
          cases (xa == a) <;> cases (xb == b) <;> cases (xa == b) <;> cases (xb == a) <;> simp
        have hcc : cutP a b ⟨xa, xb, xc⟩ = (((xa == a) && (xb == b)) || ((xa == b) && (xb == a))) := rfl
        have HC := Lib.hid hcc
        clear hc htk hx hfk hfn hcc
        rcases q with ⟨e1, e2⟩ | ⟨e1, e2, e3, e4⟩ | ⟨e1, e2, e3, e4⟩ | ⟨e1, e2, e3⟩ | ⟨e1, e3, e4⟩ | ⟨e1, e3, e4⟩ | ⟨e1, e3⟩
        all_goals
          go_wp2
          first
          | (go_roundw
             case rel => exact ⟨k + 1, n, by go_num, by omega, rfl, HN.out (by rw [HC.out]; simp [*])⟩
             case measure => simp [intOf]; omega)
          | (go_ret
             exact ⟨by rw [hX.out, HK.out (by rw [HC.out]; simp [*])]; rfl, (Fr.refl _ _).drewN _⟩)
      · obtain rfl : k = l.length := by omega
        have hX2 : Hid (costOf l a b = 16) := by
          have := hf.out
          rw [List.take_length] at this
          exact hX.out.trans (by rw [this])
        go_wp2
        go_ret
        exact ⟨by rw [hX2.out]; rfl, (Fr.refl _ _).drewN _⟩
end Go.Proofs.Ytgfbkebbnfcgkaa
end
