import Derived.Test.YtfjempfffdeklaaDoorTrieW
namespace Go.Proofs.YtfjempfffdeklaaDoor
open Go.RowKit

theorem Down.fr0 {w wr w' : World} {base bt : Nat} {N N' : Int → Nat → Option Nat} {C : List Nt} {V V' : Nt → Int} {a : Int} {k : Nat} (h : Down w wr base bt N N' C V V' a k) (f : Fr (fun _ => False) wr w') : Down w w' base bt N N' C V V' a k :=
  ⟨h.trie.fr0 f, h.blk.fr f (fun h => h), h.val, h.fr.trans (f.none _), h.new⟩
theorem Down.own {w wr : World} {base bt : Nat} {N N' : Int → Nat → Option Nat} {C : List Nt} {V V' : Nt → Int} {a : Int} {k b : Nat} (h : Down w wr base bt N N' C V V' a k) (hb : Tof N' b) : b < w.heap.size → Tof N b := fun hl => by
  rcases h.new b hb with q | q
  · exact q
  · omega
theorem putE_err {C : List Nt} {a n q : Int} (h : netErr a n = some q) : putE C a n = some q := by unfold putE; rw [h]
theorem putE_same {C : List Nt} {a n : Int} (h : netErr a n = none) (hm : (⟨a, n⟩ : Nt) ∈ C) : putE C a n = none := by unfold putE; rw [h]; exact if_pos hm
theorem putE_full {C : List Nt} {a n : Int} (h : netErr a n = none) (hm : ¬ (⟨a, n⟩ : Nt) ∈ C) (hl : C.length = 64) : putE C a n = some 4 := by unfold putE; rw [h]; simp only; rw [if_neg hm, if_pos hl]
theorem putE_new {C : List Nt} {a n : Int} (h : netErr a n = none) (hm : ¬ (⟨a, n⟩ : Nt) ∈ C) (hl : ¬ C.length = 64) : putE C a n = none := by unfold putE; rw [h]; simp only; rw [if_neg hm, if_neg hl]
theorem IsTrie.put' {w : World} {base bt : Nat} {N : Int → Nat → Option Nat} {C : List Nt} {V : Nt → Int} (h : IsTrie w.heap base bt N C V) {a : Int} {k b : Nat} (hb : N a k = some b) (hx : ¬ (⟨a, (k : Int)⟩ : Nt) ∈ C) (hl : C.length < 64) (v : Int) :
    IsTrie (((w.setCell ⟨b, 0, none⟩ (.bool true)).setCell ⟨b, 1, none⟩ (.int .i64 v)).setCell ⟨bt, 4, none⟩ (.int .i64 ((C.length : Int) + 1))).heap base bt N (nIns C ⟨a, k⟩) (updV V ⟨a, k⟩ v) := by
  have := h.put hb hx hl v
  rwa [show ((C.length + 1 : Nat) : Int) = (C.length : Int) + 1 by omega] at this
theorem kid_bd {a : Int} (ha : 0 ≤ a ∧ a < 4294967296) {i c : Nat} (h : cutA a (i + 1) = IsTrie.kid (cutA a i) i c) : 0 ≤ IsTrie.kid (cutA a i) i c ∧ IsTrie.kid (cutA a i) i c < 4294967296 := by rw [← h]; exact cutA_bd ha _

set_option maxRecDepth 100000 in
set_option maxHeartbeats 8000000 in
theorem put_any {base bt : Nat} {N : Int → Nat → Option Nat} {C : List Nt} {V : Nt → Int} (a n v : Int) (w : World) (h : IsTrie w.heap base bt N C V) (ha : 0 ≤ a ∧ a < 4294967296) (hbase : base ≤ w.heap.size) :
    Calls Tryd.prog 61 #[.pointer (some ⟨bt, 0, none⟩), .agg #[.int .u32 a, .int .i64 n], .int .i64 v] w (RetPut w base bt N C V ⟨a, n⟩ v (putE C a n)) := by
  have H := Lib.hid h
  have HTL := Lib.hid h.lt
  have k0 : Blk (w.alloc (.cells #[.int .u32 a, .int .i64 n] 37)).heap w.heap.size 37 [.int .u32 a, .int .i64 n] := Blk.made w 37 [.int .u32 a, .int .i64 n]
  clear h
  go_enter Tryd.func61, Tryd.ntmps61
  go_wp2_with (fail)
  refine (pcheck_any a n _ ha).mono ?_
  rintro e1 w1 ⟨rfl, hF1⟩
  have hF01 := ((Fr.refl (fun _ => False) w).alloc (.cells #[.int .u32 a, .int .i64 n] 37)).trans hF1
  have k1 := k0.fr hF1 (fun h => h)
  clear k0 hF1
  cases hne : netErr a n with
  | some q =>
    have HE := Lib.hid (putE_err (C := C) hne)
    rw [show errO (some q) = errv q from rfl]
    clear hne k1
    go_wp2
    go_ret
    exact RetPut.err HE.out rfl hF01
  | none =>
    have HOK := Lib.hid hne
    obtain ⟨k, rfl, hk, hm⟩ := netErr_ok hne
    have hcut := cutA_self hm
    have HCUT := Lib.hid hcut
    rw [show errO none = .nilIface from rfl]
    have c0 := k1.cell 0
    have c1 := k1.cell 1
    have hlt1 := k1.lt
    simp only [List.getElem?_cons_succ, List.getElem?_cons_zero] at c0 c1
    clear hne hm
    go_wp2_with (fail)
    refine (at_any a k w1 (H.out.fr0 hF01) ha hk hcut).mono ?_
    rintro e2 w2 ⟨rfl, hF2⟩
    have hF02 := hF01.trans hF2
    have k2 := k1.fr hF2 (fun h => h)
    clear hcut k1 hF01 hF2 c0 c1 hlt1
    by_cases hm : (⟨a, (k : Int)⟩ : Nt) ∈ C
    · obtain ⟨-, b, hb⟩ := H.out.mem _ hm
      simp only [Int.toNat_natCast] at hb
      obtain ⟨q0, q1, -, -, qf, ql⟩ := (H.out.fr0 hF02).cells hb
      rw [decide_eq_true hm] at q0
      rw [show ptrO (N a k) = .pointer (some ⟨b, 0, none⟩) by rw [hb]; rfl]
      have HS := Lib.hid ((H.out.fr0 hF02).setV hb v)
      have HE := Lib.hid (putE_same HOK.out hm)
      have HM := Lib.hid hm
      have qf1 := qf 1
      have HF := Lib.hid ((hF02.none (Tof N)).setCell (p := ⟨b, 1, none⟩) (fun _ => ⟨a, k, hb⟩) (.int .i64 v))
      clear hb hm qf k2 hF02
      go_wp2
      go_ret
      exact RetPut.ok HE.out rfl HS.out (if_pos HM.out).symm (updV_at _ _ _) (fun y hy hne => updV_ne V v hne) HF.out (fun j hj => .inl hj)
    · have HM := Lib.hid hm
      have hcnt := (H.out.fr0 hF02).count
      have hbt := (H.out.fr0 hF02).cells H.out.top
      obtain ⟨-, -, -, -, btf, btl⟩ := hbt
      have btf4 := btf 4
      clear btf
      by_cases h64 : C.length = 64
      · have HE := Lib.hid (putE_full HOK.out hm h64)
        have e64 : ((C.length : Int) == 64) = true := by simp [h64]
        clear h64 k2
        cases hN : N a k with
        | none =>
          rw [show ptrO none = .pointer none from rfl]
          clear hN hm
          go_wp2
          go_ret
          exact RetPut.err HE.out rfl hF02
        | some b =>
          obtain ⟨q0, -, -, -, -, ql⟩ := (H.out.fr0 hF02).cells hN
          rw [decide_eq_false hm] at q0
          rw [show ptrO (some b) = .pointer (some ⟨b, 0, none⟩) from rfl]
          clear hN hm
          go_wp2
          go_ret
          exact RetPut.err HE.out rfl hF02
      · have HE := Lib.hid (putE_new HOK.out hm h64)
        have h63 : C.length < 64 := by have := H.out.len; omega
        have e64 : ((C.length : Int) == 64) = false := by simp; omega
        have hD : Down w w2 base bt N N C V V a k := ⟨H.out.fr0 hF02, k2, fun _ _ => rfl, hF02.none _, fun j hj => .inl hj⟩
        have HT0 := Lib.hid (show N (cutA a (0 : Nat)) 0 = some bt by rw [cutA_zero ha]; exact H.out.top)
        have hq : ptrO (N a k) = .pointer none ∨ ∃ b, ptrO (N a k) = .pointer (some ⟨b, 0, none⟩) ∧ w2.cell? ⟨b, 0, none⟩ = some (.bool false) ∧ b < w2.heap.size := by
          cases hN : N a k with
          | none => exact .inl rfl
          | some b =>
            obtain ⟨q0, -, -, -, -, ql⟩ := (H.out.fr0 hF02).cells hN
            rw [decide_eq_false hm] at q0
            exact .inr ⟨b, rfl, q0, ql⟩
        have d0 := k2.cell 0
        have d1 := k2.cell 1
        have dl := k2.lt
        simp only [List.getElem?_cons_succ, List.getElem?_cons_zero] at d0 d1
        clear h64 k2 hF02 hm
        rcases hq with hq | ⟨bq, hq, q0, ql⟩
        all_goals
          rw [hq]
          clear hq
          go_wp2
          go_loopw [43, 9] (fun s43 s9 wr => ∃ (i b : Nat) (N' : Int → Nat → Option Nat) (V' : Nt → Int), i ≤ k ∧ s43 = .int .i64 i ∧ s9 = .pointer (some ⟨b, 0, none⟩) ∧ Hid (N' (cutA a i) i = some b) ∧ Down w wr base bt N N' C V V' a k) (fun s _ _ => k - (intOf s).toNat)
          case atStart => exact ⟨0, bt, N, V, by omega, rfl, rfl, HT0, hD⟩
          case round =>
            clear hD HT0 d0 d1 dl hcnt btf4 btl
            obtain ⟨i, b, N', V', hi, rfl, rfl, hN, hD⟩ := hrel
            have d0 := hD.blk.cell 0
            have d1 := hD.blk.cell 1
            have dl := hD.blk.lt
            simp only [List.getElem?_cons_succ, List.getElem?_cons_zero] at d0 d1
            by_cases hik : i < k
            · obtain ⟨-, -, -, -, -, cl⟩ := hD.trie.cells hN.out
              have hs := cutA_succ ha (show i < 32 by omega)
              have hbit := fun (n : Nat) => (bit_any a i (wr.drewN n) ha (by omega))
              have hcs : ∃ c : Nat, c < 2 ∧ bitA a i = (c : Int) ∧ cutA a (i + 1) = IsTrie.kid (cutA a i) i c := by
                rcases bitA_01 a i with hb | hb <;> rw [hb] at hs
                · exact ⟨0, by omega, hb, by unfold IsTrie.kid; rw [if_pos rfl]; omega⟩
                · exact ⟨1, by omega, hb, by unfold IsTrie.kid; rw [if_neg (by omega)]; omega⟩
              obtain ⟨c, hc, hb, hkid⟩ := hcs
              rw [hb] at hbit
              have HK := Lib.hid hkid
              have hkb := kid_bd ha hkid
              clear hs hb hkid
              have hc01 : c = 0 ∨ c = 1 := by omega
              rcases hc01 with rfl | rfl
              · have hbit0 : ∀ n, Calls Tryd.prog 107 #[.int .u32 a, .int .i64 i] (wr.drewN n) (fun e w' => e = .returned (.int .u32 0) ∧ w' = wr.drewN n) := hbit
                clear hbit
                go_wp2
                go_quiet (first | (go_at_call 107; exact Calls.quiet_of_same (hbit0 _)))
                have hDq := hD.fr0 ((Fr.refl (fun _ => False) wr).drewN nq)
                generalize wr.drewN nq = wq at *
                obtain ⟨-, -, c2, c3, cf, cl⟩ := hDq.trie.cells hN.out
                have cf2 := cf 2
                clear cf hbit0 d0 d1 dl hD c3
                have hk' : IsTrie.kid (cutA a i) i 0 = cutA a i := rfl
                rw [hk'] at hkb
                cases hKN : N' (cutA a i) (i + 1) with
                | none =>
                  obtain ⟨N2, V2, hD2, hN2⟩ := hDq.grow HTL.out hN.out (by omega) (c := 0) (by omega) hKN hkb hbase rfl
                  rw [hKN] at c2
                  simp only [Nat.add_zero, ptrO] at c2 hD2
                  have HD2 := Lib.hid hD2
                  have HN2 := Lib.hid (show N2 (cutA a (i + 1)) (i + 1) = some wq.heap.size by rw [HK.out]; exact hN2)
                  clear hKN hD2 hN2 hDq
                  go_wp2
                  go_roundw
                  case rel => exact ⟨i + 1, wq.heap.size, N2, V2, by omega, by go_num, rfl, HN2, HD2.out⟩
                  case measure => simp [intOf]; omega
                | some b2 =>
                  have HN2 := Lib.hid (show N' (cutA a (i + 1)) (i + 1) = some b2 by rw [HK.out]; exact hKN)
                  rw [hKN] at c2
                  simp only [ptrO] at c2
                  clear hKN
                  go_wp2
                  go_roundw
                  case rel => exact ⟨i + 1, b2, N', V', by omega, by go_num, rfl, HN2, hDq⟩
                  case measure => simp [intOf]; omega
              · have hbit0 : ∀ n, Calls Tryd.prog 107 #[.int .u32 a, .int .i64 i] (wr.drewN n) (fun e w' => e = .returned (.int .u32 1) ∧ w' = wr.drewN n) := hbit
                clear hbit
                go_wp2
                go_quiet (first | (go_at_call 107; exact Calls.quiet_of_same (hbit0 _)))
                have hDq := hD.fr0 ((Fr.refl (fun _ => False) wr).drewN nq)
                generalize wr.drewN nq = wq at *
                obtain ⟨-, -, c2, c3, cf, cl⟩ := hDq.trie.cells hN.out
                have cf3 := cf 3
                clear cf hbit0 d0 d1 dl hD c2
                have hk' : IsTrie.kid (cutA a i) i 1 = cutA a i + 2 ^ (31 - i) := rfl
                rw [hk'] at hkb
                cases hKN : N' (cutA a i + 2 ^ (31 - i)) (i + 1) with
                | none =>
                  obtain ⟨N2, V2, hD2, hN2⟩ := hDq.grow HTL.out hN.out (by omega) (c := 1) (by omega) hKN hkb hbase rfl
                  rw [hKN] at c3
                  simp only [ptrO, Nat.reduceAdd] at c3 hD2
                  have HD2 := Lib.hid hD2
                  have HN2 := Lib.hid (show N2 (cutA a (i + 1)) (i + 1) = some wq.heap.size by rw [HK.out]; exact hN2)
                  clear hKN hD2 hN2 hDq
                  go_wp2
                  go_roundw
                  case rel => exact ⟨i + 1, wq.heap.size, N2, V2, by omega, by go_num, rfl, HN2, HD2.out⟩
                  case measure => simp [intOf]; omega
                | some b2 =>
                  have HN2 := Lib.hid (show N' (cutA a (i + 1)) (i + 1) = some b2 by rw [HK.out]; exact hKN)
                  rw [hKN] at c3
                  simp only [ptrO] at c3
                  clear hKN
                  go_wp2
                  go_roundw
                  case rel => exact ⟨i + 1, b2, N', V', by omega, by go_num, rfl, HN2, hDq⟩
                  case measure => simp [intOf]; omega
            · obtain rfl : i = k := by omega
              have hN2 : N' a i = some b := by have := hN.out; rwa [HCUT.out] at this
              have HN2 := Lib.hid hN2
              have HP := Lib.hid (hD.trie.put' hN2 HM.out h63 v)
              have hTb := hD.own ⟨_, _, hN2⟩
              have hTt := hD.own ⟨_, _, hD.trie.top⟩
              have HF := Lib.hid (((hD.fr.setCell (p := ⟨b, 0, none⟩) hTb (.bool true)).setCell (p := ⟨b, 1, none⟩) hTb (.int .i64 v)).setCell (p := ⟨bt, 4, none⟩) hTt (.int .i64 ((C.length : Int) + 1)))
              have HV := Lib.hid hD.val
              have HNW := Lib.hid hD.new
              have hcnt := hD.trie.count
              obtain ⟨-, -, -, -, btf, btl⟩ := hD.trie.cells hD.trie.top
              have btf4 := btf 4
              obtain ⟨q0', q1', -, -, qf', ql'⟩ := hD.trie.cells hN2
              have qf0 := qf' 0
              have qf1 := qf' 1
              clear btf qf' hN2 hD hN hTb hTt
              go_wp2
              go_ret
              exact RetPut.ok HE.out rfl HP.out (if_neg HM.out).symm (updV_at _ _ _) (fun y hy hne => (updV_ne V' v hne).trans (HV.out y hy)) HF.out (fun j hj => (HNW.out j hj).imp id (fun h => Nat.le_of_lt h))
end Go.Proofs.YtfjempfffdeklaaDoor
