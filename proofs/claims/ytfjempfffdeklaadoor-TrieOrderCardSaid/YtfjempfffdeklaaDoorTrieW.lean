import Derived.Test.YtfjempfffdeklaaDoorTrieNet
namespace Go.Proofs.YtfjempfffdeklaaDoor
open Go.RowKit

theorem isTrie_new (w : World) (base : Nat) (hb : base ≤ w.heap.size) : IsTrie (w.alloc (.cells #[.bool false, .int .i64 0, .pointer none, .pointer none, .int .i64 0] 184)).heap base w.heap.size (fun a k => if a = 0 ∧ k = 0 then some w.heap.size else none) [] (fun _ => 0) := by
  refine ⟨if_pos ⟨rfl, rfl⟩, fun a k b hk => ?_, fun a k b hk => ?_, fun a k a' k' b h1 h2 => ?_, fun a k b hk => ?_, (fun _ h => nomatch h), List.Pairwise.nil, by simp⟩
  · split at hk
    · rename_i h
      obtain ⟨rfl, rfl⟩ := h
      cases hk
      have := Blk.made w 184 [.bool false, .int .i64 0, .pointer none, .pointer none, .int .i64 0]
      unfold nodeT nodeX
      rw [if_pos rfl, if_pos rfl]
      refine this.eq ?_
      simp [nodeC, ptrO]
    · cases hk
  · split at hk
    · rename_i h
      obtain ⟨rfl, rfl⟩ := h
      cases hk
      exact ⟨by omega, by omega, by rw [cutA_zero (by omega)], hb⟩
    · cases hk
  · split at h1
    · rename_i e1
      split at h2
      · rename_i e2; exact ⟨e1.1.trans e2.1.symm, e1.2.trans e2.2.symm⟩
      · cases h2
    · cases h1
  · rw [if_neg (by simp)] at hk; cases hk
set_option maxRecDepth 100000 in
theorem trieNew_any (w : World) : Calls Tryd.prog 60 #[] w (fun e w' => e = .returned (.pointer (some ⟨w.heap.size, 0, none⟩)) ∧ w' = w.alloc (.cells #[.bool false, .int .i64 0, .pointer none, .pointer none, .int .i64 0] 184)) := by
  go_enter Tryd.func60, Tryd.ntmps60
  go_wp2
  go_ret
  exact ⟨rfl, rfl⟩

theorem bit_and1 (x : Int) (hx : 0 ≤ x ∧ x < 4294967296) : bits .and .u32 x 1 = x % 2 := by
  rw [u32_and x 1 hx.1 hx.2 (by omega) (by omega)]
  obtain ⟨X, rfl⟩ := Int.eq_ofNat_of_zero_le hx.1
  simp [Nat.and_one_is_mod]
theorem div_bd {a : Int} (ha : 0 ≤ a ∧ a < 4294967296) (k : Nat) : 0 ≤ a / 2 ^ k ∧ a / 2 ^ k < 4294967296 := by
  have hp : (0 : Int) < 2 ^ k := Int.pow_pos (by decide)
  have h1 := Int.ediv_nonneg ha.1 (Int.le_of_lt hp)
  have h2 := Int.ediv_le_self (2 ^ k) ha.1
  omega
set_option maxRecDepth 100000 in
set_option maxHeartbeats 1000000 in
theorem bit_any (a : Int) (i : Nat) (w : World) (ha : 0 ≤ a ∧ a < 4294967296) (hi : i < 32) : Calls Tryd.prog 107 #[.int .u32 a, .int .i64 i] w (fun e w' => e = .returned (.int .u32 (bitA a i)) ∧ w' = w) := by
  have hX := Lib.hid (bit_and1 (a / 2 ^ (31 - i)) (div_bd ha _))
  go_enter Tryd.func107, Tryd.ntmps107
  go_wp2
  go_ret
  exact (RetS.mk (x := .int .u32 (bits .and .u32 (a / 2 ^ (31 - i)) 1)) (by rw [hX.out]; rfl) rfl rfl).imp id Eq.symm
set_option maxRecDepth 100000 in
set_option maxHeartbeats 2000000 in
theorem at_any {base bt : Nat} {N : Int → Nat → Option Nat} {C : List Nt} {V : Nt → Int} (a : Int) (k : Nat) (w : World) (h : IsTrie w.heap base bt N C V) (ha : 0 ≤ a ∧ a < 4294967296) (hk : k ≤ 32) (hcut : cutA a k = a) :
    Calls Tryd.prog 106 #[.pointer (some ⟨bt, 0, none⟩), .agg #[.int .u32 a, .int .i64 k]] w (RetV w (ptrO (N a k))) := by
  have H := Lib.hid h
  have HC := Lib.hid hcut
  have k0 : Blk (w.alloc (.cells #[.int .u32 a, .int .i64 k] 37)).heap w.heap.size 37 [.int .u32 a, .int .i64 k] := Blk.made w 37 [.int .u32 a, .int .i64 k]
  have ht := h.top
  have hstart : Hid (.pointer (some ⟨bt, 0, none⟩) = ptrO (N (cutA a 0) 0)) := Lib.hid (by rw [cutA_zero ha, ht]; rfl)
  clear h hcut ht
  go_enter Tryd.func106, Tryd.ntmps106
  go_wp2
  go_loopw [6, 5] (fun s6 s5 wr => ∃ (i : Nat) (v : Value), i ≤ k ∧ s6 = .int .i64 i ∧ v = s5 ∧ Hid (v = ptrO (N (cutA a i) i)) ∧ Blk wr.heap w.heap.size 37 [.int .u32 a, .int .i64 k] ∧ Fr (fun _ => False) w wr) (fun s _ _ => k - (intOf s).toNat)
  case atStart => exact ⟨0, _, by omega, rfl, rfl, hstart, k0, (Fr.refl _ _).alloc _⟩
  case round =>
    clear k0 hstart
    obtain ⟨i, v, hi, rfl, rfl, hv, hB, hF⟩ := hrel
    have b0 := hB.cell 0
    have b1 := hB.cell 1
    simp only [List.getElem?_cons_succ, List.getElem?_cons_zero] at b0 b1
    have hbl := hB.lt
    cases hN : N (cutA a i) i with
    | none =>
      have HV := Lib.hid (show ptrO (N a k) = .pointer none by rw [← HC.out, H.out.none_up hN hi]; rfl)
      obtain rfl : v = .pointer none := by rw [hv.out, hN]; rfl
      clear hN hv
      by_cases hik : i < k
      all_goals
        go_wp2
        go_ret
        exact RetV.mk (x := .pointer none) (by rw [HV.out]) rfl hF
    | some b =>
      obtain rfl : v = .pointer (some ⟨b, 0, none⟩) := by rw [hv.out, hN]; rfl
      by_cases hik : i < k
      · obtain ⟨c0, c1, c2, c3, cf, cl⟩ := (H.out.fr0 hF).cells hN
        have hs := cutA_succ ha (show i < 32 by omega)
        have HN2 := Lib.hid hN
        clear c0 c1 cf hN hv
        rcases bitA_01 a i with hb | hb
        · have hbit := fun (n : Nat) => (bit_any a i (wr.drewN n) ha (by omega))
          rw [hb] at hbit hs
          have HS := Lib.hid (show cutA a (i + 1) = cutA a i by omega)
          clear hs hb c3
          obtain ⟨u, hu⟩ : ∃ u, u = ptrO (N (cutA a i) (i + 1)) := ⟨_, rfl⟩
          rw [← hu] at c2
          have HU := Lib.hid hu
          clear hu
          go_wp2
          go_quiet (first | (go_at_call 107; exact Calls.quiet_of_same (hbit _)))
          go_wp2
          go_roundw
          case rel => exact ⟨i + 1, u, by omega, by go_num, rfl, Lib.hid (by rw [HS.out]; exact HU.out), hB.fr (S := fun _ => False) ((Fr.refl _ _).drewN _) (fun h => h), hF.drewN _⟩
          case measure => simp [intOf]; omega
        · have hbit := fun (n : Nat) => (bit_any a i (wr.drewN n) ha (by omega))
          rw [hb] at hbit hs
          have HS := Lib.hid (show cutA a (i + 1) = cutA a i + 2 ^ (31 - i) by omega)
          clear hs hb c2
          obtain ⟨u, hu⟩ : ∃ u, u = ptrO (N (cutA a i + 2 ^ (31 - i)) (i + 1)) := ⟨_, rfl⟩
          rw [← hu] at c3
          have HU := Lib.hid hu
          clear hu
          go_wp2
          go_quiet (first | (go_at_call 107; exact Calls.quiet_of_same (hbit _)))
          go_wp2
          go_roundw
          case rel => exact ⟨i + 1, u, by omega, by go_num, rfl, Lib.hid (by rw [HS.out]; exact HU.out), hB.fr (S := fun _ => False) ((Fr.refl _ _).drewN _) (fun h => h), hF.drewN _⟩
          case measure => simp [intOf]; omega
      · obtain rfl : i = k := by omega
        have HV := Lib.hid (show ptrO (N a i) = .pointer (some ⟨b, 0, none⟩) by rw [hv.out, HC.out])
        clear hv hN
        go_wp2
        go_ret
        exact RetV.mk (x := .pointer (some ⟨b, 0, none⟩)) (by rw [HV.out]) rfl hF

/-- What is wrong with a net that is put. -/
def putE (C : List Nt) (a n : Int) : Option Int := match netErr a n with
  | some k => some k
  | none => if (⟨a, n⟩ : Nt) ∈ C then none else if C.length = 64 then some 4 else none
def putC (C : List Nt) (x : Nt) : List Nt := if x ∈ C then C else nIns C x
def RetPut (w : World) (base bt : Nat) (N : Int → Nat → Option Nat) (C : List Nt) (V : Nt → Int) (x : Nt) (v : Int) (r : Option Int) (e : Ending) (w' : World) : Prop := match r with
  | some k => RetV w (errv k) e w'
  | none => e = .returned .nilIface ∧ ∃ N' V', IsTrie w'.heap base bt N' (putC C x) V' ∧ V' x = v ∧ (∀ y ∈ C, y ≠ x → V' y = V y) ∧ Fr (Tof N) w w' ∧ (∀ k, Tof N' k → Tof N k ∨ w.heap.size ≤ k)
theorem RetPut.err {w w' : World} {base bt : Nat} {N : Int → Nat → Option Nat} {C : List Nt} {V : Nt → Int} {x : Nt} {v : Int} {r : Option Int} {e : Ending} {k : Int} (hr : r = some k) (he : e = .returned (errv k)) (hF : Fr (fun _ => False) w w') : RetPut w base bt N C V x v r e w' := by subst hr; exact ⟨he, hF⟩
theorem RetPut.ok {w w' : World} {base bt : Nat} {N N' : Int → Nat → Option Nat} {C C' : List Nt} {V V' : Nt → Int} {x : Nt} {v : Int} {r : Option Int} {e : Ending} (hr : r = none) (he : e = .returned .nilIface) (hT : IsTrie w'.heap base bt N' C' V') (hC : C' = putC C x) (hV : V' x = v) (hV2 : ∀ y ∈ C, y ≠ x → V' y = V y) (hF : Fr (Tof N) w w') (hN : ∀ k, Tof N' k → Tof N k ∨ w.heap.size ≤ k) : RetPut w base bt N C V x v r e w' := by subst hr; subst hC; exact ⟨he, N', V', hT, hV, hV2, hF, hN⟩
theorem RetPut.errE {w w' : World} {base bt : Nat} {N : Int → Nat → Option Nat} {C : List Nt} {V : Nt → Int} {x : Nt} {v : Int} {r : Option Int} {e : Ending} {k : Int} (h : RetPut w base bt N C V x v r e w') (hr : r = some k) : RetV w (errv k) e w' := by subst hr; exact h
theorem RetPut.okE {w w' : World} {base bt : Nat} {N : Int → Nat → Option Nat} {C : List Nt} {V : Nt → Int} {x : Nt} {v : Int} {r : Option Int} {e : Ending} (h : RetPut w base bt N C V x v r e w') (hr : r = none) : e = .returned .nilIface ∧ ∃ N' V', IsTrie w'.heap base bt N' (putC C x) V' ∧ V' x = v ∧ (∀ y ∈ C, y ≠ x → V' y = V y) ∧ Fr (Tof N) w w' ∧ (∀ k, Tof N' k → Tof N k ∨ w.heap.size ≤ k) := by subst hr; exact h
/-- On the way down: nodes are made, nothing else. -/
structure Down (w wr : World) (base bt : Nat) (N N' : Int → Nat → Option Nat) (C : List Nt) (V V' : Nt → Int) (a : Int) (k : Nat) : Prop where
  trie : IsTrie wr.heap base bt N' C V'
  blk : Blk wr.heap w.heap.size 37 [.int .u32 a, .int .i64 k]
  val : ∀ y ∈ C, V' y = V y
  fr : Fr (Tof N) w wr
  new : ∀ j, Tof N' j → Tof N j ∨ w.heap.size < j
theorem Down.grow {w wr w' : World} {base bt : Nat} {N N' : Int → Nat → Option Nat} {C : List Nt} {V V' : Nt → Int} {a : Int} {k i b c : Nat} (h : Down w wr base bt N N' C V V' a k) (hT : ∀ j, Tof N j → j < w.heap.size) (hN : N' (cutA a i) i = some b) (hi : i < 32) (hc : c < 2) (hn : N' (IsTrie.kid (cutA a i) i c) (i + 1) = none) (h2 : 0 ≤ IsTrie.kid (cutA a i) i c ∧ IsTrie.kid (cutA a i) i c < 4294967296)
    (hb : base ≤ w.heap.size) (hw : w' = (wr.setCell ⟨b, 2 + c, none⟩ (.pointer (some ⟨wr.heap.size, 0, none⟩))).alloc (.cells #[.bool false, .int .i64 0, .pointer none, .pointer none] 182)) :
    ∃ N2 V2, Down w w' base bt N N2 C V V2 a k ∧ N2 (IsTrie.kid (cutA a i) i c) (i + 1) = some wr.heap.size := by
  subst hw
  obtain ⟨g1, g2⟩ := h.trie.grow hN hi hc hn h2 (Nat.le_trans hb h.fr.size)
  have hbT : Tof N' b := ⟨_, _, hN⟩
  have hbl := h.trie.lt b hbT
  have hwl := h.blk.lt
  have hbne : w.heap.size ≠ b := by
    rcases h.new b hbT with q | q
    · have := hT b q; omega
    · omega
  refine ⟨_, _, ⟨g1, (h.blk.other (p := ⟨b, 2 + c, none⟩) hbne _).alloc _, fun y hy => ?_, ?_, fun j ⟨a', k', hj⟩ => ?_⟩, g2⟩
  · refine (updV_ne V' 0 (fun e => ?_)).trans (h.val y hy)
    obtain ⟨-, b2, hb2⟩ := h.trie.mem y hy
    rw [e] at hb2
    simp only at hb2
    rw [show (((i + 1 : Nat) : Int)).toNat = i + 1 by omega, hn] at hb2
    cases hb2
  · exact (h.fr.setCell (p := ⟨b, 2 + c, none⟩) (fun hlt => by
      rcases h.new b hbT with q | q
      · exact q
      · have hlt : b < w.heap.size := hlt
        omega) _).alloc _
  · by_cases e : a' = IsTrie.kid (cutA a i) i c ∧ k' = i + 1
    · obtain ⟨rfl, rfl⟩ := e
      rw [updN_at] at hj
      cases hj
      exact .inr hwl
    · rw [updN_ne N' e] at hj
      exact h.new j ⟨a', k', hj⟩
end Go.Proofs.YtfjempfffdeklaaDoor
