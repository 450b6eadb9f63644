import Derived.Test.YtfjempfffdeklaaDoorTriePut
import Derived.Test.YtfjempfffdeklaaDoorBitsLz
import Derived.Deep.CutBlock
import Derived.Deep.CutRange
import Derived.Deep.DeepCutAuto
namespace Go.Proofs.YtfjempfffdeklaaDoor
open Go.RowKit

/-! Find, Drop. -/
/-- The deepest net with an address among those of fewer than i bits. -/
def deepK (C : List Nt) (a : Int) : Nat → Option Nat
  | 0 => none
  | i + 1 => if (⟨cutA a i, (i : Int)⟩ : Nt) ∈ C then some i else deepK C a i
theorem deepK_hit {C : List Nt} {a : Int} {i : Nat} (h : (⟨cutA a i, (i : Int)⟩ : Nt) ∈ C) : deepK C a (i + 1) = some i := if_pos h
theorem deepK_miss {C : List Nt} {a : Int} {i : Nat} (h : ¬ (⟨cutA a i, (i : Int)⟩ : Nt) ∈ C) : deepK C a (i + 1) = deepK C a i := if_neg h
theorem deepK_stop {C : List Nt} {a : Int} {i : Nat} (h : ∀ j, i ≤ j → ¬ (⟨cutA a j, (j : Int)⟩ : Nt) ∈ C) : ∀ k, deepK C a (i + k) = deepK C a i
  | 0 => rfl
  | k + 1 => (deepK_miss (h (i + k) (by omega))).trans (deepK_stop h k)
theorem deepK_mem {C : List Nt} {a : Int} : ∀ {i k : Nat}, deepK C a i = some k → k < i ∧ (⟨cutA a k, (k : Int)⟩ : Nt) ∈ C
  | 0, _, h => nomatch h
  | i + 1, k, h => by
    unfold deepK at h
    split at h
    · rename_i hm; cases h; exact ⟨Nat.lt_succ_self _, hm⟩
    · have := deepK_mem h; exact ⟨Nat.lt_succ_of_lt this.1, this.2⟩
theorem deepK_congr {C D : List Nt} (h : C = D) (a : Int) (i : Nat) : deepK C a i = deepK D a i := by rw [h]
/-- What Find tells. -/
def findV (C : List Nt) (V : Nt → Int) (a : Int) : Value := match deepK C a 33 with
  | none => .tuple #[.agg #[.int .u32 0, .int .i64 0], .int .i64 0, errv 2]
  | some k => .tuple #[.agg #[.int .u32 (cutA a k), .int .i64 k], .int .i64 (V ⟨cutA a k, k⟩), .nilIface]
theorem findV_none {C : List Nt} {V : Nt → Int} {a : Int} (h : deepK C a 33 = none) : findV C V a = .tuple #[.agg #[.int .u32 0, .int .i64 0], .int .i64 0, errv 2] := by unfold findV; rw [h]
theorem findV_some {C : List Nt} {V : Nt → Int} {a : Int} {k : Nat} (h : deepK C a 33 = some k) : findV C V a = .tuple #[.agg #[.int .u32 (cutA a k), .int .i64 k], .int .i64 (V ⟨cutA a k, k⟩), .nilIface] := by unfold findV; rw [h]
/-- On the way: how deep the best, its number, whether there is one. -/
def onWay (V : Nt → Int) (a : Int) (r : Option Nat) (b v : Int) (f : Bool) : Prop := match r with
  | none => b = 0 ∧ v = 0 ∧ f = false
  | some k => b = k ∧ v = V ⟨cutA a k, k⟩ ∧ f = true

theorem xor_self32 (x : Int) : bits .xor .u32 x x = 0 := by
  simp only [bits]
  simp
  decide

namespace IsTrie
variable {w w' : World} {base bt : Nat} {N : Int → Nat → Option Nat} {C : List Nt} {V : Nt → Int}
/-- A net is dropped that was there. -/
theorem drop (h : IsTrie w.heap base bt N C V) {a : Int} {k b : Nat} (hb : N a k = some b) {D : List Nt} (hD : ∀ y, y ∈ D ↔ y ∈ C ∧ y ≠ ⟨a, (k : Int)⟩) (hs : NSorted D) (hl : D.length + 1 = C.length) :
    IsTrie ((w.setCell ⟨b, 0, none⟩ (.bool false)).setCell ⟨bt, 4, none⟩ (.int .i64 ((C.length : Int) - 1))).heap base bt N D V := by
  have hlen := h.len
  have hcl : ((C.length : Int) - 1) = (D.length : Nat) := by omega
  refine ⟨h.top, fun a' k' b' hb' => ?_, h.ok, h.inj, h.par, fun x hxm => h.mem x ((hD x).1 hxm).1, hs, by omega⟩
  rw [hcl]
  have hB := h.blk a' k' b' hb'
  by_cases e : b' = b
  · subst e
    obtain ⟨rfl, rfl⟩ := h.inj _ _ _ _ _ hb hb'
    have hB2 := hB.set 0 (.bool false)
    have g0 : decide ((⟨a, (k : Int)⟩ : Nt) ∈ D) = false := decide_eq_false (fun hh => ((hD _).1 hh).2 rfl)
    by_cases et : b' = bt
    · subst et
      refine (hB2.set 4 _).eq ?_
      unfold nodeX
      rw [if_pos rfl, if_pos rfl]
      unfold nodeC
      rw [g0]
      rfl
    · refine (hB2.other (p := ⟨bt, 4, none⟩) et _).eq ?_
      unfold nodeX
      rw [if_neg et, if_neg et]
      unfold nodeC
      rw [g0]
      rfl
  · have hne : ¬ ((⟨a', (k' : Int)⟩ : Nt) = ⟨a, (k : Int)⟩) := fun hh => by
      obtain ⟨rfl, rfl⟩ := ntk_inj hh
      rw [hb] at hb'; cases hb'; exact e rfl
    have g0 : decide ((⟨a', (k' : Int)⟩ : Nt) ∈ D) = decide ((⟨a', (k' : Int)⟩ : Nt) ∈ C) := by
      rw [decide_eq_decide, hD]
      exact ⟨fun hh => hh.1, fun hh => ⟨hh, hne⟩⟩
    have hB2 := hB.other (p := ⟨b, 0, none⟩) e (.bool false)
    by_cases et : b' = bt
    · subst et
      refine (hB2.set 4 _).eq ?_
      unfold nodeX
      rw [if_pos rfl, if_pos rfl]
      unfold nodeC
      rw [g0]
      rfl
    · refine (hB2.other (p := ⟨bt, 4, none⟩) et _).eq ?_
      unfold nodeX
      rw [if_neg et, if_neg et]
      unfold nodeC
      rw [g0]
end IsTrie
set_option maxRecDepth 100000 in
set_option maxHeartbeats 2000000 in
theorem there_any {base bt : Nat} {N : Int → Nat → Option Nat} {C : List Nt} {V : Nt → Int} (a : Int) (k b : Nat) (w : World) (h : IsTrie w.heap base bt N C V) (ha : 0 ≤ a ∧ a < 4294967296) (hb : N a k = some b) (hm : (⟨a, (k : Int)⟩ : Nt) ∈ C) :
    Calls Tryd.prog 108 #[.pointer (some ⟨bt, 0, none⟩), .agg #[.int .u32 a, .int .i64 k]] w (RetV w (.tuple #[.pointer (some ⟨b, 0, none⟩), .nilIface])) := by
  obtain ⟨hk, -, hcut, -⟩ := h.ok a k b hb
  have hne : netErr a (k : Int) = none := by
    have := netErr_cut a k hk
    rwa [hcut] at this
  have H := Lib.hid h
  have k0 : Blk (w.alloc (.cells #[.int .u32 a, .int .i64 k] 37)).heap w.heap.size 37 [.int .u32 a, .int .i64 k] := Blk.made w 37 [.int .u32 a, .int .i64 k]
  have HM := Lib.hid hm
  clear h hm
  go_enter Tryd.func108, Tryd.ntmps108
  go_wp2_with (fail)
  refine (pcheck_any a k _ ha).mono ?_
  rintro e1 w1 ⟨rfl, hF1⟩
  have hF01 := ((Fr.refl (fun _ => False) w).alloc (.cells #[.int .u32 a, .int .i64 k] 37)).trans hF1
  have k1 := k0.fr hF1 (fun h => h)
  rw [hne, show errO none = .nilIface from rfl]
  have c0 := k1.cell 0
  have c1 := k1.cell 1
  have hlt1 := k1.lt
  simp only [List.getElem?_cons_succ, List.getElem?_cons_zero] at c0 c1
  clear hne k0 hF1
  go_wp2_with (fail)
  refine (at_any a k w1 (H.out.fr0 hF01) ha hk hcut).mono ?_
  rintro e2 w2 ⟨rfl, hF2⟩
  have hF02 := hF01.trans hF2
  obtain ⟨q0, -, -, -, qf, ql⟩ := (H.out.fr0 hF02).cells hb
  rw [decide_eq_true HM.out] at q0
  rw [show ptrO (N a k) = .pointer (some ⟨b, 0, none⟩) by rw [hb]; rfl]
  clear hF01 hF2 c0 c1 hlt1 k1
  go_wp2
  go_ret2
  exact RetV.mk rfl rfl hF02
def DropPost (w : World) (base bt : Nat) (N : Int → Nat → Option Nat) (D : List Nt) (V : Nt → Int) (e : Ending) (w' : World) : Prop := e = .returned .nilIface ∧ IsTrie w'.heap base bt N D V ∧ Fr (Tof N) w w'
set_option maxRecDepth 100000 in
set_option maxHeartbeats 2000000 in
theorem drop_any {base bt : Nat} {N : Int → Nat → Option Nat} {C D : List Nt} {V : Nt → Int} (a : Int) (k b : Nat) (w : World) (h : IsTrie w.heap base bt N C V) (ha : 0 ≤ a ∧ a < 4294967296) (hb : N a k = some b) (hm : (⟨a, (k : Int)⟩ : Nt) ∈ C) (hD : ∀ y, y ∈ D ↔ y ∈ C ∧ y ≠ ⟨a, (k : Int)⟩) (hs : NSorted D) (hl : D.length + 1 = C.length) :
    Calls Tryd.prog 62 #[.pointer (some ⟨bt, 0, none⟩), .agg #[.int .u32 a, .int .i64 k]] w (DropPost w base bt N D V) := by
  have hFa := (Fr.refl (fun _ => False) w).alloc (.cells #[.int .u32 a, .int .i64 k] 37)
  have hth := there_any a k b _ (h.fr0 hFa) ha hb hm
  go_enter Tryd.func62, Tryd.ntmps62
  go_wp2_with (fail)
  refine hth.mono ?_
  rintro e1 w1 ⟨rfl, hF1'⟩
  have hF1 := hFa.trans hF1'
  have h1 := h.fr0 hF1
  have hd := h1.drop hb hD hs hl
  obtain ⟨q0, -, -, -, qf, ql⟩ := h1.cells hb
  have qc := h1.count
  have hfr : Fr (Tof N) w ((w1.setCell ⟨b, 0, none⟩ (.bool false)).setCell ⟨bt, 4, none⟩ (.int .i64 ((C.length : Int) - 1))) := ((hF1.none (Tof N)).setCell (p := ⟨b, 0, none⟩) (fun _ => ⟨a, k, hb⟩) _).setCell (p := ⟨bt, 4, none⟩) (fun _ => ⟨0, 0, h.top⟩) _
  have qcl := h1.len
  have qf4 := (h1.blk 0 0 bt h1.top).frozen 4
  have qtl := (h1.blk 0 0 bt h1.top).lt
  have HD := Lib.hid hd
  have HF := Lib.hid hfr
  clear hth hd hfr h1 h hF1 hD hs hl hm hFa hF1'
  go_wp2
  go_ret
  exact ⟨rfl, HD.out, HF.out⟩

set_option maxRecDepth 100000 in
set_option maxHeartbeats 4000000 in
theorem common_self (a : Int) (w : World) (ha : 0 ≤ a ∧ a < 4294967296) : Calls Tryd.prog 109 #[.agg #[.int .u32 a, .int .i64 32], .agg #[.int .u32 a, .int .i64 32]] w (RetV w (.tuple #[.agg #[.int .u32 a, .int .i64 32], .nilIface])) := by
  have hE : netErr a ((32 : Nat) : Int) = none := by rw [netErr_nat a 32 (by omega), if_neg (by simp)]
  have hX := xor_self32 a
  obtain ⟨W, hW⟩ : ∃ W, W = ((w.alloc (.cells #[.int .u32 a, .int .i64 32] 37)).alloc (.cells #[.int .u32 a, .int .i64 32] 37)).alloc (.cells #[.int .u32 0, .int .i64 0] 37) := ⟨_, rfl⟩
  have hF0 : Fr (fun _ => False) w W := by rw [hW]; exact (((Fr.refl _ _).alloc _).alloc _).alloc _
  have B0 : Blk W.heap w.heap.size 37 [.int .u32 a, .int .i64 32] := by rw [hW]; exact ((Blk.made w 37 [.int .u32 a, .int .i64 32]).alloc _).alloc _
  have B1 : Blk W.heap (w.heap.size + 1) 37 [.int .u32 a, .int .i64 32] := by
    rw [hW]
    have := (Blk.made (w.alloc (.cells #[.int .u32 a, .int .i64 32] 37)) 37 [.int .u32 a, .int .i64 32]).alloc (.cells #[.int .u32 0, .int .i64 0] 37)
    rwa [show (w.alloc (.cells #[.int .u32 a, .int .i64 32] 37)).heap.size = w.heap.size + 1 by simp] at this
  have B2 : Blk W.heap (w.heap.size + 2) 37 [.int .u32 0, .int .i64 0] := by
    rw [hW]
    have := Blk.made ((w.alloc (.cells #[.int .u32 a, .int .i64 32] 37)).alloc (.cells #[.int .u32 a, .int .i64 32] 37)) 37 [.int .u32 0, .int .i64 0]
    rwa [show ((w.alloc (.cells #[.int .u32 a, .int .i64 32] 37)).alloc (.cells #[.int .u32 a, .int .i64 32] 37)).heap.size = w.heap.size + 2 by simp] at this
  go_enter Tryd.func109, Tryd.ntmps109
  go_wp2_with (fail)
  rw [← hW]
  clear hW
  refine (pcheck_any a ((32 : Nat) : Int) W ha).mono ?_
  rintro e1 w1 ⟨rfl, hF1⟩
  rw [hE, show errO none = .nilIface from rfl]
  have hF01 := hF0.trans hF1
  have B0 := B0.fr hF1 (fun h => h)
  have B1 := B1.fr hF1 (fun h => h)
  have B2 := B2.fr hF1 (fun h => h)
  have x0 := B1.cell 0
  have x1 := B1.cell 1
  have xl := B1.lt
  simp only [List.getElem?_cons_succ, List.getElem?_cons_zero] at x0 x1
  clear hF1 hF0
  go_wp2_with (fail)
  refine (pcheck_any a ((32 : Nat) : Int) w1 ha).mono ?_
  rintro e2 w2 ⟨rfl, hF2⟩
  rw [hE, show errO none = .nilIface from rfl]
  have hF02 := hF01.trans hF2
  have B0 := B0.fr hF2 (fun h => h)
  have B1 := B1.fr hF2 (fun h => h)
  have B2 := B2.fr hF2 (fun h => h)
  have qa0 := fun c : Cls (fun _ => False) w2 => (show c.wo.cell? ⟨w.heap.size, 0, none⟩ = some (.int .u32 a) from (B0.fr c.fr (fun h => h)).cell 0)
  have qa1 := fun c : Cls (fun _ => False) w2 => (show c.wo.cell? ⟨w.heap.size, 1, none⟩ = some (.int .i64 32) from (B0.fr c.fr (fun h => h)).cell 1)
  have qb0 := fun c : Cls (fun _ => False) w2 => (show c.wo.cell? ⟨w.heap.size + 1, 0, none⟩ = some (.int .u32 a) from (B1.fr c.fr (fun h => h)).cell 0)
  have qb1 := fun c : Cls (fun _ => False) w2 => (show c.wo.cell? ⟨w.heap.size + 1, 1, none⟩ = some (.int .i64 32) from (B1.fr c.fr (fun h => h)).cell 1)
  have l0 := B0.lt
  have l1 := B1.lt
  have l2 := B2.lt
  have y0 := B0.cell 0
  have y1 := B1.cell 0
  simp only [List.getElem?_cons_zero] at y0 y1
  clear hF01 hF2 x0 x1 xl
  go_wp2
  (refine wp_region_mix (fun w' => ∃ c : Cls (fun _ => False) w2, w' = c.wo) 12 (by kernel_rfl) (by kernel_rfl) (⟨⟨_, (Fr.refl _ _).drew⟩, rfl⟩) ?_; simp only [List.take_succ_cons, List.take_zero, List.drop_succ_cons, List.drop_zero])
  (refine wpMix_lateN 5 (⟨⟨_, (Fr.refl _ _).drew⟩, rfl⟩) (by kernel_rfl) ?_; simp only [List.take_succ_cons, List.take_zero, List.drop_succ_cons, List.drop_zero]; (repeat (go_big_quiet_step (fail))); refine wpQuiet_nil ?_)
  (refine wpMix_earlyN 5 (by kernel_rfl) (by kernel_rfl) ?_; simp only [List.take_succ_cons, List.take_zero, List.drop_succ_cons, List.drop_zero]; (repeat (go_big_quiet_step (fail))); refine wpQuiet_nil ?_)
  refine wpMix_eff (by kernel_rfl) ?_
  go_wp2_with (fail)
  refine (lz32_any 0 _ (by omega) (by omega)).mono ?_
  rintro e3 w3 ⟨rfl, rfl⟩
  rw [show (32 - (Lib.bitLen (0 : Int).toNat : Int)) = 32 by decide]
  have hF23 : Fr (fun _ => False) w2 w2.drew := (Fr.refl _ _).drew
  clear qa0 qa1 qb0 qb1
  go_wp2
  refine ⟨⟨⟨_, hF23⟩, rfl⟩, ?_⟩
  (refine wpMix_lateN 1 (⟨⟨_, (Fr.refl _ _).drew⟩, rfl⟩) (by kernel_rfl) ?_; simp only [List.take_succ_cons, List.take_zero, List.drop_succ_cons, List.drop_zero]; (repeat (go_big_quiet_step (fail))); refine wpQuiet_nil ?_)
  refine wpMix_nil ?_
  go_wp2_with (fail)
  refine (cut_any a 32 32 _ ha (by omega)).mono ?_
  rintro e4 w4 ⟨rfl, hF4⟩
  rw [cutA_32]
  have hF24 : Fr (fun _ => False) w2 w4 := (Fr.refl (fun _ => False) w2).drew.trans hF4
  have B2 := B2.fr hF24 (fun h => h)
  have z0 := B2.cell 0
  have z1 := B2.cell 1
  have z2 := B2.frozen 0
  have z3 := B2.frozen 1
  have z4 := B2.lt
  have hBe := (B2.set 0 (.int .u32 a)).set 1 (.int .i64 32)
  have u0 := hBe.cell 0
  have u1 := hBe.cell 1
  simp only [List.getElem?_cons_succ, List.getElem?_cons_zero, List.set_cons_succ, List.set_cons_zero] at z0 z1 u0 u1
  have HFE := Lib.hid (((hF02.trans hF24).setCell (p := ⟨w.heap.size + 2, 0, none⟩) (fun h => by have h2 : w.heap.size + 2 < w.heap.size := h; omega) (.int .u32 a)).setCell (p := ⟨w.heap.size + 2, 1, none⟩) (fun h => by have h2 : w.heap.size + 2 < w.heap.size := h; omega) (.int .i64 32))
  clear hBe hF24 hF4 hF02
  go_wp2
  refine bodyPost_ret (v := .tuple #[.agg #[.int .u32 a, .int .i64 32], .nilIface]) (by simp [results, Tryd.results109, go_sem, u0, u1]) rfl ?_
  exact RetV.mk rfl rfl HFE.out

/-- The length in a net's block. -/
def lenAt (w : World) (g : Nat) : Nat := match w.cell? ⟨g, 1, none⟩ with
  | some v => (intOf v).toNat
  | none => 0
def FindPost (w : World) (v : Value) (e : Ending) (w' : World) : Prop := e = .returned v ∧ Fr (fun _ => False) w w'
set_option maxRecDepth 100000 in
set_option maxHeartbeats 8000000 in
theorem find_any {base bt : Nat} {N : Int → Nat → Option Nat} {C : List Nt} {V : Nt → Int} (a : Int) (w : World) (h : IsTrie w.heap base bt N C V) (ha : 0 ≤ a ∧ a < 4294967296) :
    Calls Tryd.prog 63 #[.pointer (some ⟨bt, 0, none⟩), .int .u32 a] w (FindPost w (findV C V a)) := by
  have H := Lib.hid h
  have ht := h.top
  have hstart : Hid (.pointer (some ⟨bt, 0, none⟩) = ptrO (N (cutA a 0) 0)) := Lib.hid (by rw [cutA_zero ha, ht]; rfl)
  have B0 : Blk (w.alloc (.cells #[.int .u32 0, .int .i64 0] 37)).heap w.heap.size 37 [.int .u32 0, .int .i64 0] := Blk.made w 37 [.int .u32 0, .int .i64 0]
  have hF0 := (Fr.refl (fun _ => False) w).alloc (.cells #[.int .u32 0, .int .i64 0] 37)
  clear h ht
  obtain ⟨X, hX⟩ : ∃ X, X = findV C V a := ⟨_, rfl⟩
  rw [← hX]
  go_enter Tryd.func63, Tryd.ntmps63
  go_upto_block 0 with (fail)
  go_cut [7, 8, 9] (fun s7 s8 s9 wx => ∃ (b v : Int) (f : Bool), s7 = .int .i64 b ∧ s8 = .int .i64 v ∧ s9 = .bool f ∧ Hid (onWay V a (deepK C a 33) b v f) ∧ Blk wx.heap w.heap.size 37 [.int .u32 0, .int .i64 0] ∧ Fr (fun _ => False) w wx)
  case first =>
    go_wp2
    go_loopw [7, 8, 9, 10, 11] (fun s7 s8 s9 s10 s11 wr => ∃ (i : Nat) (b v : Int) (f : Bool), i ≤ 32 ∧ s7 = .int .i64 b ∧ s8 = .int .i64 v ∧ s9 = .bool f ∧ s11 = .int .i64 i ∧ Hid (s10 = ptrO (N (cutA a i) i)) ∧ Hid (onWay V a (deepK C a i) b v f) ∧ Blk wr.heap w.heap.size 37 [.int .u32 0, .int .i64 0] ∧ Fr (fun _ => False) w wr) (fun _ _ _ _ s _ => 33 - (intOf s).toNat)
    case atStart => exact ⟨0, 0, 0, false, by omega, rfl, rfl, rfl, rfl, hstart, Lib.hid ⟨rfl, rfl, rfl⟩, B0, hF0⟩
    case round =>
      clear B0 hF0 hstart
      obtain ⟨i, b, v, f, hi, rfl, rfl, rfl, rfl, hp, hway, hB, hF⟩ := hrel
      have hT := H.out.fr0 hF
      cases hN : N (cutA a i) i with
      | none =>
        rw [hN] at hp
        obtain rfl := hp.out
        have HW := Lib.hid (show onWay V a (deepK C a 33) b v f by
          have hst : deepK C a (i + (33 - i)) = deepK C a i := deepK_stop (fun j hj hm => by
            obtain ⟨-, q, hq⟩ := H.out.mem _ hm
            simp only [Int.toNat_natCast] at hq
            rw [H.out.none_up hN hj] at hq
            cases hq) _
          rw [show 33 = i + (33 - i) by omega, hst]
          exact hway.out)
        clear hN hT hp hway
        rw [show ptrO none = Value.pointer none from rfl]
        go_wp2
        go_meet
        exact ⟨b, v, f, rfl, rfl, rfl, HW, hB, hF⟩
      | some c =>
        rw [hN] at hp
        obtain rfl := hp.out
        rw [show ptrO (some c) = Value.pointer (some ⟨c, 0, none⟩) from rfl]
        obtain ⟨c0, c1, c2, c3, cf, cl⟩ := hT.cells hN
        obtain ⟨b2, v2, f2, hb2, hway2⟩ : ∃ b2 v2 f2, (if (⟨cutA a i, (i : Int)⟩ : Nt) ∈ C then (b2 = (i : Int) ∧ v2 = V ⟨cutA a i, i⟩ ∧ f2 = true) else (b2 = b ∧ v2 = v ∧ f2 = f)) ∧ Hid (onWay V a (deepK C a (i + 1)) b2 v2 f2) := by
          by_cases hm : (⟨cutA a i, (i : Int)⟩ : Nt) ∈ C
          · refine ⟨i, V ⟨cutA a i, i⟩, true, by rw [if_pos hm]; exact ⟨rfl, rfl, rfl⟩, Lib.hid ?_⟩
            rw [deepK_hit hm]
            exact ⟨rfl, rfl, rfl⟩
          · refine ⟨b, v, f, by rw [if_neg hm]; exact ⟨rfl, rfl, rfl⟩, Lib.hid ?_⟩
            rw [deepK_miss hm]
            exact hway.out
        clear hway cf hp
        have hB0 := Lib.hid hB
        go_upto_if 24 with (fail)
        obtain ⟨hb, hhb⟩ : ∃ hb, hb = decide ((⟨cutA a i, (i : Int)⟩ : Nt) ∈ C) := ⟨_, rfl⟩
        rw [← hhb]
        rw [← hhb] at c0
        have HB2 := Lib.hid hb2
        have HHB := Lib.hid hhb
        clear hb2 hhb
        go_cut [7, 8, 9, 24] (fun s7 s8 s9 s24 wx => s7 = .int .i64 b2 ∧ s8 = .int .i64 v2 ∧ s9 = .bool f2 ∧ ∃ n, wx = wr.drewN n)
        case first =>
          cases hb with
          | true =>
            have hb2 := HB2.out
            rw [if_pos (of_decide_eq_true HHB.out.symm)] at hb2
            obtain ⟨rfl, rfl, rfl⟩ := hb2
            clear HB2 HHB hN
            go_wp2
            go_quiet (fail)
            go_wp2
            go_meet
            exact ⟨rfl, rfl, rfl, _, rfl⟩
          | false =>
            have hb2 := HB2.out
            rw [if_neg (of_decide_eq_false HHB.out.symm)] at hb2
            obtain ⟨rfl, rfl, rfl⟩ := hb2
            clear HB2 HHB hN
            go_wp2
            go_meet
            exact ⟨rfl, rfl, rfl, 0, rfl⟩
        case rest =>
          obtain ⟨rfl, rfl, rfl, n, hwx⟩ := hcut
          clear HB2 HHB c0 c1 c2 c3 cl hB hT
          have hFn := (Fr.refl (fun _ => False) wr).drewN n
          rw [← hwx] at hFn
          have hF2 := hF.trans hFn
          have hBx := hB0.out.fr hFn (fun h => h)
          obtain ⟨-, -, c2, c3, -, cl⟩ := (H.out.fr0 hF2).cells hN
          clear hwx hFn hF hN
          generalize wc = wx at *
          by_cases hi32 : i = 32
          · subst hi32
            clear c2 c3
            go_wp2
            go_meet
            exact ⟨b2, v2, f2, rfl, rfl, rfl, hway2, hBx, hF2⟩
          · have e32 : ((i : Int) == 32) = false := by simp; omega
            have hs := cutA_succ ha (show i < 32 by omega)
            rcases bitA_01 a i with hb | hb
            · have hbit := fun (m : Nat) => (bit_any a i (wx.drewN m) ha (by omega))
              rw [hb] at hbit hs
              have HS := Lib.hid (show cutA a (i + 1) = cutA a i by omega)
              clear hs hb c3
              obtain ⟨u, hu⟩ : ∃ u, u = ptrO (N (cutA a i) (i + 1)) := ⟨_, rfl⟩
              rw [← hu] at c2
              have HU := Lib.hid hu
              clear hu
              go_wp2
              go_quiet (first | (go_at_call 107; exact Calls.quiet_of_same (hbit _)))
              go_wp2
              go_roundw
              case rel => exact ⟨i + 1, b2, v2, f2, by omega, rfl, rfl, rfl, by go_num, Lib.hid (by rw [HS.out]; exact HU.out), hway2, hBx.fr (S := fun _ => False) ((Fr.refl _ _).drewN _) (fun h => h), hF2.drewN _⟩
              case measure => simp [intOf]; omega
            · have hbit := fun (m : Nat) => (bit_any a i (wx.drewN m) ha (by omega))
              rw [hb] at hbit hs
              have HS := Lib.hid (show cutA a (i + 1) = cutA a i + 2 ^ (31 - i) by omega)
              clear hs hb c2
              obtain ⟨u, hu⟩ : ∃ u, u = ptrO (N (cutA a i + 2 ^ (31 - i)) (i + 1)) := ⟨_, rfl⟩
              rw [← hu] at c3
              have HU := Lib.hid hu
              clear hu
              go_wp2
              go_quiet (first | (go_at_call 107; exact Calls.quiet_of_same (hbit _)))
              go_wp2
              go_roundw
              case rel => exact ⟨i + 1, b2, v2, f2, by omega, rfl, rfl, rfl, by go_num, Lib.hid (by rw [HS.out]; exact HU.out), hway2, hBx.fr (S := fun _ => False) ((Fr.refl _ _).drewN _) (fun h => h), hF2.drewN _⟩
              case measure => simp [intOf]; omega
  case rest =>
    clear B0 hF0 hstart
    obtain ⟨b, v, f, rfl, rfl, rfl, hway, hB, hF⟩ := hcut
    generalize wc = w1 at *
    have b0 := hB.cell 0
    have b1 := hB.cell 1
    have f0 := hB.frozen 0
    have f1 := hB.frozen 1
    have bl := hB.lt
    simp only [List.getElem?_cons_zero, List.getElem?_cons_succ] at b0 b1
    cases hd : deepK C a 33 with
    | none =>
      rw [hd] at hway
      obtain ⟨rfl, rfl, rfl⟩ := hway.out
      have HX := Lib.hid (hX.trans (findV_none hd))
      have hBe := (hB.set 0 (.int .u32 0)).set 1 (.int .i64 0)
      have u0 := hBe.cell 0
      have u1 := hBe.cell 1
      simp only [List.getElem?_cons_succ, List.getElem?_cons_zero, List.set_cons_succ, List.set_cons_zero] at u0 u1
      have HFE := Lib.hid ((hF.setCell (p := ⟨w.heap.size, 0, none⟩) (fun h => by have h2 : w.heap.size < w.heap.size := h; omega) (.int .u32 0)).setCell (p := ⟨w.heap.size, 1, none⟩) (fun h => by have h2 : w.heap.size < w.heap.size := h; omega) (.int .i64 0))
      clear hX hd hway hBe hB hF
      go_wp2
      refine bodyPost_ret (v := .tuple #[.agg #[.int .u32 0, .int .i64 0], .int .i64 0, errv 2]) (by simp [results, Tryd.results63, go_sem, u0, u1]; try rfl) rfl ?_
      exact ⟨by rw [HX.out], HFE.out⟩
    | some k =>
      rw [hd] at hway
      obtain ⟨rfl, rfl, rfl⟩ := hway.out
      have HX := Lib.hid (hX.trans (findV_some hd))
      have hk33 := (deepK_mem hd).1
      clear hX hd hway
      go_wp2_with (fail)
      refine (common_self a w1 ha).mono ?_
      rintro e2 w2 ⟨rfl, hF2⟩
      have hB2 := hB.fr hF2 (fun h => h)
      have hF02 := hF.trans hF2
      have hC := Blk.made w2 37 [.int .u32 a, .int .i64 32]
      have hFa := (Fr.refl (fun _ => False) w2).alloc (.cells #[.int .u32 a, .int .i64 32] 37)
      have hB3 := hB2.fr hFa (fun h => h)
      have hF03 := hF02.trans hFa
      have hbl := hB2.lt
      obtain ⟨g, hg⟩ : ∃ g, g = w2.heap.size := ⟨_, rfl⟩
      have hgl : w.heap.size < g := by omega
      clear b0 b1 f0 f1 bl hB hF hF2 hB2 hF02 hFa hbl
      go_wp2
      rw [← hg]
      rw [← hg] at hC
      clear hg
      generalize w2.alloc (.cells #[.int .u32 a, .int .i64 32] 37) = w3 at *
      go_loopw [13] (fun s13 wr => ∃ (j : Nat), k ≤ j ∧ j ≤ 32 ∧ s13 = .nilIface ∧ Blk wr.heap g 37 [.int .u32 (cutA a j), .int .i64 j] ∧ Blk wr.heap w.heap.size 37 [.int .u32 0, .int .i64 0] ∧ Fr (fun _ => False) w wr) (fun _ wr => lenAt wr g)
      case atStart => exact ⟨32, by omega, by omega, rfl, by rw [cutA_32]; exact hC, hB3, hF03⟩
      case round =>
        clear hC hB3 hF03
        obtain ⟨j, hkj, hj, rfl, hC, hB, hF⟩ := hrel
        have c0 := hC.cell 0
        have c1 := hC.cell 1
        have fc0 := hC.frozen 0
        have fc1 := hC.frozen 1
        have gl := hC.lt
        simp only [List.getElem?_cons_zero, List.getElem?_cons_succ] at c0 c1
        have hm0 : lenAt wr g = j := by unfold lenAt; rw [c1]; simp [intOf]
        rw [hm0]
        by_cases hlt : k < j
        · obtain ⟨i, rfl⟩ : ∃ i, j = i + 1 := ⟨j - 1, by omega⟩
          have hup := up_any (cutA a (i + 1)) ((i + 1 : Nat) : Int) wr (cutA_bd ha _)
          rw [show upE (cutA a (i + 1)) ((i + 1 : Nat) : Int) = .ok (cutA a i, (i : Int)) by
            unfold upE
            rw [netErr_cut a (i + 1) hj]
            simp only
            rw [if_neg (by omega), show (((i + 1 : Nat) : Int) - 1).toNat = i by omega, cutA_cut a (Nat.le_succ i) hj, show ((i + 1 : Nat) : Int) - 1 = (i : Int) by omega]] at hup
          clear hm0
          go_wp2_with (fail)
          refine hup.mono ?_
          rintro e4 w4 ⟨rfl, hF4⟩
          have hC4 := hC.fr hF4 (fun h => h)
          have hB4 := hB.fr hF4 (fun h => h)
          have hF04 := hF.trans hF4
          have d0 := hC4.cell 0
          have d1 := hC4.cell 1
          have fd0 := hC4.frozen 0
          have fd1 := hC4.frozen 1
          have dl := hC4.lt
          simp only [List.getElem?_cons_zero, List.getElem?_cons_succ] at d0 d1
          have HCE := Lib.hid ((hC4.set 0 (.int .u32 (cutA a i))).set 1 (.int .i64 i))
          have HBE := Lib.hid ((hB4.other (p := ⟨g, 0, none⟩) (by simp only; omega) (.int .u32 (cutA a i))).other (p := ⟨g, 1, none⟩) (by simp only; omega) (.int .i64 i))
          have HFE := Lib.hid ((hF04.setCell (p := ⟨g, 0, none⟩) (fun h => by have h2 : g < w.heap.size := h; omega) (.int .u32 (cutA a i))).setCell (p := ⟨g, 1, none⟩) (fun h => by have h2 : g < w.heap.size := h; omega) (.int .i64 i))
          clear hC hB hF hF4 hC4 hB4 hF04 c0 c1 fc0 fc1 hup gl
          go_wp2
          go_roundw
          case rel => exact ⟨i, by omega, by omega, rfl, HCE.out, HBE.out, HFE.out⟩
          case measure =>
            have := HCE.out.cell 1
            simp only [List.set_cons_zero, List.set_cons_succ, List.getElem?_cons_zero, List.getElem?_cons_succ] at this
            unfold lenAt
            rw [this]
            simp only [intOf]
            omega
        · obtain rfl : j = k := by omega
          have b0 := hB.cell 0
          have b1 := hB.cell 1
          have f0 := hB.frozen 0
          have f1 := hB.frozen 1
          have bl := hB.lt
          simp only [List.getElem?_cons_zero, List.getElem?_cons_succ] at b0 b1
          have hBe := (hB.set 0 (.int .u32 (cutA a j))).set 1 (.int .i64 j)
          have u0 := hBe.cell 0
          have u1 := hBe.cell 1
          simp only [List.getElem?_cons_succ, List.getElem?_cons_zero, List.set_cons_succ, List.set_cons_zero] at u0 u1
          have HFE := Lib.hid ((hF.setCell (p := ⟨w.heap.size, 0, none⟩) (fun h => by have h2 : w.heap.size < w.heap.size := h; omega) (.int .u32 (cutA a j))).setCell (p := ⟨w.heap.size, 1, none⟩) (fun h => by have h2 : w.heap.size < w.heap.size := h; omega) (.int .i64 j))
          clear hBe hB hF hC hm0
          go_wp2
          refine bodyPost_ret (v := .tuple #[.agg #[.int .u32 (cutA a j), .int .i64 j], .int .i64 (V ⟨cutA a j, j⟩), .nilIface]) (by simp [results, Tryd.results63, go_sem, u0, u1]; try rfl) rfl ?_
          exact ⟨by rw [HX.out], HFE.out⟩
end Go.Proofs.YtfjempfffdeklaaDoor
