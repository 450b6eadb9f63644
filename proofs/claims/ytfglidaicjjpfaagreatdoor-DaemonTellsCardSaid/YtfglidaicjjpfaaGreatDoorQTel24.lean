import Derived.Test.YtfglidaicjjpfaaGreatDoorQTel9
import Derived.Test.YtfglidaicjjpfaaGreatDoorQTel23
import Derived.Test.YtfglidaicjjpfaaGreatDoorErr
section
namespace Go.Proofs.YtfglidaicjjpfaaGreatDoor
open Go.RowKit

set_option maxRecDepth 100000 in
set_option maxHeartbeats 1000000 in
theorem nearFault_any {n : Nat} (costs : List Int) (a : Option Addr) (c : Nat) (w : World) (hr : Ints w.heap a costs) (hn : n = costs.length) (hl : n ≤ 9223372036854775807) :
    Calls Tryz.prog 15 #[.slice a n c] w (RetS w (.int .i64 (numO (nearE costs)))) := by
  subst hn
  obtain ⟨E, hE⟩ : ∃ E, E = nearE costs := ⟨_, rfl⟩
  rw [← hE]
  have HE := Lib.hid hE
  clear hE
  go_enter Tryz.func15, Tryz.ntmps15
  go_wp2
  go_loopw [3] (fun s3 wr => ∃ k : Nat, k ≤ costs.length ∧ s3 = .int .i64 k ∧ w = wr ∧ Hid (∀ j, j < k → j < 8 ∧ 1 ≤ nth costs j ∧ nth costs j ≤ 16)) (fun s _ => costs.length - (intOf s).toNat)
  case atStart => exact ⟨0, by omega, rfl, rfl, Lib.hid (fun j hj => absurd hj (Nat.not_lt_zero _))⟩
  case round =>
    obtain ⟨k, hk, rfl, rfl, hJ⟩ := hrel
    by_cases hlt : k < costs.length
    · obtain ⟨g, o, rfl, hg, hc⟩ := Ints.pos hr (by omega)
      have d := hc w rfl k hlt
      have hm := nth_mem costs k hlt
      obtain ⟨x, hx⟩ : ∃ x, x = nth costs k := ⟨_, rfl⟩
      rw [← hx] at d hm
      have HX := Lib.hid hx
      clear hc hx
      by_cases hbad : 8 ≤ k ∨ x < 1 ∨ 16 < x
      · have HB := Lib.hid (HE.out.trans (show nearE costs = some 1 from if_pos (by
          rcases hbad with h | h
          · exact .inl (by omega)
          · exact .inr ⟨x, hm, h⟩)))
        have q : 8 ≤ k ∨ (k < 8 ∧ x < 1) ∨ (k < 8 ∧ 1 ≤ x ∧ 16 < x) := by omega
        clear hbad hm
        rcases q with q1 | ⟨q1, q2⟩ | ⟨q1, q2, q3⟩
        all_goals
          go_wp2
          go_ret
          exact RetS.mk (x := .int .i64 1) (by rw [HB.out]; rfl) rfl rfl
      · have hJ' := Lib.hid (show ∀ j, j < k + 1 → j < 8 ∧ 1 ≤ nth costs j ∧ nth costs j ≤ 16 from fun j hj => by
          rcases Nat.lt_succ_iff_lt_or_eq.1 hj with h | h
          · exact hJ.out j h
          · subst h; rw [← HX.out]; omega)
        obtain ⟨q1, q2, q3⟩ : k < 8 ∧ 1 ≤ x ∧ x ≤ 16 := by omega
        clear hbad hm
        go_wp2
        go_roundw
        case rel => exact ⟨k + 1, by omega, by go_num, by first | rfl | trivial, hJ'⟩
        case measure => simp [intOf]; omega
    · obtain rfl : k = costs.length := by omega
      have HB := Lib.hid (HE.out.trans (show nearE costs = none from if_neg (fun h => by
        unfold nearBad at h
        rcases h with h | ⟨c, hc, h⟩
        · have := hJ.out 8 h; omega
        · obtain ⟨j, hj, rfl⟩ := List.mem_iff_getElem.1 hc
          have := hJ.out j hj
          rw [nth_eq costs j hj] at this
          omega)))
      go_wp2
      go_ret
      exact RetS.mk (x := .int .i64 0) (by rw [HB.out]; rfl) rfl rfl



set_option maxRecDepth 100000 in
theorem plus_any (c m : Int) (w : World) (hc : 0 ≤ c ∧ c ≤ 1000) (hm : 0 ≤ m ∧ m ≤ 1000) : Calls Tryz.prog 84 #[.int .i64 c, .int .i64 m] w (RetS w (.int .i64 (plusM c m))) := by
  have hv : Hid ((c + m < 16 → plusM c m = c + m) ∧ (16 ≤ c + m → plusM c m = 16)) := Lib.hid ⟨fun h => if_pos h, fun h => if_neg (by omega)⟩
  obtain ⟨P, hP⟩ : ∃ P, P = plusM c m := ⟨_, rfl⟩
  rw [← hP] at hv ⊢
  clear hP
  go_enter Tryz.func84, Tryz.ntmps84
  by_cases h : c + m ≤ 16
  · have HV := Lib.hid (show P = c + m by
      by_cases h2 : c + m < 16
      · exact hv.out.1 h2
      · have := hv.out.2 (by omega); omega)
    go_wp2
    go_ret
    exact RetS.mk (x := .int .i64 (c + m)) (by rw [HV.out]) rfl rfl
  · have h2 : 16 < c + m := by omega
    have HV := Lib.hid (hv.out.2 (by omega))
    clear h
    go_wp2
    go_ret
    exact RetS.mk (x := .int .i64 16) (by rw [HV.out]) rfl rfl

set_option maxRecDepth 100000 in
set_option maxHeartbeats 2000000 in
theorem lastOf_any {M : Nat} (l : List Hea) (al : Option Addr) (cl : Nat) (f a n : Int) (w : World) (hL : Recs w.heap al 4 Hea.cells l) (hll : l.length ≤ 9223372036854775806) (hM : M = l.length) :
    Calls Tryz.prog 85 #[.slice al M cl, .int .i64 f, .agg #[.int .u32 a, .int .i64 n]] w (RetV w (.int .i64 (lastOf l f a n))) := by
  subst hM
  have HL := Lib.hid hL
  clear hL
  go_enter Tryz.func85, Tryz.ntmps85
  go_wp2
  go_loopw [8, 7] (fun s8 s7 wr => ∃ (k : Nat) (v : Int), k ≤ l.length ∧ s8 = .int .i64 k ∧ s7 = .int .i64 v ∧ Blk wr.heap w.heap.size 52 [.int .u32 a, .int .i64 n] ∧ Fr (fun _ => False) w wr ∧ Hid (v = lastOf (l.take k) f a n)) (fun s _ _ => l.length - (intOf s).toNat)
  case atStart => exact ⟨0, 16, by omega, rfl, rfl, Blk.made _ _ _, (Fr.refl _ _).alloc _, Lib.hid rfl⟩
  case round =>
    obtain ⟨k, v, hk, rfl, rfl, hB, hF, hv⟩ := hrel
    have b0 := hB.cell 0
    have b1 := hB.cell 1
    simp only [List.getElem?_cons_succ, List.getElem?_cons_zero] at b0 b1
    have hbl := hB.lt
    by_cases hkl : k < l.length
    · obtain ⟨g, o, rfl, hg, hc⟩ := Recs.pos HL.out Hea.cells_len (by omega) (by omega)
      have dd := fun (j : Nat) (hj : j < 4) => (hF.cell (p := ⟨g, o + (k * 4 + j), none⟩) hg (fun h => h)).trans (hc w rfl k j hkl hj)
      have d0 := dd 0 (by omega)
      have d1 := dd 1 (by omega)
      have d2 := dd 2 (by omega)
      have d3 := dd 3 (by omega)
      have htk : lastOf (l.take (k + 1)) f a n = if (nth l k).f = f ∧ (nth l k).a = a ∧ (nth l k).n = n then (nth l k).m else lastOf (l.take k) f a n := by
        unfold lastOf
        rw [take_succ_nth l k hkl, lastO_snoc]
        split <;> rfl
      generalize nth l k = x at *
      obtain ⟨xf, xa, xn, xm⟩ := x
      simp only [Hea.cells, List.getElem?_cons_zero, List.getElem?_cons_succ, ← Nat.add_assoc, Nat.add_zero] at d0 d1 d2 d3
      simp only at htk
      clear dd hc
      by_cases hm : xf = f ∧ xa = a ∧ xn = n
      · rw [if_pos hm] at htk
        have HT := Lib.hid htk
        have e1 : (xf == f) = true := by simp [hm.1]
        have e2 : (xa == a) = true := by simp [hm.2.1]
        have e3 : (xn == n) = true := by simp [hm.2.2]
        clear htk hm
        go_wp2
        go_quiet (fail)
        go_wp2
        go_roundw
        case rel => exact ⟨k + 1, xm, by omega, by go_num, rfl, hB.fr (S := fun _ => False) ((Fr.refl _ _).drewN _) (fun h => h), hF.drewN _, Lib.hid (by rw [HT.out])⟩
        case measure => simp [intOf]; omega
      · rw [if_neg hm] at htk
        have HT := Lib.hid htk
        have q : (xf == f) = false ∨ ((xf == f) = true ∧ ((xa == a) = false ∨ ((xa == a) = true ∧ (xn == n) = false))) := by
          simp only [beq_eq_false_iff_ne, beq_iff_eq, ne_eq]
          omega
        clear htk hm
        rcases q with e1 | ⟨e1, e2 | ⟨e2, e3⟩⟩
        all_goals
          go_wp2
          go_quiet (fail)
          go_wp2
          go_roundw
          case rel => exact ⟨k + 1, v, by omega, by go_num, rfl, hB.fr (S := fun _ => False) ((Fr.refl _ _).drewN _) (fun h => h), hF.drewN _, Lib.hid (by rw [HT.out]; exact hv.out)⟩
          case measure => simp [intOf]; omega
    · obtain rfl : k = l.length := by omega
      have hv2 := Lib.hid (show v = lastOf l f a n by have := hv.out; rwa [List.take_length] at this)
      go_wp2
      go_ret
      exact RetV.mk (x := .int .i64 v) (by rw [hv2.out]) rfl hF
end Go.Proofs.YtfglidaicjjpfaaGreatDoor
end

section
namespace Go.Proofs.YtfglidaicjjpfaaGreatDoor
open Go.RowKit

theorem lastOf_bd {l : List Hea} (h : ∀ x ∈ l, 1 ≤ x.m ∧ x.m ≤ 16) (f a n : Int) : 1 ≤ lastOf l f a n ∧ lastOf l f a n ≤ 16 := by
  unfold lastOf
  cases hl : lastO l f a n with
  | none => exact ⟨by decide, by decide⟩
  | some m => exact lastO_bd h hl
/-- How far by each neighbour. -/
def pOf (l : List Hea) (costs : List Int) (a n : Int) (k : Nat) : Int := plusM (nth costs k) (lastOf l k a n)
theorem bestM_eq {l : List Hea} {costs : List Int} (a n : Int) (hl : ∀ x ∈ l, 1 ≤ x.m ∧ x.m ≤ 16) (hc : ∀ c ∈ costs, 1 ≤ c ∧ c ≤ 16) : bestM l costs a n = (mK (pOf l costs a n) costs.length, hopsK (pOf l costs a n) (mK (pOf l costs a n) costs.length) costs.length) :=
  chK_eq (fun i => lastO l i a n) costs (pOf l costs a n) (fun _ _ => rfl) hc (fun _ _ h => lastO_bd hl h) costs.length (Nat.le_refl _)

set_option maxRecDepth 100000 in
set_option maxHeartbeats 16000000 in
theorem bestOf_any {N M : Nat} (l : List Hea) (al : Option Addr) (cl : Nat) (costs : List Int) (ac : Option Addr) (cc : Nat) (a n : Int) (w : World) (hL : Recs w.heap al 4 Hea.cells l) (hlb : ∀ x ∈ l, 1 ≤ x.m ∧ x.m ≤ 16) (hll : l.length ≤ 9223372036854775806) (hr : Ints w.heap ac costs) (hl8 : costs.length ≤ 8) (hc : ∀ c ∈ costs, 1 ≤ c ∧ c ≤ 16) (hM : M = l.length) (hN : N = costs.length) :
    Calls Tryz.prog 58 #[.slice al M cl, .slice ac N cc, .agg #[.int .u32 a, .int .i64 n]] w (RetBest w a n (bestM l costs a n)) := by
  subst hM
  subst hN
  rw [bestM_eq a n hlb hc]
  obtain ⟨p, hp⟩ : ∃ p, p = pOf l costs a n := ⟨_, rfl⟩
  rw [← hp]
  have HP := Lib.hid hp
  have HL := Lib.hid hL
  have HR := Lib.hid hr
  have HC := Lib.hid hc
  have HLB := Lib.hid hlb
  clear hp hL hr hc hlb
  go_enter Tryz.func58, Tryz.ntmps58
  go_wp2
  go_loopw [8] (fun s8 wr => ∃ (k : Nat) (met : Int), k ≤ costs.length ∧ s8 = .int .i64 k ∧ Blk wr.heap w.heap.size 52 [.int .u32 a, .int .i64 n] ∧ Blk wr.heap (w.heap.size + 1) 66 [.int .u32 0, .int .i64 0, .int .i64 0, .slice none 0 0] ∧ Blk wr.heap (w.heap.size + 2) 66 [.int .u32 a, .int .i64 n, .int .i64 met, .slice none 0 0] ∧ Fr (fun _ => False) w wr ∧ Hid (met = mK p k)) (fun s _ => costs.length - (intOf s).toNat)
  case atStart =>
    refine ⟨0, 16, by omega, rfl, ((Blk.made _ _ _).alloc _).alloc _, ?_, ?_, (((Fr.refl _ _).alloc _).alloc _).alloc _, Lib.hid rfl⟩
    · have := (Blk.made (w.alloc (.cells #[.int .u32 a, .int .i64 n] 52)) 66 [.int .u32 0, .int .i64 0, .int .i64 0, .slice none 0 0]).alloc (.cells #[.int .u32 a, .int .i64 n, .int .i64 16, .slice none 0 0] 66)
      rwa [show (w.alloc (.cells #[.int .u32 a, .int .i64 n] 52)).heap.size = w.heap.size + 1 by simp] at this
    · have := Blk.made ((w.alloc (.cells #[.int .u32 a, .int .i64 n] 52)).alloc (.cells #[.int .u32 0, .int .i64 0, .int .i64 0, .slice none 0 0] 66)) 66 [.int .u32 a, .int .i64 n, .int .i64 16, .slice none 0 0]
      rwa [show ((w.alloc (.cells #[.int .u32 a, .int .i64 n] 52)).alloc (.cells #[.int .u32 0, .int .i64 0, .int .i64 0, .slice none 0 0] 66)).heap.size = w.heap.size + 2 by simp] at this
  case round =>
    obtain ⟨k, met, hk, rfl, hB, hR, hT, hF, hm⟩ := hrel
    have b0 := hB.cell 0
    have b1 := hB.cell 1
    have t0 := hT.cell 0
    have t1 := hT.cell 1
    have t2 := hT.cell 2
    have t3 := hT.cell 3
    have f2 := hT.frozen 2
    have f3 := hT.frozen 3
    simp only [List.getElem?_cons_succ, List.getElem?_cons_zero] at b0 b1 t0 t1 t2 t3
    have hbl := hT.lt
    by_cases hkl : k < costs.length
    · obtain ⟨g, o, rfl, hg, hcc⟩ := Ints.pos HR.out (by omega)
      have hms : mK p (k + 1) = if p k < mK p k then p k else mK p k := rfl
      have hpk : p k = plusM (nth costs k) (lastOf l k a n) := by rw [HP.out]; rfl
      have hcb := HC.out _ (nth_mem costs k hkl)
      have hlo := lastOf_bd HLB.out k a n
      have dC := fun c : Cls (fun _ => False) wr => (c.fr.cell (p := ⟨g, o + k, none⟩) (Nat.lt_of_lt_of_le hg hF.size) (fun h => h)).trans ((hF.cell (p := ⟨g, o + k, none⟩) hg (fun h => h)).trans (hcc w rfl k hkl))
      have tC := fun c : Cls (fun _ => False) wr => (c.fr.cell (p := ⟨w.heap.size + 2, 2, none⟩) hbl (fun h => h)).trans t2
      rw [← hm.out] at hms
      obtain ⟨P, hP⟩ : ∃ P, P = p k := ⟨_, rfl⟩
      rw [← hP] at hms hpk
      generalize nth costs k = x at *
      have HMS := Lib.hid hms
      have HPK := Lib.hid hpk
      have hL1 := HL.out.fr0 hF.drew (fun _ _ h => h)
      have hmet : met ≤ 16 := by rw [hm.out]; exact (mK_le p k).1
      clear hcc hms hpk hP
      go_wp2
      (refine wp_region_mix (fun w' => ∃ c : Cls (fun _ => False) wr, w' = c.wo) 11 (by kernel_rfl) (by kernel_rfl) (⟨⟨_, (Fr.refl _ _).drew⟩, rfl⟩) ?_; simp only [List.take_succ_cons, List.take_zero, List.drop_succ_cons, List.drop_zero])
      (refine wpMix_lateN 6 (⟨⟨_, (Fr.refl _ _).drew⟩, rfl⟩) (by kernel_rfl) ?_; simp only [List.take_succ_cons, List.take_zero, List.drop_succ_cons, List.drop_zero]; (repeat (go_big_quiet_step (fail))); refine wpQuiet_nil ?_)
      (refine wpMix_earlyN 3 (by kernel_rfl) (by kernel_rfl) ?_; simp only [List.take_succ_cons, List.take_zero, List.drop_succ_cons, List.drop_zero]; (repeat (go_big_quiet_step (fail))); refine wpQuiet_nil ?_)
      refine wpMix_eff (by kernel_rfl) ?_
      go_wp2_with (fail)
      refine (lastOf_any l al cl k a n wr.drew hL1 hll rfl).mono ?_
      rintro e1 w1 ⟨rfl, hF1⟩
      have hF11 : Fr (fun _ => False) wr w1 := (Fr.refl (fun _ => False) wr).drew.trans hF1
      clear hF1
      go_wp2
      refine ⟨⟨⟨_, hF11⟩, rfl⟩, ?_⟩
      refine wpMix_eff (by kernel_rfl) ?_
      go_wp2_with (fail)
      refine (plus_any x (lastOf l k a n) w1 (by omega) (by omega)).mono ?_
      rintro e2 w2 ⟨rfl, rfl⟩
      rw [← HPK.out]
      go_wp2
      refine ⟨⟨⟨_, hF11⟩, rfl⟩, ?_⟩
      refine wpMix_nil ?_
      have hB2 := hB.fr hF11 (fun h => h)
      have hR2 := hR.fr hF11 (fun h => h)
      have hT2 := hT.fr hF11 (fun h => h)
      have hF2 := hF.trans hF11
      have u2 := hT2.cell 2
      have v2 := hT2.frozen 2
      have hbl2 := hT2.lt
      simp only [List.getElem?_cons_succ, List.getElem?_cons_zero] at u2
      clear hB hR hT hF hF11 dC tC hL1
      by_cases hmin : met ≤ P
      · have HV := Lib.hid (show mK p (k + 1) = met by rw [HMS.out, if_neg (by omega)])
        have HT2 := Lib.hid (hT2.set 2 (.int .i64 met))
        have HB2 := Lib.hid (hB2.other (p := ⟨w.heap.size + 2, 2, none⟩) (by simp) (.int .i64 met))
        have HR2 := Lib.hid (hR2.other (p := ⟨w.heap.size + 2, 2, none⟩) (by simp) (.int .i64 met))
        have HF2 := Lib.hid (hF2.setCell (p := ⟨w.heap.size + 2, 2, none⟩) (fun h => by have h2 : w.heap.size + 2 < w.heap.size := h; omega) (.int .i64 met))
        clear hT2 hB2 hR2 hF2
        go_wp2
        go_roundw
        case rel => exact ⟨k + 1, met, by omega, by go_num, HB2.out, HR2.out, HT2.out, HF2.out, Lib.hid (by rw [HV.out])⟩
        case measure => simp [intOf]; omega
      · have hmin2 : P < met := by omega
        have HV := Lib.hid (show mK p (k + 1) = P by rw [HMS.out, if_pos hmin2])
        have HT2 := Lib.hid (hT2.set 2 (.int .i64 P))
        have HB2 := Lib.hid (hB2.other (p := ⟨w.heap.size + 2, 2, none⟩) (by simp) (.int .i64 P))
        have HR2 := Lib.hid (hR2.other (p := ⟨w.heap.size + 2, 2, none⟩) (by simp) (.int .i64 P))
        have HF2 := Lib.hid (hF2.setCell (p := ⟨w.heap.size + 2, 2, none⟩) (fun h => by have h2 : w.heap.size + 2 < w.heap.size := h; omega) (.int .i64 P))
        clear hT2 hB2 hR2 hF2 hmin
        go_wp2
        go_roundw
        case rel => exact ⟨k + 1, P, by omega, by go_num, HB2.out, HR2.out, HT2.out, HF2.out, Lib.hid (by rw [HV.out])⟩
        case measure => simp [intOf]; omega
    · obtain rfl : k = costs.length := by omega
      rw [← hm.out]
      have HMM := Lib.hid hm.out
      clear b0 b1 t0 t1 t2 t3 f2 f3
      go_wp2
      go_loopw [9] (fun s9 wr => ∃ (k m : Nat) (ah : Option Addr) (ch : Nat) (ob : Option Nat) (xs : List Value), k ≤ costs.length ∧ s9 = .int .i64 k ∧ Blk wr.heap w.heap.size 52 [.int .u32 a, .int .i64 n] ∧ CB wr.heap w.heap.size a n met ah m ch ob xs ∧ Fr (fun _ => False) w wr ∧ Hid (m = (hopsK p met k).length ∧ xs = ivals .i64 (hopsK p met k))) (fun s _ => costs.length - (intOf s).toNat)
      case atStart => exact ⟨0, 0, none, 0, none, [], by omega, rfl, hB, ⟨hT, hR, Ownd.nil _ _ _, (fun _ h => nomatch h)⟩, hF, Lib.hid ⟨rfl, rfl⟩⟩
      case round =>
        clear hB hR hT hF hkl hk hbl
        obtain ⟨k, m, ah, ch, ob, xs, hk, rfl, hB, hC, hF, hX⟩ := hrel
        have b0 := hB.cell 0
        have b1 := hB.cell 1
        have t0 := hC.b.cell 0
        have t1 := hC.b.cell 1
        have t2 := hC.b.cell 2
        have t3 := hC.b.cell 3
        have f3 := hC.b.frozen 3
        have r0 := hC.r.cell 0
        have r1 := hC.r.cell 1
        have r2 := hC.r.cell 2
        have r3 := hC.r.cell 3
        have g0 := hC.r.frozen 0
        have g1 := hC.r.frozen 1
        have g2 := hC.r.frozen 2
        have g3 := hC.r.frozen 3
        simp only [List.getElem?_cons_succ, List.getElem?_cons_zero] at b0 b1 t0 t1 t2 t3 r0 r1 r2 r3
        have hbl := hC.b.lt
        have hm4 := (hopsK_len p met k).1
        rw [← hX.out.1] at hm4
        by_cases hkl : k < costs.length
        · obtain ⟨g, o, rfl, hg, hcc⟩ := Ints.pos HR.out (by omega)
          have hhs : hopsK p met (k + 1) = if met < 16 ∧ p k = met ∧ (hopsK p met k).length < 4 then hopsK p met k ++ [(k : Int)] else hopsK p met k := rfl
          have hpk : p k = plusM (nth costs k) (lastOf l k a n) := by rw [HP.out]; rfl
          have hcb := HC.out _ (nth_mem costs k hkl)
          have hlo := lastOf_bd HLB.out k a n
          have dC := fun c : Cls (fun _ => False) wr => (c.fr.cell (p := ⟨g, o + k, none⟩) (Nat.lt_of_lt_of_le hg hF.size) (fun h => h)).trans ((hF.cell (p := ⟨g, o + k, none⟩) hg (fun h => h)).trans (hcc w rfl k hkl))
          have tC := fun c : Cls (fun _ => False) wr => (c.fr.cell (p := ⟨w.heap.size + 2, 2, none⟩) (Nat.lt_of_lt_of_le hbl (Nat.le_refl _)) (fun h => h)).trans t2
          obtain ⟨P, hP⟩ : ∃ P, P = p k := ⟨_, rfl⟩
          rw [← hP] at hhs hpk
          rw [← hX.out.1] at hhs
          generalize nth costs k = x at *
          have HHS := Lib.hid hhs
          have HPK := Lib.hid hpk
          have hL1 := HL.out.fr0 hF.drew (fun _ _ h => h)
          clear hcc hhs hpk hP
          by_cases c1 : met < 16
          · have e1 : decide (met < 16) = true := decide_eq_true c1
            go_wp2
            (refine wp_region_mix (fun w' => ∃ c : Cls (fun _ => False) wr, w' = c.wo) 15 (by kernel_rfl) (by kernel_rfl) (⟨⟨_, (Fr.refl _ _).drew⟩, rfl⟩) ?_; simp only [List.take_succ_cons, List.take_zero, List.drop_succ_cons, List.drop_zero])
            (refine wpMix_earlyN 4 (by kernel_rfl) (by kernel_rfl) ?_; simp only [List.take_succ_cons, List.take_zero, List.drop_succ_cons, List.drop_zero]; (repeat (go_big_quiet_step (fail))); refine wpQuiet_nil ?_)
            (refine wpMix_lateN 4 (⟨⟨_, (Fr.refl _ _).drew⟩, rfl⟩) (by kernel_rfl) ?_; simp only [List.take_succ_cons, List.take_zero, List.drop_succ_cons, List.drop_zero]; (repeat (go_big_quiet_step (fail))); refine wpQuiet_nil ?_)
            (refine wpMix_earlyN 3 (by kernel_rfl) (by kernel_rfl) ?_; simp only [List.take_succ_cons, List.take_zero, List.drop_succ_cons, List.drop_zero]; (repeat (go_big_quiet_step (fail))); refine wpQuiet_nil ?_)
            refine wpMix_eff (by kernel_rfl) ?_
            go_wp2_with (fail)
            refine (lastOf_any l al cl k a n wr.drew hL1 hll rfl).mono ?_
            rintro e3 w1 ⟨rfl, hF1⟩
            have hF11 : Fr (fun _ => False) wr w1 := (Fr.refl (fun _ => False) wr).drew.trans hF1
            clear hF1
            go_wp2
            refine ⟨⟨⟨_, hF11⟩, rfl⟩, ?_⟩
            refine wpMix_eff (by kernel_rfl) ?_
            go_wp2_with (fail)
            refine (plus_any x (lastOf l k a n) w1 (by omega) (by omega)).mono ?_
            rintro e2 w2 ⟨rfl, rfl⟩
            rw [← HPK.out]
            go_wp2
            refine ⟨⟨⟨_, hF11⟩, rfl⟩, ?_⟩
            (refine wpMix_lateN 2 (⟨⟨_, (Fr.refl _ _).drew⟩, rfl⟩) (by kernel_rfl) ?_; simp only [List.take_succ_cons, List.take_zero, List.drop_succ_cons, List.drop_zero]; (repeat (go_big_quiet_step (fail))); refine wpQuiet_nil ?_)
            refine wpMix_nil ?_
            have hB2 := hB.fr hF11 (fun h => h)
            have hC2 := hC.fr0 hF11
            have hF2 := hF.trans hF11
            have u3 := hC2.b.cell 3
            have v3 := hC2.b.frozen 3
            have hbl2 := hC2.b.lt
            simp only [List.getElem?_cons_succ, List.getElem?_cons_zero] at u3
            clear hB hC hF hF11 dC tC hL1
            by_cases c2 : P = met
            · have e2 : (P == met) = true := by simp [c2]
              by_cases c3 : m < 4
              · have HS := Lib.hid (show hopsK p met (k + 1) = hopsK p met k ++ [(k : Int)] by rw [HHS.out, if_pos ⟨c1, c2, c3⟩])
                have e3 : decide (m < 4) = true := decide_eq_true c3
                have hrd := rd_lit w1 3 [.int .i64 k]
                have HBs := Lib.hid (hC2.b.alloc (.cells #[.int .i64 k] 3))
                have HRs := Lib.hid (hC2.r.alloc (.cells #[.int .i64 k] 3))
                have HNs := Lib.hid (hB2.alloc (.cells #[.int .i64 k] 3))
                have HFs := Lib.hid (hF2.alloc (.cells #[.int .i64 k] 3))
                have hOs := hC2.o.alloc (.cells #[.int .i64 k] 3)
                have hNo := hC2.new
                clear c2 hC2 hB2 hF2
                go_wp2_with (at_builtin; refine wpList_app rfl _ _ 22 rfl Tryz.underlying22 infoInt rfl (by decide) rfl rfl hOs hrd (by simp [Value.oneCell']) (by omega) (by omega) ?_)
                intro a7 c7 w7 ob7 z1 z2 z3
                have hB7 := HBs.out.fr z2 (fun h => by have := hNo _ h; omega)
                have hR7 := HRs.out.fr z2 (fun h => by have := hNo _ h; omega)
                have hNt := HNs.out.fr z2 (fun h => by have := hNo _ h; omega)
                have hF7 := HFs.out.trans' z2 (fun i hi h => by have := hNo _ h; omega)
                have hN7 : ∀ g, ob7 = some g → w.heap.size + 3 ≤ g := app_new hNo z3 (by simp; omega)
                have y3 := hB7.cell 3
                have v7 := hB7.frozen 3
                have hbl7 := hB7.lt
                simp only [List.getElem?_cons_succ, List.getElem?_cons_zero] at y3
                have HC7 : Hid (CB (w7.setCell ⟨w.heap.size + 2, 3, none⟩ (.slice a7 (m + 1) c7)).heap w.heap.size a n met a7 (m + 1) c7 ob7 (xs ++ [.int .i64 k])) := Lib.hid ⟨hB7.set 3 _, hR7.other (p := ⟨w.heap.size + 2, 3, none⟩) (by simp) _, z1.other (p := ⟨w.heap.size + 2, 3, none⟩) (fun h => by have h2 : ob7 = some (w.heap.size + 2) := h; have := hN7 _ h2; omega) _, hN7⟩
                have HN7 := Lib.hid (hNt.other (p := ⟨w.heap.size + 2, 3, none⟩) (by simp) (.slice a7 (m + 1) c7))
                have HF7 := Lib.hid (hF7.setCell (p := ⟨w.heap.size + 2, 3, none⟩) (fun h => by have h2 : w.heap.size + 2 < w.heap.size := h; omega) (.slice a7 (m + 1) c7))
                clear z1 z2 z3 hB7 hR7 hNt hF7 HBs HRs HNs HFs hrd hOs
                go_wp2
                go_roundw
                case rel => exact ⟨k + 1, m + 1, a7, c7, ob7, _, by omega, by go_num, HN7.out, HC7.out, HF7.out, Lib.hid (by rw [HS.out]; exact ⟨by simp only [List.length_append, ← hX.out.1]; rfl, by rw [hX.out.2]; simp [ivals]⟩)⟩
                case measure => simp [intOf]; omega
              · have HS := Lib.hid (show hopsK p met (k + 1) = hopsK p met k by rw [HHS.out, if_neg (fun h => c3 h.2.2)])
                have e3 : decide (m < 4) = false := decide_eq_false c3
                clear c2
                go_wp2
                go_roundw
                case rel => exact ⟨k + 1, m, ah, ch, ob, xs, by omega, by go_num, hB2, hC2, hF2, by rw [HS.out]; exact hX⟩
                case measure => simp [intOf]; omega
            · have HS := Lib.hid (show hopsK p met (k + 1) = hopsK p met k by rw [HHS.out, if_neg (fun h => c2 h.2.1)])
              have e2 : (P == met) = false := by simp [c2]
              clear c2
              go_wp2
              go_roundw
              case rel => exact ⟨k + 1, m, ah, ch, ob, xs, by omega, by go_num, hB2, hC2, hF2, by rw [HS.out]; exact hX⟩
              case measure => simp [intOf]; omega
          · have HS := Lib.hid (show hopsK p met (k + 1) = hopsK p met k by rw [HHS.out, if_neg (fun h => c1 h.1)])
            have e1 : decide (met < 16) = false := decide_eq_false c1
            go_wp2
            go_quiet (fail)
            have hFd := (Fr.refl (fun _ => False) wr).drewN nq
            have hB2 := hB.fr hFd (fun h => h)
            have hC2 := hC.fr0 hFd
            have hF2 := hF.drewN nq
            clear hB hC hF hFd dC tC hL1
            go_wp2
            go_roundw
            case rel => exact ⟨k + 1, m, ah, ch, ob, xs, by omega, by go_num, hB2, hC2, hF2, by rw [HS.out]; exact hX⟩
            case measure => simp [intOf]; omega
        · obtain rfl : k = costs.length := by omega
          have hBe := (((hC.r.set 0 (.int .u32 a)).set 1 (.int .i64 n)).set 2 (.int .i64 met)).set 3 (.slice ah m ch)
          have y0 := hBe.cell 0
          have y1 := hBe.cell 1
          have y2 := hBe.cell 2
          have y3 := hBe.cell 3
          simp only [List.getElem?_cons_succ, List.getElem?_cons_zero, List.set_cons_succ, List.set_cons_zero] at y0 y1 y2 y3
          have hne : ∀ j, ob ≠ some (⟨w.heap.size + 1, j, none⟩ : Addr).block := fun j h => by have h2 : ob = some (w.heap.size + 1) := h; have := hC.new _ h2; omega
          have HOe := Lib.hid ((((hC.o.other (hne 0) (.int .u32 a)).other (hne 1) (.int .i64 n)).other (hne 2) (.int .i64 met)).other (hne 3) (.slice ah m ch))
          have hlt : ∀ j, (⟨w.heap.size + 1, j, none⟩ : Addr).block < w.heap.size → False := fun j h => by have h2 : w.heap.size + 1 < w.heap.size := h; omega
          have HFe := Lib.hid ((((hF.setCell (hlt 0) (.int .u32 a)).setCell (hlt 1) (.int .i64 n)).setCell (hlt 2) (.int .i64 met)).setCell (hlt 3) (.slice ah m ch))
          have hNe := hC.new
          clear hC hF hBe hne hlt
          go_wp2
          refine bodyPost_ret (v := .agg #[.int .u32 a, .int .i64 n, .int .i64 met, .slice ah m ch]) (by simp [results, Tryz.results58, go_sem, y0, y1, y2, y3]) rfl ?_
          exact RetBest.mk rfl (by first | exact HMM.out | rfl) (hX.out.1.trans (by first | rfl | rw [HMM.out])) (hX.out.2.trans (by first | rfl | rw [HMM.out])) HOe.out HFe.out (fun g hg => by have := hNe g hg; omega)
end Go.Proofs.YtfglidaicjjpfaaGreatDoor
end

section
namespace Go.Proofs.YtfglidaicjjpfaaGreatDoor
open Go.RowKit

set_option maxRecDepth 100000 in
theorem ten3_any (w : World) : Calls Tryz.prog 29 #[] w (fun e w' => e = .returned (.agg #[.int .u32 167772160, .int .i64 8]) ∧ w' = w.alloc (.cells #[.int .u32 167772160, .int .i64 8] 52)) := by
  go_enter Tryz.func29, Tryz.ntmps29
  go_wp2
  exact bodyPost_ret (v := .agg #[.int .u32 167772160, .int .i64 8]) (by simp [results, Tryz.results29, go_sem]) rfl ⟨rfl, rfl⟩
end Go.Proofs.YtfglidaicjjpfaaGreatDoor
end
