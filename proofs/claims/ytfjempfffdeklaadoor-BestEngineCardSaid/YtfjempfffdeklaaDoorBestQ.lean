import Derived.Test.YtfjempfffdeklaaDoorBestB
import Derived.Test.YtfjempfffdeklaaDoorNetFault
namespace Go.Proofs.YtfjempfffdeklaaDoor
open Go.RowKit

set_option maxRecDepth 100000 in
set_option maxHeartbeats 1000000 in
theorem nearFault_any {n : Nat} (costs : List Int) (a : Option Addr) (c : Nat) (w : World) (hr : Ints w.heap a costs) (hn : n = costs.length) (hl : n ≤ 9223372036854775807) :
    Calls Tryd.prog 22 #[.slice a n c] w (RetS w (.int .i64 (numO (nearE costs)))) := by
  subst hn
  obtain ⟨E, hE⟩ : ∃ E, E = nearE costs := ⟨_, rfl⟩
  rw [← hE]
  have HE := Lib.hid hE
  clear hE
  go_enter Tryd.func22, Tryd.ntmps22
  go_wp2
  go_loopw [3] (fun s3 wr => ∃ k : Nat, k ≤ costs.length ∧ s3 = .int .i64 k ∧ w = wr ∧ Hid (∀ j, j < k → j < 8 ∧ 1 ≤ nth costs j ∧ nth costs j ≤ 16)) (fun s _ => costs.length - (intOf s).toNat)
  case atStart => exact ⟨0, by omega, rfl, rfl, Lib.hid (fun j hj => absurd hj (Nat.not_lt_zero _))⟩
  case round =>
    obtain ⟨k, hk, rfl, rfl, hJ⟩ := hrel
    by_cases hlt : k < costs.length
    · obtain ⟨g, o, rfl, hg, hc⟩ := Ints.pos hr (by omega)
      have d := hc w rfl k hlt
      have hm := nth_mem costs k hlt
      obtain ⟨x, hx⟩ : ∃ x, x = nth costs k := ⟨_, rfl⟩
      rw [← hx] at d hm
      have HX := Lib.hid hx
      clear hc hx
      by_cases hbad : 8 ≤ k ∨ x < 1 ∨ 16 < x
      · have HB := Lib.hid (HE.out.trans (show nearE costs = some 1 from if_pos (by
          rcases hbad with h | h
          · exact .inl (by omega)
          · exact .inr ⟨x, hm, h⟩)))
        have q : 8 ≤ k ∨ (k < 8 ∧ x < 1) ∨ (k < 8 ∧ 1 ≤ x ∧ 16 < x) := by omega
        clear hbad hm
        rcases q with q1 | ⟨q1, q2⟩ | ⟨q1, q2, q3⟩
        all_goals
          go_wp2
          go_ret
          exact RetS.mk (x := .int .i64 1) (by rw [HB.out]; rfl) rfl rfl
      · have hJ' := Lib.hid (show ∀ j, j < k + 1 → j < 8 ∧ 1 ≤ nth costs j ∧ nth costs j ≤ 16 from fun j hj => by
          rcases Nat.lt_succ_iff_lt_or_eq.1 hj with h | h
          · exact hJ.out j h
          · subst h; rw [← HX.out]; omega)
        obtain ⟨q1, q2, q3⟩ : k < 8 ∧ 1 ≤ x ∧ x ≤ 16 := by omega
        clear hbad hm
        go_wp2
        go_roundw
        case rel => exact ⟨k + 1, by omega, by go_num, by first | rfl | trivial, hJ'⟩
        case measure => simp [intOf]; omega
    · obtain rfl : k = costs.length := by omega
      have HB := Lib.hid (HE.out.trans (show nearE costs = none from if_neg (fun h => by
        unfold nearBad at h
        rcases h with h | ⟨c, hc, h⟩
        · have := hJ.out 8 h; omega
        · obtain ⟨j, hj, rfl⟩ := List.mem_iff_getElem.1 hc
          have := hJ.out j hj
          rw [nth_eq costs j hj] at this
          omega)))
      go_wp2
      go_ret
      exact RetS.mk (x := .int .i64 0) (by rw [HB.out]; rfl) rfl rfl

set_option maxRecDepth 100000 in
set_option maxHeartbeats 1000000 in
theorem heardFault_any (h : Hea) (N : Nat) (ac : Option Addr) (cc : Nat) (w : World) (ha : 0 ≤ h.a ∧ h.a < 4294967296) :
    Calls Tryd.prog 23 #[.agg #[.int .i64 h.f, .int .u32 h.a, .int .i64 h.n, .int .i64 h.m], .slice ac N cc] w (RetV w (.int .i64 (numO (heardE N h)))) := by
  obtain ⟨f, a, n, m⟩ := h
  obtain ⟨E, hE⟩ : ∃ E, E = heardE N ⟨f, a, n, m⟩ := ⟨_, rfl⟩
  rw [← hE]
  have HE := Lib.hid hE
  simp only at ha
  have hF := (Fr.refl (fun _ => False) w).alloc (.cells #[.int .i64 f, .int .u32 a, .int .i64 n, .int .i64 m] 51)
  have hB := Blk.made w 51 [.int .i64 f, .int .u32 a, .int .i64 n, .int .i64 m]
  clear hE
  by_cases hf : f < 0 ∨ (N : Int) ≤ f
  · have HB := Lib.hid (HE.out.trans (show heardE N ⟨f, a, n, m⟩ = some 1 from if_pos hf))
    have q : f < 0 ∨ (0 ≤ f ∧ (N : Int) ≤ f) := by omega
    clear hf
    rcases q with q1 | ⟨q1, q2⟩
    all_goals
      go_enter Tryd.func23, Tryd.ntmps23
      go_wp2
      go_ret
      exact RetV.mk (x := .int .i64 1) (by rw [HB.out]; rfl) rfl hF
  · have hE2 : heardE N ⟨f, a, n, m⟩ = match netErr a n with | some k => some k | none => if m < 1 ∨ 16 < m then some 1 else none := if_neg hf
    have HE2 := Lib.hid (HE.out.trans hE2)
    obtain ⟨q1, q2⟩ : 0 ≤ f ∧ f < N := by omega
    clear hf hE2
    go_enter Tryd.func23, Tryd.ntmps23
    go_wp2_with (fail)
    refine (netFault_any a n _ ha).mono ?_
    rintro e1 w1 ⟨rfl, hF1⟩
    have hB1 := hB.fr hF1 (fun h => h)
    have c1 := hB1.cell 1
    have c2 := hB1.cell 2
    have c3 := hB1.cell 3
    have hF01 := hF.trans hF1
    simp only [List.getElem?_cons_succ, List.getElem?_cons_zero] at c1 c2 c3
    clear hB hB1 hF hF1
    cases hne : netErr a n with
    | some k =>
      have HB := Lib.hid (HE2.out.trans (by rw [hne]))
      have HNE := Lib.hid hne
      have hk0 : (k != 0) = true := by simpa using netErr_pos hne
      rw [show numO (some k) = k from rfl]
      clear hne
      go_wp2_with (fail)
      refine (netFault_any a n _ ha).mono ?_
      rintro e2 w2 ⟨rfl, hF2⟩
      rw [HNE.out, show numO (some k) = k from rfl]
      go_wp2
      go_ret
      exact RetV.mk (x := .int .i64 k) (by rw [HB.out]; rfl) rfl (hF01.trans hF2)
    | none =>
      rw [show numO none = 0 from rfl]
      by_cases hm : m < 1 ∨ 16 < m
      · have HB := Lib.hid (HE2.out.trans (show _ = some 1 by rw [hne]; exact if_pos hm))
        have q : m < 1 ∨ (1 ≤ m ∧ 16 < m) := by omega
        clear hm hne
        rcases q with q3 | ⟨q3, q4⟩
        all_goals
          go_wp2
          go_ret
          exact RetV.mk (x := .int .i64 1) (by rw [HB.out]; rfl) rfl hF01
      · have HB := Lib.hid (HE2.out.trans (show _ = none by rw [hne]; exact if_neg hm))
        obtain ⟨q3, q4⟩ : 1 ≤ m ∧ m ≤ 16 := by omega
        clear hm hne
        go_wp2
        go_ret
        exact RetV.mk (x := .int .i64 0) (by rw [HB.out]; rfl) rfl hF01

set_option maxRecDepth 100000 in
theorem plus_any (c m : Int) (w : World) (hc : 0 ≤ c ∧ c ≤ 1000) (hm : 0 ≤ m ∧ m ≤ 1000) : Calls Tryd.prog 75 #[.int .i64 c, .int .i64 m] w (RetS w (.int .i64 (plusM c m))) := by
  have hv : Hid ((c + m < 16 → plusM c m = c + m) ∧ (16 ≤ c + m → plusM c m = 16)) := Lib.hid ⟨fun h => if_pos h, fun h => if_neg (by omega)⟩
  obtain ⟨P, hP⟩ : ∃ P, P = plusM c m := ⟨_, rfl⟩
  rw [← hP] at hv ⊢
  clear hP
  go_enter Tryd.func75, Tryd.ntmps75
  by_cases h : c + m ≤ 16
  · have HV := Lib.hid (show P = c + m by
      by_cases h2 : c + m < 16
      · exact hv.out.1 h2
      · have := hv.out.2 (by omega); omega)
    go_wp2
    go_ret
    exact RetS.mk (x := .int .i64 (c + m)) (by rw [HV.out]) rfl rfl
  · have h2 : 16 < c + m := by omega
    have HV := Lib.hid (hv.out.2 (by omega))
    clear h
    go_wp2
    go_ret
    exact RetS.mk (x := .int .i64 16) (by rw [HV.out]) rfl rfl

set_option maxRecDepth 100000 in
set_option maxHeartbeats 2000000 in
theorem lastOf_any {M : Nat} (l : List Hea) (al : Option Addr) (cl : Nat) (f a n : Int) (w : World) (hL : Recs w.heap al 4 Hea.cells l) (hll : l.length ≤ 9223372036854775806) (hM : M = l.length) :
    Calls Tryd.prog 76 #[.slice al M cl, .int .i64 f, .agg #[.int .u32 a, .int .i64 n]] w (RetV w (.int .i64 (lastOf l f a n))) := by
  subst hM
  have HL := Lib.hid hL
  clear hL
  go_enter Tryd.func76, Tryd.ntmps76
  go_wp2
  go_loopw [8, 7] (fun s8 s7 wr => ∃ (k : Nat) (v : Int), k ≤ l.length ∧ s8 = .int .i64 k ∧ s7 = .int .i64 v ∧ Blk wr.heap w.heap.size 37 [.int .u32 a, .int .i64 n] ∧ Fr (fun _ => False) w wr ∧ Hid (v = lastOf (l.take k) f a n)) (fun s _ _ => l.length - (intOf s).toNat)
  case atStart => exact ⟨0, 16, by omega, rfl, rfl, Blk.made _ _ _, (Fr.refl _ _).alloc _, Lib.hid rfl⟩
  case round =>
    obtain ⟨k, v, hk, rfl, rfl, hB, hF, hv⟩ := hrel
    have b0 := hB.cell 0
    have b1 := hB.cell 1
    simp only [List.getElem?_cons_succ, List.getElem?_cons_zero] at b0 b1
    have hbl := hB.lt
    by_cases hkl : k < l.length
    · obtain ⟨g, o, rfl, hg, hc⟩ := Recs.pos HL.out Hea.cells_len (by omega) (by omega)
      have dd := fun (j : Nat) (hj : j < 4) => (hF.cell (p := ⟨g, o + (k * 4 + j), none⟩) hg (fun h => h)).trans (hc w rfl k j hkl hj)
      have d0 := dd 0 (by omega)
      have d1 := dd 1 (by omega)
      have d2 := dd 2 (by omega)
      have d3 := dd 3 (by omega)
      have htk : lastOf (l.take (k + 1)) f a n = if (nth l k).f = f ∧ (nth l k).a = a ∧ (nth l k).n = n then (nth l k).m else lastOf (l.take k) f a n := by
        unfold lastOf
        rw [take_succ_nth l k hkl, lastO_snoc]
        split <;> rfl
      generalize nth l k = x at *
      obtain ⟨xf, xa, xn, xm⟩ := x
      simp only [Hea.cells, List.getElem?_cons_zero, List.getElem?_cons_succ, ← Nat.add_assoc, Nat.add_zero] at d0 d1 d2 d3
      simp only at htk
      clear dd hc
      by_cases hm : xf = f ∧ xa = a ∧ xn = n
      · rw [if_pos hm] at htk
        have HT := Lib.hid htk
        have e1 : (xf == f) = true := by simp [hm.1]
        have e2 : (xa == a) = true := by simp [hm.2.1]
        have e3 : (xn == n) = true := by simp [hm.2.2]
        clear htk hm
        go_wp2
        go_quiet (fail)
        go_wp2
        go_roundw
        case rel => exact ⟨k + 1, xm, by omega, by go_num, rfl, hB.fr (S := fun _ => False) ((Fr.refl _ _).drewN _) (fun h => h), hF.drewN _, Lib.hid (by rw [HT.out])⟩
        case measure => simp [intOf]; omega
      · rw [if_neg hm] at htk
        have HT := Lib.hid htk
        have q : (xf == f) = false ∨ ((xf == f) = true ∧ ((xa == a) = false ∨ ((xa == a) = true ∧ (xn == n) = false))) := by
          simp only [beq_eq_false_iff_ne, beq_iff_eq, ne_eq]
          omega
        clear htk hm
        rcases q with e1 | ⟨e1, e2 | ⟨e2, e3⟩⟩
        all_goals
          go_wp2
          go_quiet (fail)
          go_wp2
          go_roundw
          case rel => exact ⟨k + 1, v, by omega, by go_num, rfl, hB.fr (S := fun _ => False) ((Fr.refl _ _).drewN _) (fun h => h), hF.drewN _, Lib.hid (by rw [HT.out]; exact hv.out)⟩
          case measure => simp [intOf]; omega
    · obtain rfl : k = l.length := by omega
      have hv2 := Lib.hid (show v = lastOf l f a n by have := hv.out; rwa [List.take_length] at this)
      go_wp2
      go_ret
      exact RetV.mk (x := .int .i64 v) (by rw [hv2.out]) rfl hF
end Go.Proofs.YtfjempfffdeklaaDoor
