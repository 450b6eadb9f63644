import Derived.Test.YtgfbkebbnfcgkaaQRt5
import Derived.Test.YtgfbkebbnfcgkaaQRt6
import Derived.Test.YtgfbkebbnfcgkaaNetW
import Derived.Test.YtgfbkebbnfcgkaaQRt7
section
namespace Go.Proofs.Ytgfbkebbnfcgkaa
open Go.RowKit Go.Maps

theorem infoBst : (Try.prog.info? 49).map (fun i => (i.zero, i.size, i.bytes)) = some (some (.agg #[.int .u32 0, .int .i64 0, .int .i64 0, .slice none 0 0]), 4, 48) := by kernel_rfl
/-- A number as a key. -/
def kli (i : Int) : Lit := .int .i64 i
theorem keyedI : Keyed Try.prog 3 := int_keyed Try.underlying3
theorem ikey {i : Int} (h : (Lit.int .i64 i).wf = true) : keyOf Try.prog 3 (.int .i64 i) = some (kli i) := keyOf_int_mk Try.underlying3 h
theorem kli_inj {i j : Int} (h : kli i = kli j) : i = j := by unfold kli at h; cases h; rfl
theorem zeroI {w : World} : (zeroValue 3).run Try.prog w = .ok (.int .i64 0) w := by kernel_rfl

set_option maxRecDepth 100000 in
set_option maxHeartbeats 1000000 in
theorem near_any {n : Nat} (costs : List Int) (a : Option Addr) (c : Nat) (w : World) (hr : Ints w.heap a costs) (hn : n = costs.length) (hl : n ≤ 9223372036854775807) :
    Calls Try.prog 34 #[.slice a n c] w (RetS w (errO (nearE costs))) := by
  subst hn
  obtain ⟨E, hE⟩ : ∃ E, E = nearE costs := ⟨_, rfl⟩
  rw [← hE]
  have HE := Lib.hid hE
  clear hE
  go_enter Try.func34, Try.ntmps34
  go_wp2
  go_loopw [7] (fun s7 wr => ∃ k : Nat, k ≤ costs.length ∧ s7 = .int .i64 k ∧ w = wr ∧ Hid (∀ j, j < k → j < 8 ∧ 1 ≤ nth costs j ∧ nth costs j ≤ 16)) (fun s _ => costs.length - (intOf s).toNat)
  case atStart => exact ⟨0, by omega, rfl, rfl, Lib.hid (fun j hj => absurd hj (Nat.not_lt_zero _))⟩
  case round =>
    obtain ⟨k, hk, rfl, rfl, hJ⟩ := hrel
    by_cases hlt : k < costs.length
    · obtain ⟨g, o, rfl, hg, hc⟩ := Ints.pos hr (by omega)
      have d := hc w rfl k hlt
      have hm := nth_mem costs k hlt
      obtain ⟨x, hx⟩ : ∃ x, x = nth costs k := ⟨_, rfl⟩
      rw [← hx] at d hm
      have HX := Lib.hid hx
      clear hc hx
      by_cases hbad : 8 ≤ k ∨ x < 1 ∨ 16 < x
      · have HB := Lib.hid (HE.out.trans (show nearE costs = some 1 from if_pos (by
          rcases hbad with h | h
          · exact .inl (by omega)
          · exact .inr ⟨x, hm, h⟩)))
        have q : 8 ≤ k ∨ (k < 8 ∧ x < 1) ∨ (k < 8 ∧ 1 ≤ x ∧ 16 < x) := by omega
        clear hbad hm
        rcases q with q1 | ⟨q1, q2⟩ | ⟨q1, q2, q3⟩
        all_goals
          go_wp2
          go_ret
          exact RetS.mk (x := errv 1) (by rw [HB.out]; rfl) rfl rfl
      · have hJ' := Lib.hid (show ∀ j, j < k + 1 → j < 8 ∧ 1 ≤ nth costs j ∧ nth costs j ≤ 16 from fun j hj => by
          rcases Nat.lt_succ_iff_lt_or_eq.1 hj with h | h
          · exact hJ.out j h
          · subst h; rw [← HX.out]; omega)
        obtain ⟨q1, q2, q3⟩ : k < 8 ∧ 1 ≤ x ∧ x ≤ 16 := by omega
        clear hbad hm
        go_wp2
        go_roundw
        case rel => exact ⟨k + 1, by omega, by go_num, by first | rfl | trivial, hJ'⟩
        case measure => simp [intOf]; omega
    · obtain rfl : k = costs.length := by omega
      have HB := Lib.hid (HE.out.trans (show nearE costs = none from if_neg (fun h => by
        unfold nearBad at h
        rcases h with h | ⟨c, hc, h⟩
        · have := hJ.out 8 h; omega
        · obtain ⟨j, hj, rfl⟩ := List.mem_iff_getElem.1 hc
          have := hJ.out j hj
          rw [nth_eq costs j hj] at this
          omega)))
      go_wp2
      go_ret
      exact RetS.mk (x := .nilIface) (by rw [HB.out]; rfl) rfl rfl

set_option maxRecDepth 100000 in
set_option maxHeartbeats 1000000 in
theorem heard_any (h : Hea) (N : Nat) (ac : Option Addr) (cc : Nat) (w : World) (ha : 0 ≤ h.a ∧ h.a < 4294967296) (_hN : N ≤ 9223372036854775807) :
    Calls Try.prog 59 #[.agg #[.int .i64 h.f, .int .u32 h.a, .int .i64 h.n, .int .i64 h.m], .slice ac N cc] w (RetV w (errO (heardE N h))) := by
  obtain ⟨f, a, n, m⟩ := h
  obtain ⟨E, hE⟩ : ∃ E, E = heardE N ⟨f, a, n, m⟩ := ⟨_, rfl⟩
  rw [← hE]
  have HE := Lib.hid hE
  simp only at ha
  have hF := (Fr.refl (fun _ => False) w).alloc (.cells #[.int .i64 f, .int .u32 a, .int .i64 n, .int .i64 m] 111)
  have hB := Blk.made w 111 [.int .i64 f, .int .u32 a, .int .i64 n, .int .i64 m]
  clear hE
  by_cases hf : f < 0 ∨ (N : Int) ≤ f
  · have HB := Lib.hid (HE.out.trans (show heardE N ⟨f, a, n, m⟩ = some 1 from if_pos hf))
    have q : f < 0 ∨ (0 ≤ f ∧ (N : Int) ≤ f) := by omega
    clear hf
    rcases q with q1 | ⟨q1, q2⟩
    all_goals
      go_enter Try.func59, Try.ntmps59
      go_wp2
      go_ret
      exact RetV.mk (x := errv 1) (by rw [HB.out]; rfl) rfl hF
  · have hE2 : heardE N ⟨f, a, n, m⟩ = match netErr a n with | some k => some k | none => if m < 1 ∨ 16 < m then some 1 else none := if_neg hf
    have HE2 := Lib.hid (HE.out.trans hE2)
    obtain ⟨q1, q2⟩ : 0 ≤ f ∧ f < N := by omega
    clear hf hE2
    go_enter Try.func59, Try.ntmps59
    go_wp2_with (fail)
    refine (pcheck_any a n _ ha).mono ?_
    rintro e1 w1 ⟨rfl, hF1⟩
    have hB1 := hB.fr hF1 (fun h => h)
    have c3 := hB1.cell 3
    have hF01 := hF.trans hF1
    simp only [List.getElem?_cons_succ, List.getElem?_cons_zero] at c3
    clear hB hB1 hF hF1
    cases hne : netErr a n with
    | some k =>
      have HB := Lib.hid (HE2.out.trans (by rw [hne]))
      rw [show errO (some k) = errv k from rfl]
      clear hne
      go_wp2
      go_ret
      exact RetV.mk (x := errv k) (by rw [HB.out]; rfl) rfl hF01
    | none =>
      rw [show errO none = .nilIface from rfl]
      by_cases hm : m < 1 ∨ 16 < m
      · have HB := Lib.hid (HE2.out.trans (show _ = some 1 by rw [hne]; exact if_pos hm))
        have q : m < 1 ∨ (1 ≤ m ∧ 16 < m) := by omega
        clear hm hne
        rcases q with q3 | ⟨q3, q4⟩
        all_goals
          go_wp2
          go_ret
          exact RetV.mk (x := errv 1) (by rw [HB.out]; rfl) rfl hF01
      · have HB := Lib.hid (HE2.out.trans (show _ = none by rw [hne]; exact if_neg hm))
        obtain ⟨q3, q4⟩ : 1 ≤ m ∧ m ≤ 16 := by omega
        clear hm hne
        go_wp2
        go_ret
        exact RetV.mk (x := .nilIface) (by rw [HB.out]; rfl) rfl hF01

/-- What is chosen: a way, its list in new memory. -/
def RetBest (w : World) (a n : Int) (s : Int × List Int) (e : Ending) (w' : World) : Prop :=
  ∃ ah ch ob, e = .returned (.agg #[.int .u32 a, .int .i64 n, .int .i64 s.1, .slice ah s.2.length ch]) ∧ Ownd w'.heap 3 1 ah s.2.length ch (ivals .i64 s.2) ob ∧ Fr (fun _ => False) w w' ∧ (∀ g, ob = some g → w.heap.size ≤ g)
theorem RetBest.mk {w w' : World} {a n m : Int} {s : Int × List Int} {ah : Option Addr} {k ch : Nat} {ob : Option Nat} {xs : List Value} {e : Ending} (he : e = .returned (.agg #[.int .u32 a, .int .i64 n, .int .i64 m, .slice ah k ch])) (hm : m = s.1) (hk : k = s.2.length) (hx : xs = ivals .i64 s.2) (hO : Ownd w'.heap 3 1 ah k ch xs ob) (hF : Fr (fun _ => False) w w') (hN : ∀ g, ob = some g → w.heap.size ≤ g) : RetBest w a n s e w' := by
  subst hm; subst hk; subst hx; exact ⟨ah, ch, ob, he, hO, hF, hN⟩
/-- The boxes of what is chosen. -/
structure CB (H : Array Obj) (B : Nat) (a n m : Int) (ah : Option Addr) (k ch : Nat) (ob : Option Nat) (xs : List Value) : Prop where
  b : Blk H (B + 2) 49 [.int .u32 a, .int .i64 n, .int .i64 m, .slice ah k ch]
  r : Blk H (B + 1) 49 [.int .u32 0, .int .i64 0, .int .i64 0, .slice none 0 0]
  o : Ownd H 3 1 ah k ch xs ob
  new : ∀ g, ob = some g → B + 3 ≤ g
theorem CB.fr0 {w w' : World} {B : Nat} {a n m : Int} {ah : Option Addr} {k ch : Nat} {ob : Option Nat} {xs : List Value} (h : CB w.heap B a n m ah k ch ob xs) (f : Fr (fun _ => False) w w') : CB w'.heap B a n m ah k ch ob xs :=
  ⟨h.b.fr f (fun h => h), h.r.fr f (fun h => h), h.o.fr f (fun _ _ h => h), h.new⟩

set_option maxRecDepth 100000 in
set_option maxHeartbeats 8000000 in
theorem chosen_any {N : Nat} (a n : Int) (costs : List Int) (ac : Option Addr) (cc mb : Nat) (L : List (Int × Value)) (t : Int → Option Int) (w : World) (hr : Ints w.heap ac costs) (hN : N = costs.length) (hl : costs.length ≤ 8) (hc : ∀ c ∈ costs, 1 ≤ c ∧ c ≤ 16)
    (hM : MapL w Try.prog 3 kli mb L) (hT : ∀ i : Int, mget L i = (t i).map (.int .i64)) (ht : ∀ i m, t i = some m → 1 ≤ m ∧ m ≤ 16) :
    Calls Try.prog 60 #[.agg #[.int .u32 a, .int .i64 n], .slice ac N cc, .map (some mb)] w (RetBest w a n (chK t costs costs.length)) := by
  subst hN
  have HR := Lib.hid hr
  have HC := Lib.hid hc
  have HT := Lib.hid hT
  have HTB := Lib.hid ht
  have HM := Lib.hid hM
  have HSW : ∀ q : Int, Hid (∀ p ∈ L, kli p.1 = kli q → p.1 = q) := fun q => Lib.hid (fun p _ h => kli_inj h)
  have HSW' := Lib.hid HSW
  clear hr hc hT ht hM HSW
  go_enter Try.func60, Try.ntmps60
  go_wp2
  go_loopw [16] (fun s16 wr => ∃ (k m : Nat) (met : Int) (ah : Option Addr) (ch : Nat) (ob : Option Nat) (xs : List Value), k ≤ costs.length ∧ s16 = .int .i64 k ∧ CB wr.heap w.heap.size a n met ah m ch ob xs ∧ Fr (fun _ => False) w wr ∧ Hid (met = (chK t costs k).1 ∧ m = (chK t costs k).2.length ∧ xs = ivals .i64 (chK t costs k).2)) (fun s _ => costs.length - (intOf s).toNat)
  case atStart =>
    refine ⟨0, 0, 16, none, 0, none, [], by omega, rfl, ⟨?_, ?_, Ownd.nil _ _ _, (fun _ h => nomatch h)⟩, (((Fr.refl _ _).alloc _).alloc _).alloc _, Lib.hid ⟨rfl, rfl, rfl⟩⟩
    · have := Blk.made ((w.alloc (.cells #[.int .u32 a, .int .i64 n] 34)).alloc (.cells #[.int .u32 0, .int .i64 0, .int .i64 0, .slice none 0 0] 49)) 49 [.int .u32 a, .int .i64 n, .int .i64 16, .slice none 0 0]
      rwa [show ((w.alloc (.cells #[.int .u32 a, .int .i64 n] 34)).alloc (.cells #[.int .u32 0, .int .i64 0, .int .i64 0, .slice none 0 0] 49)).heap.size = w.heap.size + 2 by simp] at this
    · have := (Blk.made (w.alloc (.cells #[.int .u32 a, .int .i64 n] 34)) 49 [.int .u32 0, .int .i64 0, .int .i64 0, .slice none 0 0]).alloc (.cells #[.int .u32 a, .int .i64 n, .int .i64 16, .slice none 0 0] 49)
      rwa [show (w.alloc (.cells #[.int .u32 a, .int .i64 n] 34)).heap.size = w.heap.size + 1 by simp] at this
  case round =>
    obtain ⟨k, m, met, ah, ch, ob, xs, hk, rfl, hC, hF, hX⟩ := hrel
    have b0 := hC.b.cell 0
    have b1 := hC.b.cell 1
    have b2 := hC.b.cell 2
    have b3 := hC.b.cell 3
    have f2 := hC.b.frozen 2
    have f3 := hC.b.frozen 3
    have r0 := hC.r.cell 0
    have r1 := hC.r.cell 1
    have r2 := hC.r.cell 2
    have r3 := hC.r.cell 3
    have g0 := hC.r.frozen 0
    have g1 := hC.r.frozen 1
    have g2 := hC.r.frozen 2
    have g3 := hC.r.frozen 3
    simp only [List.getElem?_cons_succ, List.getElem?_cons_zero] at b0 b1 b2 b3 r0 r1 r2 r3
    have hbl := hC.b.lt
    have hbd := chK_bd t costs HTB.out HC.out k hk
    rw [← hX.out.1] at hbd
    have hm4 : m ≤ 4 := by rw [hX.out.2.1]; exact hbd.2.2.1
    obtain ⟨hm2, hm16, -⟩ := hbd
    by_cases hkl : k < costs.length
    · have hs := chK_succ t costs k
      obtain ⟨g, o, rfl, hg, hcc⟩ := Ints.pos HR.out (by omega)
      have d := (hF.cell (p := ⟨g, o + k, none⟩) hg (fun h => h)).trans (hcc w rfl k hkl)
      have hcb := HC.out _ (nth_mem costs k hkl)
      generalize nth costs k = x at *
      have hmg := HT.out k
      have hMr := HM.out.fr hF (fun h => h)
      have HK := Lib.hid (ikey (i := (k : Int)) (by go_wf))
      have hSW := HSW'.out k
      clear hcc
      cases htk : t k with
      | none =>
        rw [htk] at hmg hs
        have HMG := Lib.hid hmg
        have HS := Lib.hid (show chK t costs (k + 1) = chK t costs k from hs)
        clear htk hmg hs
        go_wp2_with (at_lookup; refine wpList_lookL_ok rfl _ _ 147 rfl 3 3 keyedI Try.underlying147 zeroI mb L kli rfl hMr _ (k : Int) rfl HK.out hSW.out ?_; rw [HMG.out])
        go_roundw
        case rel => exact ⟨k + 1, m, met, ah, ch, ob, xs, by omega, by go_num, hC, hF, by rw [HS.out]; exact hX⟩
        case measure => simp [intOf]; omega
      | some q =>
        have hq := HTB.out _ _ htk
        rw [htk] at hmg hs
        have HMG := Lib.hid hmg
        clear htk hmg
        by_cases c1 : met < x + q ∨ 16 ≤ x + q
        · have HS := Lib.hid (show chK t costs (k + 1) = chK t costs k by rw [hs]; unfold chStep; simp only; rw [← hX.out.1, if_pos c1])
          have c1' : met < x + q ∨ (x + q ≤ met ∧ 16 ≤ x + q) := by omega
          clear hs c1
          rcases c1' with c1 | ⟨c1, c2⟩
          all_goals
            go_wp2_with (at_lookup; refine wpList_lookL_ok rfl _ _ 147 rfl 3 3 keyedI Try.underlying147 zeroI mb L kli rfl hMr _ (k : Int) rfl HK.out hSW.out ?_; rw [HMG.out])
            go_roundw
            case rel => exact ⟨k + 1, m, met, ah, ch, ob, xs, by omega, by go_num, hC, hF, by rw [HS.out]; exact hX⟩
            case measure => simp [intOf]; omega
        · by_cases c2 : x + q < met
          · have HS := Lib.hid (show chK t costs (k + 1) = (x + q, [(k : Int)]) by rw [hs]; unfold chStep; simp only; rw [← hX.out.1, if_neg c1, if_pos c2])
            have c1' : x + q < 16 := by omega
            have hBs := (hC.b.set 2 (.int .i64 (x + q))).set 3 (.slice none 0 0)
            have hRs := ((hC.r.other (p := ⟨w.heap.size + 2, 2, none⟩) (by simp) (.int .i64 (x + q))).other (p := ⟨w.heap.size + 2, 3, none⟩) (by simp) (.slice none 0 0))
            have hFs := (hF.setCell (p := ⟨w.heap.size + 2, 2, none⟩) (fun h => by have h2 : w.heap.size + 2 < w.heap.size := h; omega) (.int .i64 (x + q))).setCell (p := ⟨w.heap.size + 2, 3, none⟩) (fun h => by have h2 : w.heap.size + 2 < w.heap.size := h; omega) (.slice none 0 0)
            have hrd := rd_lit ((wr.setCell ⟨w.heap.size + 2, 2, none⟩ (.int .i64 (x + q))).setCell ⟨w.heap.size + 2, 3, none⟩ (.slice none 0 0)) 3 [.int .i64 k]
            rw [show ((wr.setCell ⟨w.heap.size + 2, 2, none⟩ (.int .i64 (x + q))).setCell ⟨w.heap.size + 2, 3, none⟩ (.slice none 0 0)).heap.size = wr.heap.size by simp] at hrd
            have HBs := Lib.hid (hBs.alloc (.cells #[.int .i64 k] 3))
            have HRs := Lib.hid (hRs.alloc (.cells #[.int .i64 k] 3))
            have HFs := Lib.hid (hFs.alloc (.cells #[.int .i64 k] 3))
            have hnil : ∀ w : World, Ownd w.heap 3 1 none 0 0 [] none := fun w => Ownd.nil _ _ _
            clear hs c1 hBs hRs hFs hC hF
            go_wp2_with (first | (at_lookup; refine wpList_lookL_ok rfl _ _ 147 rfl 3 3 keyedI Try.underlying147 zeroI mb L kli rfl hMr _ (k : Int) rfl HK.out hSW.out ?_; rw [HMG.out]) | (at_builtin; refine wpList_app rfl _ _ 31 rfl Try.underlying31 infoInt rfl (by decide) rfl rfl (hnil _) hrd (by simp [Value.oneCell']) (by omega) (by omega) ?_))
            intro a7 c7 w7 ob7 z1 z2 z3
            have hz2 : Fr (fun _ => False) _ w7 := z2.mono (fun i _ h => by cases h)
            have hB7 := HBs.out.fr hz2 (fun h => h)
            have hR7 := HRs.out.fr hz2 (fun h => h)
            have hF7 := HFs.out.trans hz2
            have hsz : wr.heap.size ≤ w7.heap.size := by have h1 := hz2.size; simp at h1; omega
            have hN7 : ∀ g, ob7 = some g → w.heap.size + 3 ≤ g := fun g hg => by
              rcases z3 with z3 | ⟨g', z3, z4⟩
              · rw [z3] at hg; cases hg
              · rw [z3] at hg; cases hg; (try simp at z4); omega
            have y3 := hB7.cell 3
            have v3 := hB7.frozen 3
            have hbl7 := hB7.lt
            simp only [List.getElem?_cons_succ, List.getElem?_cons_zero, List.set_cons_succ, List.set_cons_zero] at y3
            have HC7 : Hid (CB (w7.setCell ⟨w.heap.size + 2, 3, none⟩ (.slice a7 1 c7)).heap w.heap.size a n (x + q) a7 1 c7 ob7 [.int .i64 k]) := Lib.hid ⟨hB7.set 3 _, hR7.other (p := ⟨w.heap.size + 2, 3, none⟩) (by simp) _, z1.other (p := ⟨w.heap.size + 2, 3, none⟩) (fun h => by have h2 : ob7 = some (w.heap.size + 2) := h; have := hN7 _ h2; omega) _, hN7⟩
            have HF7 := Lib.hid (hF7.setCell (p := ⟨w.heap.size + 2, 3, none⟩) (fun h => by have h2 : w.heap.size + 2 < w.heap.size := h; omega) (.slice a7 1 c7))
            clear z1 z2 z3 hz2 hB7 hR7 hF7 HBs HRs HFs hrd hnil
            go_wp2
            go_roundw
            case rel => exact ⟨k + 1, 1, x + q, a7, c7, ob7, _, by omega, by go_num, HC7.out, HF7.out, Lib.hid (by rw [HS.out]; exact ⟨rfl, rfl, rfl⟩)⟩
            case measure => simp [intOf]; omega
          · by_cases c3 : m < 4
            · have HS := Lib.hid (show chK t costs (k + 1) = (met, (chK t costs k).2 ++ [(k : Int)]) by rw [hs]; unfold chStep; simp only; rw [← hX.out.1, if_neg c1, if_neg c2, ← hX.out.2.1, if_pos c3])
              have c1' : x + q = met ∧ x + q < 16 := by omega
              obtain ⟨c4, c5⟩ := c1'
              have c6 : ¬ met < x + q := by omega
              have c7 : ¬ x + q < met := by omega
              have hrd := rd_lit wr 3 [.int .i64 k]
              have HBs := Lib.hid (hC.b.alloc (.cells #[.int .i64 k] 3))
              have HRs := Lib.hid (hC.r.alloc (.cells #[.int .i64 k] 3))
              have HFs := Lib.hid (hF.alloc (.cells #[.int .i64 k] 3))
              have hOs := hC.o.alloc (.cells #[.int .i64 k] 3)
              have hNo := hC.new
              clear hs c1 c4 hC hF
              go_wp2_with (first | (at_lookup; refine wpList_lookL_ok rfl _ _ 147 rfl 3 3 keyedI Try.underlying147 zeroI mb L kli rfl hMr _ (k : Int) rfl HK.out hSW.out ?_; rw [HMG.out]) | (at_builtin; refine wpList_app rfl _ _ 31 rfl Try.underlying31 infoInt rfl (by decide) rfl rfl hOs hrd (by simp [Value.oneCell']) (by omega) (by omega) ?_))
              intro a7 c7' w7 ob7 z1 z2 z3
              have hB7 := HBs.out.fr z2 (fun h => by have := hNo _ h; omega)
              have hR7 := HRs.out.fr z2 (fun h => by have := hNo _ h; omega)
              have hF7 := HFs.out.trans' z2 (fun i hi h => by have := hNo _ h; omega)
              have hN7 : ∀ g, ob7 = some g → w.heap.size + 3 ≤ g := app_new hNo z3 (by simp; omega)
              have y3 := hB7.cell 3
              have v3 := hB7.frozen 3
              have hbl7 := hB7.lt
              simp only [List.getElem?_cons_succ, List.getElem?_cons_zero] at y3
              have HC7 : Hid (CB (w7.setCell ⟨w.heap.size + 2, 3, none⟩ (.slice a7 (m + 1) c7')).heap w.heap.size a n met a7 (m + 1) c7' ob7 (xs ++ [.int .i64 k])) := Lib.hid ⟨hB7.set 3 _, hR7.other (p := ⟨w.heap.size + 2, 3, none⟩) (by simp) _, z1.other (p := ⟨w.heap.size + 2, 3, none⟩) (fun h => by have h2 : ob7 = some (w.heap.size + 2) := h; have := hN7 _ h2; omega) _, hN7⟩
              have HF7 := Lib.hid (hF7.setCell (p := ⟨w.heap.size + 2, 3, none⟩) (fun h => by have h2 : w.heap.size + 2 < w.heap.size := h; omega) (.slice a7 (m + 1) c7'))
              clear z1 z2 z3 hB7 hR7 hF7 HBs HRs HFs hrd hOs
              go_wp2
              go_roundw
              case rel => exact ⟨k + 1, m + 1, met, a7, c7', ob7, _, by omega, by go_num, HC7.out, HF7.out, Lib.hid (by rw [HS.out]; exact ⟨rfl, by simp only [List.length_append, ← hX.out.2.1]; rfl, by rw [hX.out.2.2]; simp [ivals]⟩)⟩
              case measure => simp [intOf]; omega
            · have HS := Lib.hid (show chK t costs (k + 1) = chK t costs k by rw [hs]; unfold chStep; simp only; rw [← hX.out.1, if_neg c1, if_neg c2, ← hX.out.2.1, if_neg c3])
              obtain ⟨c4, c5⟩ : x + q ≤ met ∧ x + q < 16 := by omega
              clear hs c1
              go_wp2_with (at_lookup; refine wpList_lookL_ok rfl _ _ 147 rfl 3 3 keyedI Try.underlying147 zeroI mb L kli rfl hMr _ (k : Int) rfl HK.out hSW.out ?_; rw [HMG.out])
              go_roundw
              case rel => exact ⟨k + 1, m, met, ah, ch, ob, xs, by omega, by go_num, hC, hF, by rw [HS.out]; exact hX⟩
              case measure => simp [intOf]; omega
    · obtain rfl : k = costs.length := by omega
      have hBe := (((hC.r.set 0 (.int .u32 a)).set 1 (.int .i64 n)).set 2 (.int .i64 met)).set 3 (.slice ah m ch)
      have y0 := hBe.cell 0
      have y1 := hBe.cell 1
      have y2 := hBe.cell 2
      have y3 := hBe.cell 3
      simp only [List.getElem?_cons_succ, List.getElem?_cons_zero, List.set_cons_succ, List.set_cons_zero] at y0 y1 y2 y3
      have hne : ∀ j, ob ≠ some (⟨w.heap.size + 1, j, none⟩ : Addr).block := fun j h => by have h2 : ob = some (w.heap.size + 1) := h; have := hC.new _ h2; omega
      have HOe := Lib.hid ((((hC.o.other (hne 0) (.int .u32 a)).other (hne 1) (.int .i64 n)).other (hne 2) (.int .i64 met)).other (hne 3) (.slice ah m ch))
      have hlt : ∀ j, (⟨w.heap.size + 1, j, none⟩ : Addr).block < w.heap.size → False := fun j h => by have h2 : w.heap.size + 1 < w.heap.size := h; omega
      have HFe := Lib.hid ((((hF.setCell (hlt 0) (.int .u32 a)).setCell (hlt 1) (.int .i64 n)).setCell (hlt 2) (.int .i64 met)).setCell (hlt 3) (.slice ah m ch))
      have hNe := hC.new
      clear hC hF hBe hne hlt
      go_wp2
      refine bodyPost_ret (v := .agg #[.int .u32 a, .int .i64 n, .int .i64 met, .slice ah m ch]) (by simp [results, Try.results60, go_sem, y0, y1, y2, y3]) rfl ?_
      exact RetBest.mk rfl hX.out.1 hX.out.2.1 hX.out.2.2 HOe.out HFe.out (fun g hg => by have := hNe g hg; omega)
end Go.Proofs.Ytgfbkebbnfcgkaa
end
