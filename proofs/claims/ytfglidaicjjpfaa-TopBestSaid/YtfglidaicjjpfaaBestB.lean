import Derived.Test.YtfglidaicjjpfaaBestW
namespace Go.Proofs.Ytfglidaicjjpfaa
open Go.RowKit Go.Maps

/-- What is told of the way to a net. -/
def RetBestE (w : World) (a n : Int) (r : Option Int) (s : Int × List Int) (e : Ending) (w' : World) : Prop :=
  match r with
  | some k => RetV w (.tuple #[.agg #[.int .u32 0, .int .i64 0, .int .i64 0, .slice none 0 0], errv k]) e w'
  | none => ∃ ah ch ob, e = .returned (.tuple #[.agg #[.int .u32 a, .int .i64 n, .int .i64 s.1, .slice ah s.2.length ch], .nilIface]) ∧ Own w'.heap 3 1 ah s.2.length ch (ivals .i64 s.2) ob ∧ Fr (fun _ => False) w w' ∧ (∀ g, ob = some g → w.heap.size ≤ g)
theorem RetBestE.err {w w' : World} {a n k : Int} {r : Option Int} {s : Int × List Int} {e : Ending} (h : r = some k) (he : e = .returned (.tuple #[.agg #[.int .u32 0, .int .i64 0, .int .i64 0, .slice none 0 0], errv k])) (hF : Fr (fun _ => False) w w') : RetBestE w a n r s e w' := by subst h; exact ⟨he, hF⟩
theorem RetBestE.ok {w w' : World} {a n m : Int} {r : Option Int} {s : Int × List Int} {ah : Option Addr} {k ch : Nat} {ob : Option Nat} {xs : List Value} {e : Ending} (h : r = none) (he : e = .returned (.tuple #[.agg #[.int .u32 a, .int .i64 n, .int .i64 m, .slice ah k ch], .nilIface])) (hm : m = s.1) (hk : k = s.2.length) (hx : xs = ivals .i64 s.2) (hO : Own w'.heap 3 1 ah k ch xs ob) (hF : Fr (fun _ => False) w w') (hN : ∀ g, ob = some g → w.heap.size ≤ g) : RetBestE w a n r s e w' := by
  subst h; subst hm; subst hk; subst hx; exact ⟨ah, ch, ob, he, hO, hF, hN⟩
theorem RetBestE.errE {w w' : World} {a n k : Int} {r : Option Int} {s : Int × List Int} {e : Ending} (h : RetBestE w a n r s e w') (hr : r = some k) : RetV w (.tuple #[.agg #[.int .u32 0, .int .i64 0, .int .i64 0, .slice none 0 0], errv k]) e w' := by subst hr; exact h
theorem RetBestE.okE {w w' : World} {a n : Int} {r : Option Int} {s : Int × List Int} {e : Ending} (h : RetBestE w a n r s e w') (hr : r = none) : ∃ ah ch ob, e = .returned (.tuple #[.agg #[.int .u32 a, .int .i64 n, .int .i64 s.1, .slice ah s.2.length ch], .nilIface]) ∧ Own w'.heap 3 1 ah s.2.length ch (ivals .i64 s.2) ob ∧ Fr (fun _ => False) w w' ∧ (∀ g, ob = some g → w.heap.size ≤ g) := by subst hr; exact h
/-- What is chosen of all that was heard. -/
def bestM (l : List Hea) (costs : List Int) (a n : Int) : Int × List Int := chK (fun i => lastO l i a n) costs costs.length
theorem i64_small {i : Int} (h0 : 0 ≤ i) (h1 : i ≤ 1000000) : (Lit.int .i64 i).wf = true := by go_wf

set_option maxRecDepth 100000 in
set_option maxHeartbeats 8000000 in
theorem best_any {N M : Nat} (l : List Hea) (al : Option Addr) (cl : Nat) (costs : List Int) (ac : Option Addr) (cc : Nat) (a n : Int) (w : World) (hL : Recs w.heap al 4 Hea.cells l) (hw : ∀ x ∈ l, 0 ≤ x.a ∧ x.a < 4294967296) (hll : l.length ≤ 9223372036854775806) (hr : Ints w.heap ac costs) (hcl : costs.length ≤ 9223372036854775807) (ha : 0 ≤ a ∧ a < 4294967296) (hM : M = l.length) (hN : N = costs.length) :
    Calls Try.prog 13 #[.slice al M cl, .slice ac N cc, .agg #[.int .u32 a, .int .i64 n]] w (RetBestE w a n (bestE l costs a n) (bestM l costs a n)) := by
  subst hM
  subst hN
  obtain ⟨E, hE⟩ : ∃ E, E = bestE l costs a n := ⟨_, rfl⟩
  rw [← hE]
  have HE := Lib.hid hE
  have HL := Lib.hid hL
  have HW := Lib.hid hw
  have HR := Lib.hid hr
  have hF0 := ((Fr.refl (fun _ => False) w).alloc (.cells #[.int .u32 a, .int .i64 n] 43)).alloc (.cells #[.int .u32 0, .int .i64 0, .int .i64 0, .slice none 0 0] 50)
  have hB0 := (Blk.made w 43 [.int .u32 a, .int .i64 n]).alloc (.cells #[.int .u32 0, .int .i64 0, .int .i64 0, .slice none 0 0] 50)
  have hR0 := Blk.made (w.alloc (.cells #[.int .u32 a, .int .i64 n] 43)) 50 [.int .u32 0, .int .i64 0, .int .i64 0, .slice none 0 0]
  rw [show (w.alloc (.cells #[.int .u32 a, .int .i64 n] 43)).heap.size = w.heap.size + 1 by simp] at hR0
  have hws : ((w.alloc (.cells #[.int .u32 a, .int .i64 n] 43)).alloc (.cells #[.int .u32 0, .int .i64 0, .int .i64 0, .slice none 0 0] 50)).heap.size = w.heap.size + 2 := by simp
  have HWS := Lib.hid hws
  have hmm := @run_makeMap Try.prog
  clear hE hL hw hr hws
  go_enter Try.func13, Try.ntmps13
  go_wp2_with (fail)
  refine (near_any costs ac cc _ (HR.out.fr0 hF0 (fun _ _ h => h)) rfl hcl).mono ?_
  rintro e1 w1 ⟨rfl, rfl⟩
  cases hne : nearE costs with
  | some q =>
    have HX := Lib.hid (HE.out.trans (show bestE l costs a n = some q by unfold bestE; rw [hne]))
    rw [show errO (some q) = errv q from rfl]
    clear hne hB0
    have hBe := ((((hR0.set 0 (.int .u32 0)).set 1 (.int .i64 0)).set 2 (.int .i64 0)).set 3 (.slice none 0 0))
    have y0 := hBe.cell 0
    have y1 := hBe.cell 1
    have y2 := hBe.cell 2
    have y3 := hBe.cell 3
    have z0 := hR0.cell 0
    have z1 := hR0.cell 1
    have z2 := hR0.cell 2
    have z3 := hR0.cell 3
    have fz0 := hR0.frozen 0
    have fz1 := hR0.frozen 1
    have fz2 := hR0.frozen 2
    have fz3 := hR0.frozen 3
    have hzl := hR0.lt
    simp only [List.getElem?_cons_succ, List.getElem?_cons_zero, List.set_cons_succ, List.set_cons_zero] at y0 y1 y2 y3 z0 z1 z2 z3
    have HFE := Lib.hid ((((hF0.setCell (p := ⟨w.heap.size + 1, 0, none⟩) (fun h => by have h2 : w.heap.size + 1 < w.heap.size := h; omega) (.int .u32 0)).setCell (p := ⟨w.heap.size + 1, 1, none⟩) (fun h => by have h2 : w.heap.size + 1 < w.heap.size := h; omega) (.int .i64 0)).setCell (p := ⟨w.heap.size + 1, 2, none⟩) (fun h => by have h2 : w.heap.size + 1 < w.heap.size := h; omega) (.int .i64 0)).setCell (p := ⟨w.heap.size + 1, 3, none⟩) (fun h => by have h2 : w.heap.size + 1 < w.heap.size := h; omega) (.slice none 0 0))
    clear hBe
    go_wp2
    refine bodyPost_ret (v := .tuple #[.agg #[.int .u32 0, .int .i64 0, .int .i64 0, .slice none 0 0], errv q]) (by simp [results, Try.results13, go_sem, y0, y1, y2, y3]) rfl ?_
    first | exact RetBestE.err HX.out rfl HFE.out | exact RetBestE.err HX.out rfl hF0
  | none =>
    obtain ⟨hl8, hc8⟩ := nearE_ok hne
    have HE2 := Lib.hid (HE.out.trans (show bestE l costs a n = match heardsE costs.length l with | some k => some k | none => netErr a n by unfold bestE; rw [hne] <;> rfl))
    have HC := Lib.hid hc8
    have hMp := MapL.made ((w.alloc (.cells #[.int .u32 a, .int .i64 n] 43)).alloc (.cells #[.int .u32 0, .int .i64 0, .int .i64 0, .slice none 0 0] 50)) Try.prog 3 kli
    rw [HWS.out] at hMp
    have HMp := Lib.hid hMp
    rw [show errO none = .nilIface from rfl]
    clear hne hc8 hMp
    go_wp2
    go_loopw [23] (fun s23 wr => ∃ k : Nat, k ≤ l.length ∧ s23 = .int .i64 k ∧ Blk wr.heap w.heap.size 43 [.int .u32 a, .int .i64 n] ∧ Blk wr.heap (w.heap.size + 1) 50 [.int .u32 0, .int .i64 0, .int .i64 0, .slice none 0 0] ∧ MapL wr Try.prog 3 kli (w.heap.size + 2) (toldL (l.take k) a n) ∧ Fr (fun _ => False) w wr ∧ Hid (E = match heardsE costs.length (l.drop k) with | some k => some k | none => netErr a n) ∧ Hid (∀ x ∈ l.take k, heardE costs.length x = none)) (fun s _ => l.length - (intOf s).toNat)
    case atStart => exact ⟨0, by omega, rfl, hB0.alloc _, hR0.alloc _, HMp.out, hF0.alloc _, HE2, Lib.hid (fun x hx => nomatch hx)⟩
    case round =>
      obtain ⟨k, hk, rfl, hB, hR, hM, hF, hEk, hJ⟩ := hrel
      have b0 := hB.cell 0
      have b1 := hB.cell 1
      simp only [List.getElem?_cons_succ, List.getElem?_cons_zero] at b0 b1
      have hbl := hB.lt
      have hml := hM.lt
      by_cases hkl : k < l.length
      · obtain ⟨g, o, rfl, hg, hc⟩ := Recs.pos HL.out Hea.cells_len (by omega) (by omega)
        have dd := fun (j : Nat) (hj : j < 4) => (hF.cell (p := ⟨g, o + (k * 4 + j), none⟩) hg (fun h => h)).trans (hc w rfl k j hkl hj)
        have d0 := dd 0 (by omega)
        have d1 := dd 1 (by omega)
        have d2 := dd 2 (by omega)
        have d3 := dd 3 (by omega)
        have hx2 := HW.out _ (nth_mem l k hkl)
        have hdr := drop_nth l k hkl
        have htk := take_succ_nth l k hkl
        obtain ⟨x, hx⟩ : ∃ x, x = nth l k := ⟨_, rfl⟩
        rw [← hx] at d0 d1 d2 d3 hx2 hdr htk
        obtain ⟨xf, xa, xn, xm⟩ := x
        simp only [Hea.cells, List.getElem?_cons_zero, List.getElem?_cons_succ, ← Nat.add_assoc, Nat.add_zero] at d0 d1 d2 d3
        simp only at hx2
        have hEs : E = match (match heardE costs.length ⟨xf, xa, xn, xm⟩ with | some k => some k | none => heardsE costs.length (l.drop (k + 1))) with | some k => some k | none => netErr a n := by rw [hEk.out, hdr]; rfl
        have HES := Lib.hid hEs
        have HTK := Lib.hid htk
        have hBx := Blk.made wr 47 [.int .i64 xf, .int .u32 xa, .int .i64 xn, .int .i64 xm]
        have hFa := (Fr.refl (fun _ => False) wr).alloc (.cells #[.int .i64 xf, .int .u32 xa, .int .i64 xn, .int .i64 xm] 47)
        clear dd hc hx hdr htk hEs
        go_wp2_with (fail)
        refine (heard_any ⟨xf, xa, xn, xm⟩ costs.length ac cc _ hx2 hcl).mono ?_
        rintro e2 w2 ⟨rfl, hF2⟩
        have hF02 := hFa.trans hF2
        have hB2 := hB.fr hF02 (fun h => h)
        have hR2 := hR.fr hF02 (fun h => h)
        have hM2 := hM.fr hF02 (fun h => h)
        have hG2 := hF.trans hF02
        have hx2' := hBx.fr hF2 (fun h => h)
        have x0 := hx2'.cell 0
        have x1 := hx2'.cell 1
        have x2 := hx2'.cell 2
        have x3 := hx2'.cell 3
        have hxl := hx2'.lt
        simp only [List.getElem?_cons_succ, List.getElem?_cons_zero] at x0 x1 x2 x3
        clear hB hR hM hF hF02 hF2 hFa hBx hx2' b0 b1
        have b0 := hB2.cell 0
        have b1 := hB2.cell 1
        simp only [List.getElem?_cons_succ, List.getElem?_cons_zero] at b0 b1
        cases hhe : heardE costs.length ⟨xf, xa, xn, xm⟩ with
        | some q =>
          have HX := Lib.hid (HES.out.trans (show _ = some q by rw [hhe]))
          rw [show errO (some q) = errv q from rfl]
          clear hhe hM2
          have hBe := ((((hR2.set 0 (.int .u32 0)).set 1 (.int .i64 0)).set 2 (.int .i64 0)).set 3 (.slice none 0 0))
          have y0 := hBe.cell 0
          have y1 := hBe.cell 1
          have y2 := hBe.cell 2
          have y3 := hBe.cell 3
          have z0 := hR2.cell 0
          have z1 := hR2.cell 1
          have z2 := hR2.cell 2
          have z3 := hR2.cell 3
          have fz0 := hR2.frozen 0
          have fz1 := hR2.frozen 1
          have fz2 := hR2.frozen 2
          have fz3 := hR2.frozen 3
          have hzl := hR2.lt
          simp only [List.getElem?_cons_succ, List.getElem?_cons_zero, List.set_cons_succ, List.set_cons_zero] at y0 y1 y2 y3 z0 z1 z2 z3
          have HFE := Lib.hid ((((hG2.setCell (p := ⟨w.heap.size + 1, 0, none⟩) (fun h => by have h2 : w.heap.size + 1 < w.heap.size := h; omega) (.int .u32 0)).setCell (p := ⟨w.heap.size + 1, 1, none⟩) (fun h => by have h2 : w.heap.size + 1 < w.heap.size := h; omega) (.int .i64 0)).setCell (p := ⟨w.heap.size + 1, 2, none⟩) (fun h => by have h2 : w.heap.size + 1 < w.heap.size := h; omega) (.int .i64 0)).setCell (p := ⟨w.heap.size + 1, 3, none⟩) (fun h => by have h2 : w.heap.size + 1 < w.heap.size := h; omega) (.slice none 0 0))
          clear hBe
          go_wp2
          refine bodyPost_ret (v := .tuple #[.agg #[.int .u32 0, .int .i64 0, .int .i64 0, .slice none 0 0], errv q]) (by simp [results, Try.results13, go_sem, y0, y1, y2, y3]) rfl ?_
          first | exact RetBestE.err HX.out rfl HFE.out | exact RetBestE.err HX.out rfl hF0
        | none =>
          have hok := heardE_ok hhe
          simp only at hok
          obtain ⟨k1, k2, k3, k4, k5⟩ := hok
          have HE3 := Lib.hid (HES.out.trans (show _ = match heardsE costs.length (l.drop (k + 1)) with | some k => some k | none => netErr a n by rw [hhe]))
          have HJ := Lib.hid (show ∀ x ∈ l.take (k + 1), heardE costs.length x = none from fun y hy => by
            rw [HTK.out] at hy
            rcases List.mem_append.1 hy with hy | hy
            · exact hJ.out y hy
            · rw [List.mem_singleton.1 hy]; exact hhe)
          rw [show errO none = .nilIface from rfl]
          clear hhe k3
          by_cases hnet : xa = a ∧ xn = n
          · have e1 : (xa == a) = true := by simp [hnet.1]
            have e2 : (xn == n) = true := by simp [hnet.2]
            have hT := Lib.hid (show toldL (l.take (k + 1)) a n = mput (toldL (l.take k) a n) xf (.int .i64 xm) by rw [HTK.out, toldL_snoc]; exact if_pos hnet)
            have HK := Lib.hid (ikey (i := xf) (i64_small k1 (by omega)))
            have HSW : Hid (∀ p ∈ toldL (l.take k) a n, kli p.1 = kli xf → p.1 = xf) := Lib.hid (fun p _ h => kli_inj h)
            have HLn : Hid ((toldL (l.take k) a n).length < maxLen) := Lib.hid (by
              have h1 := toldL_len (l.take k) a n
              have h2 : (l.take k).length ≤ k := List.length_take_le _ _
              have h3 : maxLen = 9223372036854775807 := rfl
              omega)
            clear hnet
            go_wp2_with (at_mapUpdate; refine wpList_mput rfl _ _ _ 89 rfl 3 3 keyedI Try.underlying89 (w.heap.size + 2) (toldL (l.take k) a n) kli rfl hM2 HLn.out _ _ xf rfl rfl HK.out HSW.out ?_)
            intro w3 hM3 hF3 hs3
            rw [← hT.out] at hM3
            have hB3 := hB2.fr hF3 (fun h => by omega)
            have hR3 := hR2.fr hF3 (fun h => by omega)
            have hG3 := hG2.trans' hF3 (fun i hi h => by omega)
            clear hB2 hR2 hM2 hG2 hF3 hs3
            go_wp2
            go_roundw
            case rel => exact ⟨k + 1, by omega, by go_num, hB3, hR3, hM3, hG3, HE3, HJ⟩
            case measure => simp [intOf]; omega
          · have hT := Lib.hid (show toldL (l.take (k + 1)) a n = toldL (l.take k) a n by rw [HTK.out, toldL_snoc]; exact if_neg hnet)
            have q : (xa == a) = false ∨ ((xa == a) = true ∧ (xn == n) = false) := by
              simp only [beq_eq_false_iff_ne, beq_iff_eq, ne_eq]
              omega
            clear hnet
            rcases q with e1 | ⟨e1, e2⟩
            all_goals
              go_wp2
              go_roundw
              case rel => exact ⟨k + 1, by omega, by go_num, hB2, hR2, by rw [hT.out]; exact hM2, hG2, HE3, HJ⟩
              case measure => simp [intOf]; omega
      · obtain rfl : k = l.length := by omega
        have hJ2 := hJ.out
        have hE4 := hEk.out
        rw [List.drop_length] at hE4
        rw [List.take_length] at hJ2 hM
        have HE4 := Lib.hid (show E = netErr a n from hE4)
        have HJ2 := Lib.hid hJ2
        clear hJ2 hE4 hJ hEk
        go_wp2_with (fail)
        refine (pcheck_any a n wr ha).mono ?_
        rintro e2 w2 ⟨rfl, hF2⟩
        have hB2 := hB.fr hF2 (fun h => h)
        have hR2 := hR.fr hF2 (fun h => h)
        have hM2 := hM.fr hF2 (fun h => h)
        have hG2 := hF.trans hF2
        clear hB hR hM hF b0 b1
        cases hne : netErr a n with
        | some q =>
          have HX := Lib.hid (HE4.out.trans hne)
          rw [show errO (some q) = errv q from rfl]
          clear hne hM2 hF2
          have hBe := ((((hR2.set 0 (.int .u32 0)).set 1 (.int .i64 0)).set 2 (.int .i64 0)).set 3 (.slice none 0 0))
          have y0 := hBe.cell 0
          have y1 := hBe.cell 1
          have y2 := hBe.cell 2
          have y3 := hBe.cell 3
          have z0 := hR2.cell 0
          have z1 := hR2.cell 1
          have z2 := hR2.cell 2
          have z3 := hR2.cell 3
          have fz0 := hR2.frozen 0
          have fz1 := hR2.frozen 1
          have fz2 := hR2.frozen 2
          have fz3 := hR2.frozen 3
          have hzl := hR2.lt
          simp only [List.getElem?_cons_succ, List.getElem?_cons_zero, List.set_cons_succ, List.set_cons_zero] at y0 y1 y2 y3 z0 z1 z2 z3
          have HFE := Lib.hid ((((hG2.setCell (p := ⟨w.heap.size + 1, 0, none⟩) (fun h => by have h2 : w.heap.size + 1 < w.heap.size := h; omega) (.int .u32 0)).setCell (p := ⟨w.heap.size + 1, 1, none⟩) (fun h => by have h2 : w.heap.size + 1 < w.heap.size := h; omega) (.int .i64 0)).setCell (p := ⟨w.heap.size + 1, 2, none⟩) (fun h => by have h2 : w.heap.size + 1 < w.heap.size := h; omega) (.int .i64 0)).setCell (p := ⟨w.heap.size + 1, 3, none⟩) (fun h => by have h2 : w.heap.size + 1 < w.heap.size := h; omega) (.slice none 0 0))
          clear hBe
          go_wp2
          refine bodyPost_ret (v := .tuple #[.agg #[.int .u32 0, .int .i64 0, .int .i64 0, .slice none 0 0], errv q]) (by simp [results, Try.results13, go_sem, y0, y1, y2, y3]) rfl ?_
          first | exact RetBestE.err HX.out rfl HFE.out | exact RetBestE.err HX.out rfl hF0
        | none =>
          have HX := Lib.hid (HE4.out.trans hne)
          rw [show errO none = .nilIface from rfl]
          have b0 := hB2.cell 0
          have b1 := hB2.cell 1
          simp only [List.getElem?_cons_succ, List.getElem?_cons_zero] at b0 b1
          have hch := chosen_any a n costs ac cc (w.heap.size + 2) (toldL l a n) (fun i => lastO l i a n) w2 (HR.out.fr0 hG2 (fun _ _ h => h)) rfl hl8 HC.out hM2 (fun i => toldL_get l a n i) (fun i m hm => lastO_bd (fun x hx => by have := heardE_ok (HJ2.out x hx); omega) hm)
          clear hne
          go_wp2_with (fail)
          refine hch.mono ?_
          clear hch
          intro e3 w3 R3
          have R3' : RetBest w2 a n (bestM l costs a n) e3 w3 := R3
          clear R3
          obtain ⟨s, hs⟩ : ∃ s, s = bestM l costs a n := ⟨_, rfl⟩
          rw [← hs] at R3'
          have HS := Lib.hid hs
          clear hs
          obtain ⟨met, hops⟩ := s
          obtain ⟨ah, ch, ob, rfl, hO3, hF3, hN3⟩ := R3'
          simp only at hO3 ⊢
          obtain ⟨m, hm⟩ : ∃ m, m = hops.length := ⟨_, rfl⟩
          rw [← hm] at hO3 ⊢
          have HMM := Lib.hid hm
          have hR3 := hR2.fr hF3 (fun h => h)
          have hG3 := hG2.trans hF3
          have hM2l := hM2.lt
          have hN3' : ∀ g, ob = some g → w.heap.size + 3 ≤ g := fun g hg => by have := hN3 g hg; omega
          clear hm hR2 hM2 hG2 hF3 hN3 hB2 b0 b1
          have hBe := ((((hR3.set 0 (.int .u32 a)).set 1 (.int .i64 n)).set 2 (.int .i64 met)).set 3 (.slice ah m ch))
          have y0 := hBe.cell 0
          have y1 := hBe.cell 1
          have y2 := hBe.cell 2
          have y3 := hBe.cell 3
          have z0 := hR3.cell 0
          have z1 := hR3.cell 1
          have z2 := hR3.cell 2
          have z3 := hR3.cell 3
          have fz0 := hR3.frozen 0
          have fz1 := hR3.frozen 1
          have fz2 := hR3.frozen 2
          have fz3 := hR3.frozen 3
          have hzl := hR3.lt
          simp only [List.getElem?_cons_succ, List.getElem?_cons_zero, List.set_cons_succ, List.set_cons_zero] at y0 y1 y2 y3 z0 z1 z2 z3
          have HFE := Lib.hid ((((hG3.setCell (p := ⟨w.heap.size + 1, 0, none⟩) (fun h => by have h2 : w.heap.size + 1 < w.heap.size := h; omega) (.int .u32 a)).setCell (p := ⟨w.heap.size + 1, 1, none⟩) (fun h => by have h2 : w.heap.size + 1 < w.heap.size := h; omega) (.int .i64 n)).setCell (p := ⟨w.heap.size + 1, 2, none⟩) (fun h => by have h2 : w.heap.size + 1 < w.heap.size := h; omega) (.int .i64 met)).setCell (p := ⟨w.heap.size + 1, 3, none⟩) (fun h => by have h2 : w.heap.size + 1 < w.heap.size := h; omega) (.slice ah m ch))
          have HOE := Lib.hid ((((hO3.other (p := ⟨w.heap.size + 1, 0, none⟩) (fun h => by have h2 := hN3' _ h; have h3 : w.heap.size + 3 ≤ w.heap.size + 1 := h2; omega) (.int .u32 a)).other (p := ⟨w.heap.size + 1, 1, none⟩) (fun h => by have h2 := hN3' _ h; have h3 : w.heap.size + 3 ≤ w.heap.size + 1 := h2; omega) (.int .i64 n)).other (p := ⟨w.heap.size + 1, 2, none⟩) (fun h => by have h2 := hN3' _ h; have h3 : w.heap.size + 3 ≤ w.heap.size + 1 := h2; omega) (.int .i64 met)).other (p := ⟨w.heap.size + 1, 3, none⟩) (fun h => by have h2 := hN3' _ h; have h3 : w.heap.size + 3 ≤ w.heap.size + 1 := h2; omega) (.slice ah m ch))
          clear hBe
          go_wp2
          refine bodyPost_ret (v := .tuple #[.agg #[.int .u32 a, .int .i64 n, .int .i64 met, .slice ah m ch], .nilIface]) (by simp [results, Try.results13, go_sem, y0, y1, y2, y3]) rfl ?_
          exact RetBestE.ok HX.out rfl (congrArg Prod.fst HS.out) (HMM.out.trans (congrArg (fun s => s.2.length) HS.out)) (congrArg (fun s => ivals .i64 s.2) HS.out) HOE.out HFE.out (fun g hg => by have := hN3' g hg; omega)
end Go.Proofs.Ytfglidaicjjpfaa
