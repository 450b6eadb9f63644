import Derived.Test.YtgfbkebbnfcgkaaQRt12
section
namespace Go.Proofs.Ytgfbkebbnfcgkaa
open Go.RowKit Go.Maps
theorem zeroPG {w : World} : (zeroValue 145).run Try.prog w = .ok (.pointer none) w := by kernel_rfl
/-- A new engine. -/
def RetEngNew (w : World) (costs : List Int) (r : Option Int) (e : Ending) (w' : World) : Prop :=
  match r with
  | some k => RetV w (.tuple #[.pointer none, errv k]) e w'
  | none => ∃ be bn ac cc, e = .returned (.tuple #[.pointer (some ⟨be, 0, none⟩), .nilIface]) ∧ Eng (fun k => w.heap.size ≤ k ∧ k < w'.heap.size) w' be bn costs [] [] ac cc ∧ Fr (fun _ => False) w w'
theorem RetEngNew.err {w w' : World} {costs : List Int} {r : Option Int} {e : Ending} {k : Int} (hr : r = some k) (he : e = .returned (.tuple #[.pointer none, errv k])) (hF : Fr (fun _ => False) w w') : RetEngNew w costs r e w' := by subst hr; exact ⟨he, hF⟩
theorem RetEngNew.ok {w w' : World} {costs : List Int} {r : Option Int} {e : Ending} {be bn cc : Nat} {ac : Option Addr} (hr : r = none) (he : e = .returned (.tuple #[.pointer (some ⟨be, 0, none⟩), .nilIface])) (hE : Eng (fun k => w.heap.size ≤ k ∧ k < w'.heap.size) w' be bn costs [] [] ac cc) (hF : Fr (fun _ => False) w w') : RetEngNew w costs r e w' := by
  subst hr; exact ⟨be, bn, ac, cc, he, hE, hF⟩
theorem RetEngNew.errE {w w' : World} {costs : List Int} {r : Option Int} {e : Ending} {k : Int} (h : RetEngNew w costs r e w') (hr : r = some k) : RetV w (.tuple #[.pointer none, errv k]) e w' := by subst hr; exact h
theorem RetEngNew.okE {w w' : World} {costs : List Int} {r : Option Int} {e : Ending} (h : RetEngNew w costs r e w') (hr : r = none) : ∃ be bn ac cc, e = .returned (.tuple #[.pointer (some ⟨be, 0, none⟩), .nilIface]) ∧ Eng (fun k => w.heap.size ≤ k ∧ k < w'.heap.size) w' be bn costs [] [] ac cc ∧ Fr (fun _ => False) w w' := by subst hr; exact h

set_option maxRecDepth 100000 in
set_option maxHeartbeats 2000000 in
theorem engNew_any {N : Nat} (costs : List Int) (a : Option Addr) (c : Nat) (w : World) (hr : Ints w.heap a costs) (hl : costs.length ≤ 9223372036854775807) (hN : N = costs.length) :
    Calls Try.prog 14 #[.slice a N c] w (RetEngNew w costs (nearE costs)) := by
  subst hN
  obtain ⟨R, hR⟩ : ∃ R, R = nearE costs := ⟨_, rfl⟩
  have hmm := @run_makeMap Try.prog
  go_enter Try.func14, Try.ntmps14
  go_wp2_with (fail)
  refine (near_any costs a c _ hr rfl hl).mono ?_
  rintro e1 w1 ⟨rfl, rfl⟩
  rw [← hR]
  cases hne : R with
  | some q =>
    have HX := Lib.hid (hR.symm.trans hne)
    rw [show errO (some q) = errv q from rfl]
    clear hne hR
    go_wp2
    go_ret2
    exact RetEngNew.err HX.out rfl (Fr.refl _ _)
  | none =>
    have HNE := Lib.hid (hR.symm.trans hne)
    obtain ⟨hn8, hcb⟩ := nearE_ok HNE.out
    rw [show errO none = .nilIface from rfl]
    clear hne hR hcb
    go_wp2_with (fail)
    refine (clone_int a costs c w (by omega) hr (fun e => by subst e; exact hr.nil')).mono ?_
    rintro e2 w2 ⟨a2, c2, ob2, he2, hO2, hF2, hN2⟩
    simp only [id] at he2
    subst he2
    have hF3 := (hF2.alloc (.map #[] 0)).alloc (.cells #[.slice a2 costs.length c2, .map (some w2.heap.size)] 100)
    have kM := (MapL.made w2 Try.prog 34 kln).fr (S := fun _ => False) ((Fr.refl _ _).alloc (.cells #[.slice a2 costs.length c2, .map (some w2.heap.size)] 100)) (fun h => h)
    have kB := Blk.made (w2.alloc (.map #[] 0)) 100 [.slice a2 costs.length c2, .map (some w2.heap.size)]
    rw [show (w2.alloc (.map #[] 0)).heap.size = w2.heap.size + 1 by simp] at kB
    have kC := ((hO2.alloc (.map #[] 0)).alloc (.cells #[.slice a2 costs.length c2, .map (some w2.heap.size)] 100)).rd
    have hsz := hF2.size
    have hss : ((w2.alloc (.map #[] 0)).alloc (.cells #[.slice a2 costs.length c2, .map (some w2.heap.size)] 100)).heap.size = w2.heap.size + 2 := by simp
    have kE : Eng (fun k => w.heap.size ≤ k ∧ k < ((w2.alloc (.map #[] 0)).alloc (.cells #[.slice a2 costs.length c2, .map (some w2.heap.size)] 100)).heap.size) ((w2.alloc (.map #[] 0)).alloc (.cells #[.slice a2 costs.length c2, .map (some w2.heap.size)] 100)) (w2.heap.size + 1) w2.heap.size costs [] [] a2 c2 := by
      refine ⟨kB, kC, fun b off e => ?_, kM, (fun x hx => nomatch hx), List.Pairwise.nil, (fun x hx => nomatch hx), by omega, (fun x hx => nomatch hx), (fun x hx => nomatch hx), HNE.out, fun k hk => hk.2, ⟨by omega, by omega⟩, ⟨by omega, by omega⟩⟩
      rcases hO2.is with ⟨q, _⟩ | ⟨g, _, q, q2, _⟩
      · rw [q] at e; cases e
      · rw [q] at e; cases e
        have h1 := hN2 _ q2
        have h2 := hO2.lt _ q2
        refine ⟨⟨h1, by omega⟩, ?_⟩
        rintro (e | e | ⟨x, hx, _⟩)
        · omega
        · omega
        · cases hx
    have HE := Lib.hid kE
    have HF := Lib.hid hF3
    clear kE hF3 kM kB kC hF2 hO2 hN2 hss hsz
    go_wp2
    go_ret2
    exact RetEngNew.ok HNE.out rfl HE.out HF.out

set_option maxRecDepth 100000 in
set_option maxHeartbeats 4000000 in
theorem get_any {U : Nat → Prop} {be bn : Nat} {costs : List Int} {all : List Hea} {E : List Ent} {ac : Option Addr} {cc : Nat} (a n : Int) (w : World) (hE : Eng U w be bn costs all E ac cc) (hq : Nt.wf ⟨a, n⟩) :
    Calls Try.prog 40 #[.pointer (some ⟨be, 0, none⟩), .agg #[.int .u32 a, .int .i64 n]] w (RetBestE w a n (netErr a n) (bestM all costs a n)) := by
  have hF0 := ((Fr.refl (fun _ => False) w).alloc (.cells #[.int .u32 a, .int .i64 n] 34)).alloc (.cells #[.int .u32 0, .int .i64 0, .int .i64 0, .slice none 0 0] 49)
  have hB0 := (Blk.made w 34 [.int .u32 a, .int .i64 n]).alloc (.cells #[.int .u32 0, .int .i64 0, .int .i64 0, .slice none 0 0] 49)
  have hR0 := Blk.made (w.alloc (.cells #[.int .u32 a, .int .i64 n] 34)) 49 [.int .u32 0, .int .i64 0, .int .i64 0, .slice none 0 0]
  rw [show (w.alloc (.cells #[.int .u32 a, .int .i64 n] 34)).heap.size = w.heap.size + 1 by simp] at hR0
  have hE0 := hE.fr0 hF0
  have HQ := Lib.hid hq
  clear hE
  go_enter Try.func40, Try.ntmps40
  go_wp2_with (fail)
  refine (pcheck_any a n _ ⟨hq.1, hq.2.1⟩).mono ?_
  rintro e1 w1 ⟨rfl, hF1⟩
  have hE1 := hE0.fr0 hF1
  have hB1 := hB0.fr hF1 (fun h => h)
  have hR1 := hR0.fr hF1 (fun h => h)
  have hFw := hF0.trans hF1
  clear hE0 hB0 hR0 hF0 hF1
  cases hne : netErr a n with
  | some q =>
    have HNE := Lib.hid hne
    rw [show errO (some q) = errv q from rfl]
    clear hne hB1 hE1
    obtain ⟨hBe, hFe⟩ := put4 hR1 (.int .u32 0) (.int .i64 0) (.int .i64 0) (.slice none 0 0)
    have z0 := hR1.cell 0
    have z1 := hR1.cell 1
    have z2 := hR1.cell 2
    have z3 := hR1.cell 3
    have f0 := hR1.frozen 0
    have f1 := hR1.frozen 1
    have f2 := hR1.frozen 2
    have f3 := hR1.frozen 3
    have y0 := hBe.cell 0
    have y1 := hBe.cell 1
    have y2 := hBe.cell 2
    have y3 := hBe.cell 3
    have hl := hR1.lt
    simp only [List.getElem?_cons_succ, List.getElem?_cons_zero] at y0 y1 y2 y3 z0 z1 z2 z3
    have HF := Lib.hid (hFw.trans' hFe (fun i hi h => by have h2 : i = w.heap.size + 1 := h; omega))
    clear hBe hFe hR1 hFw
    go_wp2
    refine bodyPost_ret (v := .tuple #[.agg #[.int .u32 0, .int .i64 0, .int .i64 0, .slice none 0 0], errv q]) (by simp [results, Try.results40, go_sem, y0, y1, y2, y3]) rfl ?_
    exact RetBestE.err HNE.out rfl HF.out
  | none =>
    have HNE := Lib.hid hne
    rw [show errO none = .nilIface from rfl]
    clear hne
    go_wp2
    have e0 := hE1.blk.cell 0
    have e1 := hE1.blk.cell 1
    have b0 := hB1.cell 0
    have b1 := hB1.cell 1
    have l0 := hE1.blk.lt
    have l1 := hB1.lt
    simp only [List.getElem?_cons_succ, List.getElem?_cons_zero] at e0 e1 b0 b1
    (refine wp_region_mix (fun _ => True) 5 (by kernel_rfl) (by kernel_rfl) (trivial) ?_; simp only [List.take_succ_cons, List.take_zero, List.drop_succ_cons, List.drop_zero])
    (refine wpMix_earlyN 5 (by kernel_rfl) (by kernel_rfl) ?_; simp only [List.take_succ_cons, List.take_zero, List.drop_succ_cons, List.drop_zero]; (repeat (go_big_quiet_step (fail))); refine wpQuiet_nil ?_)
    refine wpMix_nil ?_
    have hFd := (Fr.refl (fun _ => False) w1).drew
    have hE2 := hE1.fr0 hFd
    have hB2 := hB1.fr hFd (fun h => h)
    have hR2 := hR1.fr hFd (fun h => h)
    have hFw2 := hFw.trans hFd
    have HNT := hE2.nets
    have HIJ := Lib.hid (hE2.inj HQ.out)
    have HNK := Lib.hid (nkey ⟨a, n⟩ HQ.out)
    clear hE1 hB1 hR1 hFw hFd
    rcases mget_entL hE2.ap ⟨a, n⟩ with ⟨hg, hno⟩ | ⟨x, hx, hxk, hg⟩
    · have HG := Lib.hid hg
      have hbm : bestM all costs a n = (16, []) := bestM_none (hE2.unheard hno)
      have HBM := Lib.hid hbm
      clear hg hno hbm
      go_wp2_with (at_lookup; refine wpList_lookL rfl _ _ 98 rfl 34 145 keyedN Try.underlying98 zeroPG bn (entL E) kln rfl HNT _ ⟨a, n⟩ rfl HNK.out HIJ.out ?_; rw [HG.out])
      clear e0 e1 b0 b1 l0 l1
      have b0 := hB2.cell 0
      have b1 := hB2.cell 1
      have l1 := hB2.lt
      simp only [List.getElem?_cons_succ, List.getElem?_cons_zero] at b0 b1
      go_wp2_with (fail)
      refine (chosen0_any a n _).mono ?_
      rintro e3' w3 ⟨rfl, hF3⟩
      have hR3 := hR2.fr hF3 (fun h => h)
      have hFw3 := hFw2.trans hF3
      clear hE2 hB2 hF3 hFw2 HNT b0 b1 l1 hR2
      obtain ⟨hBe, hFe⟩ := put4 hR3 (.int .u32 a) (.int .i64 n) (.int .i64 16) (.slice none 0 0)
      have z0 := hR3.cell 0
      have z1 := hR3.cell 1
      have z2 := hR3.cell 2
      have z3 := hR3.cell 3
      have f0 := hR3.frozen 0
      have f1 := hR3.frozen 1
      have f2 := hR3.frozen 2
      have f3 := hR3.frozen 3
      have y0 := hBe.cell 0
      have y1 := hBe.cell 1
      have y2 := hBe.cell 2
      have y3 := hBe.cell 3
      have hl := hR3.lt
      simp only [List.getElem?_cons_succ, List.getElem?_cons_zero] at y0 y1 y2 y3 z0 z1 z2 z3
      have HF := Lib.hid (hFw3.trans' hFe (fun i hi h => by have h2 : i = w.heap.size + 1 := h; omega))
      clear hBe hFe hR3 hFw3
      go_wp2
      refine bodyPost_ret (v := .tuple #[.agg #[.int .u32 a, .int .i64 n, .int .i64 16, .slice none 0 0], .nilIface]) (by simp [results, Try.results40, go_sem, y0, y1, y2, y3]) rfl ?_
      exact RetBestE.ok HNE.out rfl (by rw [HBM.out]) (by rw [HBM.out]; rfl) (by rw [HBM.out]; rfl) (Ownd.nil _ _ _) HF.out (fun _ h => nomatch h)
    · have HG := Lib.hid hg
      have hx0 := hE2.ents x hx
      have hbd : (bestM all costs a n).2.length ≤ 4 := (chK_bd (fun i => lastO all i a n) costs (fun i m h => lastO_bd (fun y hy => (heardE_ok (hE2.ok y hy)).2.2.2) h) (nearE_ok hE2.near).2 costs.length (Nat.le_refl _)).2.2.1
      obtain ⟨M, hM⟩ : ∃ M, M = bestM all costs a n := ⟨_, rfl⟩
      have x1 := hx0.blk.cell 1
      have x2 := hx0.blk.cell 2
      have x3 := hx0.blk.cell 3
      have x4 := hx0.blk.cell 4
      have hI := hx0.hops
      have hlx := hx0.blk.lt
      simp only [entC, List.getElem?_cons_succ, List.getElem?_cons_zero] at x1 x2 x3 x4
      rw [hxk] at x1 x2 x3 x4 hI
      simp only at x1 x2 x3 x4 hI
      rw [← hM] at x3 x4 hI hbd
      have HM := Lib.hid hM
      obtain ⟨sm, sh⟩ := M
      simp only at x3 x4 hI hbd
      clear hg hM hx0 hxk
      go_wp2_with (at_lookup; refine wpList_lookL rfl _ _ 98 rfl 34 145 keyedN Try.underlying98 zeroPG bn (entL E) kln rfl HNT _ ⟨a, n⟩ rfl HNK.out HIJ.out ?_; rw [HG.out])
      go_wp2_with (fail)
      refine (copied_any a n sm sh x.bA x.bC _ hI hbd).mono ?_
      rintro e3' w3 ⟨a3, c3, ob3, rfl, hO3, hF3, hN3⟩
      simp only at hO3
      have hR3 := hR2.fr hF3 (fun h => h)
      have hFw3 := hFw2.trans hF3
      have hrl := hR2.lt
      clear hE2 hB2 hF3 hFw2 HNT b0 b1 l1 l0 e0 e1 hR2 x1 x2 x3 x4 hI hlx
      obtain ⟨hBe, hFe⟩ := put4 hR3 (.int .u32 a) (.int .i64 n) (.int .i64 sm) (.slice a3 sh.length c3)
      have hO4 := hO3.fr hFe (fun g hg h => by have h2 : g = w.heap.size + 1 := h; have := hN3 g hg; omega)
      have z0 := hR3.cell 0
      have z1 := hR3.cell 1
      have z2 := hR3.cell 2
      have z3 := hR3.cell 3
      have f0 := hR3.frozen 0
      have f1 := hR3.frozen 1
      have f2 := hR3.frozen 2
      have f3 := hR3.frozen 3
      have y0 := hBe.cell 0
      have y1 := hBe.cell 1
      have y2 := hBe.cell 2
      have y3 := hBe.cell 3
      have hl := hR3.lt
      simp only [List.getElem?_cons_succ, List.getElem?_cons_zero] at y0 y1 y2 y3 z0 z1 z2 z3
      have HF := Lib.hid (hFw3.trans' hFe (fun i hi h => by have h2 : i = w.heap.size + 1 := h; omega))
      have HO := Lib.hid hO4
      clear hBe hFe hR3 hFw3 hO3 hO4
      go_wp2
      refine bodyPost_ret (v := .tuple #[.agg #[.int .u32 a, .int .i64 n, .int .i64 sm, .slice a3 sh.length c3], .nilIface]) (by simp [results, Try.results40, go_sem, y0, y1, y2, y3]) rfl ?_
      exact RetBestE.ok HNE.out rfl (congrArg (·.1) HM.out) (congrArg (·.2.length) HM.out) (congrArg (fun s : Int × List Int => ivals .i64 s.2) HM.out) HO.out HF.out (fun g hg => by have := hN3 g hg; have h2 : w.heap.size + 1 < w1.drew.heap.size := hrl; omega)
end Go.Proofs.Ytgfbkebbnfcgkaa
end
