import Derived.Test.YtfjempfffdeklaaEngKeep
import Derived.Test.YtfjempfffdeklaaEngAll
import Derived.Test.YtfjempfffdeklaaOwn1
import Derived.Test.YtfjempfffdeklaaBestSame
namespace Go.Proofs.Ytfjempfffdeklaa
open Go.RowKit Go.Maps
theorem nearE1 : nearE [1] = none := by decide
theorem pw_nth {α : Type} [Inhabited α] {r : α → α → Prop} {l : List α} (h : l.Pairwise r) {i j : Nat} (hij : i < j) (hj : j < l.length) : r (nth l i) (nth l j) := by
  rw [nth_eq l i (by omega), nth_eq l j hj]
  exact List.pairwise_iff_getElem.1 h i j (by omega) hj hij
set_option maxRecDepth 100000 in
set_option maxHeartbeats 16000000 in
theorem bestOwn_any (costs : List Int) (ac0 : Option Addr) (cc0 : Nat) (l : List Hea) (al : Option Addr) (cl : Nat) (x : Int) (w : World) (hL : Recs w.heap al 4 Hea.cells l) (hw : ∀ x ∈ l, Hea.wf x) (hll : l.length * 32 ≤ 140737488351232) (hC : Ints w.heap ac0 costs) (hcl : costs.length * 8 ≤ 140737488351232) :
    Calls Try.prog 4 #[.slice ac0 costs.length cc0, .slice al l.length cl, .int .i64 x] w (RetV w (.bool true)) := by
  have HL := Lib.hid hL
  have HW := Lib.hid hw
  have HC := Lib.hid hC
  clear hL hw hC
  go_enter Try.func4, Try.ntmps4
  go_wp2_with (fail)
  refine (copy_any ac0 costs cc0 w rfl hcl HC.out).mono ?_
  rintro e1 w1 ⟨g1, c1, rfl, hO1, hF1, hg1⟩
  have hg1l := hO1.lt g1 rfl
  go_wp2_with (fail)
  refine (engNew_any costs (some ⟨g1, 0, none⟩) c1 w1 hO1.rd (by omega) rfl).mono ?_
  intro e2 w2 R2
  cases hne : nearE costs with
  | some q =>
    obtain ⟨rfl, hF2⟩ := R2.errE hne
    have hF02 := hF1.trans hF2
    clear R2 hne hO1 hF1 hF2
    go_wp2_with (fail)
    refine (engNew_any [1] (some ⟨w2.heap.size, 0, none⟩) 1 _ (rd_lit w2 3 [.int .i64 1]) (by decide) rfl).mono ?_
    intro e3 w3 R3
    obtain ⟨be3, bn3, ac3, cc3, rfl, -, hF3⟩ := R3.okE nearE1
    have hF03 := (hF02.alloc (.cells #[.int .i64 1] 3)).trans hF3
    clear R3 hF3 hF02
    go_wp2
    go_ret
    exact RetV.mk rfl rfl hF03
  | none =>
    obtain ⟨be, bn, ac, cc, rfl, hE2, hF2⟩ := R2.okE hne
    have hO2 := hO1.fr hF2 (fun _ _ h => h)
    have hF02 := hF1.trans hF2
    have HNE := Lib.hid hne
    clear R2 hne hO1 hF1 hF2
    go_wp2_with (fail)
    refine (engNew_any [1] (some ⟨w2.heap.size, 0, none⟩) 1 _ (rd_lit w2 3 [.int .i64 1]) (by decide) rfl).mono ?_
    intro e3 w3 R3
    obtain ⟨be3, bn3, ac3, cc3, rfl, -, hF3⟩ := R3.okE nearE1
    have hF23 := ((Fr.refl (fun _ => False) w2).alloc (.cells #[.int .i64 1] 3)).trans hF3
    have hE3 := hE2.fr0 hF23
    have hO3 := hO2.fr hF23 (fun _ _ h => h)
    have hF03 := hF02.trans hF23
    clear R3 hF3 hF02 hE2 hO2 hF23
    go_wp2_with (fail)
    refine (spoil_own _ c1 _ costs x w3 hO3).mono ?_
    rintro e4 w4 ⟨rfl, hF4⟩
    have hE4 := hE3.fr hF4 (fun k hk e => by cases e; omega)
    have hF04 : Fr (fun _ => False) w w4 := hF03.trans' hF4 (fun i hi e => by cases e; omega)
    have hEH : EH w.heap.size 35 (fun k => w1.heap.size ≤ k ∧ k < w2.heap.size) w4.heap [] [] none 0 none := ⟨Own.nil _ _ _, Nat.zero_le _, (fun _ h => nomatch h), fun k hk => by omega⟩
    clear hE3 hF03 hF4 hO3
    go_wp2
    go_loopw [13, 12] (fun s11 s10 wr => ∃ (k : Nat) (all : List Hea) (E : List Ent) (U : Nat → Prop) (aA : Option Addr) (cA : Nat) (ob : Option Nat), k ≤ l.length ∧ s11 = .int .i64 k ∧ s10 = .slice aA all.length cA ∧ Eng U wr be bn costs all E ac cc ∧ EH w.heap.size 35 U wr.heap all E aA cA ob ∧ Fr (fun _ => False) w wr ∧ all.length ≤ k) (fun s _ _ => l.length - (intOf s).toNat)
    case atStart => exact ⟨0, [], [], _, none, 0, none, by omega, rfl, rfl, hE4, hEH, hF04, Nat.le_refl _⟩
    case round =>
      clear hE4 hEH hF04
      obtain ⟨k, all, E, U, aA, cA, ob, hk, rfl, rfl, hE, hEH, hF, hak⟩ := hrel
      by_cases hkl : k < l.length
      · obtain ⟨g, o, rfl, hgl, hc⟩ := Recs.pos HL.out Hea.cells_len (by omega) (by omega)
        have dd := fun (W : World) (f : Fr (fun _ => False) w W) (j : Nat) (hj : j < 4) => (f.cell (p := ⟨g, o + (k * 4 + j), none⟩) hgl (fun h => h)).trans (hc w rfl k j hkl hj)
        have hx := HW.out _ (nth_mem l k hkl)
        generalize nth l k = x at *
        obtain ⟨xf, xa, xn, xm⟩ := x
        simp only [Hea.cells] at dd
        have DD := Lib.hid dd
        clear dd hc
        have d0 := DD.out wr hF 0 (by omega)
        have d1 := DD.out wr hF 1 (by omega)
        have d2 := DD.out wr hF 2 (by omega)
        have d3 := DD.out wr hF 3 (by omega)
        simp only [List.getElem?_cons_zero, List.getElem?_cons_succ, ← Nat.add_assoc, Nat.add_zero] at d0 d1 d2 d3
        go_wp2_with (fail)
        refine (set_any ⟨xf, xa, xn, xm⟩ wr hE hx.2.1 hx.1 (by omega) hEH.e64).mono ?_
        intro e3 w3 R3
        cases hs : setE costs E ⟨xf, xa, xn, xm⟩ with
        | some q =>
          obtain ⟨rfl, hF3⟩ := R3.errE hs
          have hE3 := hE.fr0 hF3
          have hEH3 : EH w.heap.size 35 U w3.heap all E aA cA ob := ⟨hEH.own.fr hF3 (fun _ _ h => h), hEH.e64, hEH.ap, hEH.hi⟩
          have hF03 := hF.trans hF3
          clear R3 hs hE hEH hF hF3 d0 d1 d2 d3
          go_wp2
          go_roundw
          case rel => exact ⟨k + 1, all, E, U, aA, cA, ob, by omega, by go_num, rfl, hE3, hEH3, hF03, by omega⟩
          case measure => simp [intOf]; omega
        | none =>
          obtain ⟨rfl, hF3, E', hE3, hkeys, -⟩ := R3.okE hs
          have h64 := keysE_len hs hkeys hEH.e64
          have hF03 : Fr (fun _ => False) w w3 := hF.trans' hF3 (fun i hi h => by have := hEH.hi i h; omega)
          have hO3 := hEH.own.fr hF3 (fun g hg h => (hEH.ap g hg).1 h)
          have hap := hEH.ap
          have hhi := hEH.hi
          have holt := hEH.own.lt
          have hws := hF.size
          have hs3 := hF3.size
          have hwz : w.heap.size < wr.heap.size := by have h1 := hhi _ hE.uE; have h2 := hE.lt _ hE.uE; omega
          have HAP := Lib.hid (show ∀ g, ob = some g → ¬ usesN U wr w3 g ∧ w.heap.size < g from fun g hg => ⟨fun h => by
            have h1 := holt g hg
            rcases h with h | h
            · exact (hap g hg).1 h
            · omega, (hap g hg).2⟩)
          have HHI := Lib.hid (show ∀ k, usesN U wr w3 k → w.heap.size < k from fun k hk => by
            rcases hk with h | h
            · exact hhi k h
            · omega)
          have HLT := Lib.hid (show ∀ k, usesN U wr w3 k → k < w3.heap.size from hE3.lt)
          clear R3 hs hkeys hE hEH hF hF3 d0 d1 d2 d3 hap hhi holt
          have d0 := DD.out w3 hF03 0 (by omega)
          have d1 := DD.out w3 hF03 1 (by omega)
          have d2 := DD.out w3 hF03 2 (by omega)
          have d3 := DD.out w3 hF03 3 (by omega)
          simp only [List.getElem?_cons_zero, List.getElem?_cons_succ, ← Nat.add_assoc, Nat.add_zero] at d0 d1 d2 d3
          have hrd := rd_lit w3 35 [.int .i64 xf, .int .u32 xa, .int .i64 xn, .int .i64 xm]
          have hOa := hO3.alloc (.cells #[.int .i64 xf, .int .u32 xa, .int .i64 xn, .int .i64 xm] 35)
          go_wp2_with (at_builtin; refine wpList_app rfl _ _ 23 rfl Try.underlying23 infoHea rfl (by decide) rfl rfl hOa hrd (by simp [Value.oneCell']) (by omega) (by omega) ?_)
          intro a8 c8 w8 ob8 v1 v2 v3
          have hFa := (Fr.refl (fun _ => False) w3).alloc (.cells #[.int .i64 xf, .int .u32 xa, .int .i64 xn, .int .i64 xm] 35)
          have hE8 := (hE3.fr0 hFa).fr v2 (fun k hk e => (HAP.out k e).1 hk)
          have hF8 : Fr (fun _ => False) w w8 := (hF03.trans hFa).trans' v2 (fun i hi e => by have := (HAP.out i e).2; omega)
          have hsz8 : w3.heap.size < w8.heap.size := by have := v2.size; simp at this; omega
          have hEH8 : EH w.heap.size 35 (usesN U wr w3) w8.heap (all ++ [⟨xf, xa, xn, xm⟩]) E' a8 c8 ob8 := by
            refine ⟨?_, h64, fun g hg => ?_, HHI.out⟩
            · rw [List.length_append, List.flatMap_append]
              exact v1
            · rcases v3 with v3 | ⟨g', v3, v4⟩
              · rw [v3] at hg; exact HAP.out g hg
              · rw [v3] at hg
                cases hg
                have : w3.heap.size ≤ g := by omega
                have h7 := hE3.uE
                have h8 := HHI.out _ h7
                have h9 := HLT.out _ h7
                exact ⟨fun h => by have := HLT.out g h; omega, by omega⟩
          clear v1 v2 v3 hrd hOa hFa hE3 hO3 hF03 d0 d1 d2 d3
          go_wp2
          go_roundw
          case rel => exact ⟨k + 1, all ++ [⟨xf, xa, xn, xm⟩], E', _, a8, c8, ob8, by omega, by go_num, by simp, hE8, hEH8, hF8, by simp; omega⟩
          case measure => simp [intOf]; omega
      · obtain rfl : k = l.length := by omega
        go_wp2_with (fail)
        refine (all_any wr hE hEH.e64).mono ?_
        rintro e5 w5 ⟨R, aR, cR, obR, rfl, hA5, -, -, -, hF5, hl5⟩
        have hR64 : R.length ≤ 64 := by have := hEH.e64; omega
        have HPW := Lib.hid hA5.pw
        have hrow : ∀ j, 0 ≤ j → j < R.length → ∃ o, Own w5.heap 3 1 (nth R j).A (nth R j).h.length (nth R j).C (ivals .i64 (nth R j).h) o ∧ ∀ g, o = some g → wr.heap.size ≤ g ∧ obR ≠ some g := fun j _ hj => hA5.row _ (nth_mem R j hj)
        have hown := hA5.own
        have HNW := Lib.hid hA5.new
        have HE := Lib.hid hE
        have HEH := Lib.hid hEH
        have HF := Lib.hid hF
        clear hA5 hl5 hE hEH hF
        obtain ⟨wA, hwA⟩ : ∃ wA, wA = wr := ⟨wr, rfl⟩
        subst hwA
        go_wp2
        go_loopw [15] (fun s15 wq => ∃ i : Nat, i ≤ R.length ∧ s15 = .int .i64 i ∧ Fr (fun _ => False) wA wq ∧ Own wq.heap 40 4 aR R.length cR (R.flatMap BestR.cells) obR ∧ Hid (∀ j, i ≤ j → j < R.length → ∃ o, Own wq.heap 3 1 (nth R j).A (nth R j).h.length (nth R j).C (ivals .i64 (nth R j).h) o ∧ ∀ g, o = some g → wA.heap.size ≤ g ∧ obR ≠ some g)) (fun s _ => R.length - (intOf s).toNat)
        case atStart => exact ⟨0, by omega, rfl, hF5, hown, Lib.hid hrow⟩
        case round =>
          clear hF5 hown hrow
          obtain ⟨i, hi, rfl, hFq, hOq, hRq⟩ := hrel
          by_cases hil : i < R.length
          · obtain ⟨g, o, rfl, hgl, hc⟩ := Recs.pos hOq.rd BestR.cells_len (by omega) (by omega)
            have d3 := hc wr rfl i 3 hil (by omega)
            obtain ⟨oi, hoi, hni⟩ := hRq.out i (Nat.le_refl _) hil
            have hpw : Hid (∀ j, i < j → j < R.length → ∀ p, (nth R i).A = some p → (nth R j).A ≠ some p) := Lib.hid (fun j hj hjl => pw_nth HPW.out hj hjl)
            obtain ⟨y, hy⟩ : ∃ y, y = nth R i := ⟨_, rfl⟩
            rw [← hy] at d3 hoi hpw
            have HY := Lib.hid hy
            have HNI := Lib.hid hni
            obtain ⟨ya, yn, ym, yh, yA, yC⟩ := y
            simp only [BestR.cells, List.getElem?_cons_zero, List.getElem?_cons_succ, ← Nat.add_assoc, Nat.add_zero] at d3
            simp only at hoi hpw
            clear hc hy hni
            go_wp2_with (fail)
            refine (spoil_own yA yC oi yh x wr hoi).mono ?_
            rintro e6 w6 ⟨rfl, hF6⟩
            have hFq6 : Fr (fun _ => False) wA w6 := hFq.trans' hF6 (fun k hk e => by have := (HNI.out k e).1; omega)
            have hOq6 := hOq.fr hF6 (fun g' hg' e => (HNI.out g' e).2 hg')
            have hRq6 := Lib.hid (show ∀ j, i + 1 ≤ j → j < R.length → ∃ o, Own w6.heap 3 1 (nth R j).A (nth R j).h.length (nth R j).C (ivals .i64 (nth R j).h) o ∧ ∀ g, o = some g → wA.heap.size ≤ g ∧ obR ≠ some g from fun j hj hjl => by
              obtain ⟨o', h1, h2⟩ := hRq.out j (by omega) hjl
              refine ⟨o', h1.fr hF6 (fun g' hg' e => ?_), h2⟩
              subst hg'
              subst e
              exact hpw.out j (by omega) hjl _ (ownAddr hoi) (ownAddr h1))
            clear hF6 hFq hOq hRq hoi d3
            go_wp2
            go_roundw
            case rel => exact ⟨i + 1, by omega, by go_num, hFq6, hOq6, hRq6⟩
            case measure => simp [intOf]; omega
          · obtain rfl : i = R.length := by omega
            have hE7 := HE.out.fr0 hFq
            have hO7 := HEH.out.own.fr hFq (fun _ _ h => h)
            have hF07 := HF.out.trans hFq
            clear hFq hOq hRq
            obtain ⟨wB, hwB⟩ : ∃ wB, wB = wr := ⟨wr, rfl⟩
            subst hwB
            go_wp2
            go_loopw [16] (fun s16 wz => ∃ i : Nat, i ≤ all.length ∧ s16 = .int .i64 i ∧ Fr (fun _ => False) wB wz) (fun s _ => all.length - (intOf s).toNat)
            case atStart => exact ⟨0, by omega, rfl, Fr.refl _ _⟩
            case round =>
              obtain ⟨i, hi, rfl, hFz⟩ := hrel
              by_cases hil : i < all.length
              · obtain ⟨g, o, rfl, hgl, hc⟩ := Recs.pos hO7.rd Hea.cells_len (by omega) (by omega)
                have hmem := nth_mem all i hil
                have hok := heardE_ok (hE7.ok _ hmem)
                have hwf : Nt.wf ⟨(nth all i).a, (nth all i).n⟩ := by
                  obtain ⟨z, hz, e⟩ := hE7.seen _ hmem
                  have h1 := (hE7.ents z hz).wf
                  rwa [e] at h1
                have dd : ∀ (W : World) (_ : Fr (fun _ => False) wr W) (j : Nat) (_ : j < 4), W.cell? ⟨g, o + (i * 4 + j), none⟩ = (Hea.cells (nth all i))[j]? := fun W f j hj => (f.cell (p := ⟨g, o + (i * 4 + j), none⟩) (Nat.lt_of_lt_of_le hgl hFz.size) (fun h => h)).trans ((hFz.cell (p := ⟨g, o + (i * 4 + j), none⟩) hgl (fun h => h)).trans (hc wB rfl i j hil hj))
                have hall : ∀ x ∈ all, 0 ≤ x.a ∧ x.a < 4294967296 := fun x hx => by
                  obtain ⟨y, hy, e⟩ := hE7.seen x hx
                  have h1 := (hE7.ents y hy).wf
                  rw [e] at h1
                  exact ⟨h1.1, h1.2.1⟩
                generalize nth all i = y at *
                obtain ⟨yf, ya, yn, ym⟩ := y
                simp only [Hea.cells] at dd hok hwf
                have DD := Lib.hid dd
                have d1 := DD.out wr (Fr.refl _ _) 1 (by omega)
                have d2 := DD.out wr (Fr.refl _ _) 2 (by omega)
                simp only [List.getElem?_cons_zero, List.getElem?_cons_succ, ← Nat.add_assoc, Nat.add_zero] at d1 d2
                have hEz := hE7.fr0 hFz
                have hbE := eng_bestE hEz ya yn
                have hlen4 := hEz.best4 ya yn
                have hget := get_any ya yn wr hEz hwf
                have HRD := Lib.hid (hO7.rd.fr hFz (fun _ _ _ h => h))
                have HALL := Lib.hid hall
                have HFz := Lib.hid hFz
                have HF0z := Lib.hid (hF07.trans hFz)
                obtain ⟨M, hM⟩ : ∃ M, M = bestM all costs ya yn := ⟨_, rfl⟩
                rw [← hM] at hget hlen4
                have HM := Lib.hid hM
                have HBE := Lib.hid (hbE.trans hok.2.2.1)
                have HNE2 := Lib.hid hok.2.2.1
                have HWF := Lib.hid hwf
                obtain ⟨sm, sh⟩ := M
                simp only at hlen4
                clear hM hc dd hmem hall hbE hok hwf hEz hFz
                go_wp2_with (fail)
                refine hget.mono ?_
                intro e8 w8 R8
                obtain ⟨a8, c8, ob8, he8, hO8, hF8, hN8⟩ := R8.okE HNE2.out
                simp only at he8 hO8
                subst he8
                have hX8 := hF8.alloc (.cells #[.int .u32 ya, .int .i64 yn, .int .i64 sm, .slice a8 sh.length c8] 40)
                have hB8 := Blk.made w8 40 [.int .u32 ya, .int .i64 yn, .int .i64 sm, .slice a8 sh.length c8]
                have hA8 := HRD.out.fr hX8 (fun _ _ _ h => h)
                have hO8' := hO8.alloc (.cells #[.int .u32 ya, .int .i64 yn, .int .i64 sm, .slice a8 sh.length c8] 40)
                have hX08 := HF0z.out.trans hX8
                have d1' := DD.out _ hX8 1 (by omega)
                have d2' := DD.out _ hX8 2 (by omega)
                simp only [List.getElem?_cons_zero, List.getElem?_cons_succ, ← Nat.add_assoc, Nat.add_zero] at d1' d2'
                have hcall := best_any all (some ⟨g, o, none⟩) cA costs ac0 cc0 ya yn _ hA8 HALL.out (by omega) (HC.out.fr0 hX08 (fun _ _ h => h)) (by omega) ⟨HWF.out.1, HWF.out.2.1⟩ rfl rfl
                rw [← HM.out] at hcall
                have hsz8 := hX8.size
                clear R8 hget hF8 hO8 d1 d2
                go_wp2_with (fail)
                refine hcall.mono ?_
                intro e9 w9 R9
                obtain ⟨a9, c9, ob9, he9, hO9, hF9, -⟩ := R9.okE HBE.out
                simp only at hO9 he9
                subst he9
                have hX9 := (hX8.trans hF9).alloc (.cells #[.int .u32 ya, .int .i64 yn, .int .i64 sm, .slice a9 sh.length c9] 40)
                have hB89 := (hB8.fr hF9 (fun h => h)).alloc (.cells #[.int .u32 ya, .int .i64 yn, .int .i64 sm, .slice a9 sh.length c9] 40)
                have hB9 := Blk.made w9 40 [.int .u32 ya, .int .i64 yn, .int .i64 sm, .slice a9 sh.length c9]
                have hI9 := (hO9.alloc (.cells #[.int .u32 ya, .int .i64 yn, .int .i64 sm, .slice a9 sh.length c9] 40)).rd
                have hO89 := (hO8'.fr hF9 (fun _ _ h => h)).alloc (.cells #[.int .u32 ya, .int .i64 yn, .int .i64 sm, .slice a9 sh.length c9] 40)
                have x0 := hB89.cell 0
                have x1 := hB89.cell 1
                have x2 := hB89.cell 2
                have x3 := hB89.cell 3
                have y0 := hB9.cell 0
                have y1 := hB9.cell 1
                have y2 := hB9.cell 2
                have y3 := hB9.cell 3
                simp only [List.getElem?_cons_succ, List.getElem?_cons_zero] at x0 x1 x2 x3 y0 y1 y2 y3
                clear R9 hcall hX8 hA8 hF9 hO9 hO8' hB8 d1' d2' hX08 hB9
                go_wp2_with (fail)
                refine (sbest_any ⟨ya, yn, sm, sh, a8, c8⟩ ⟨ya, yn, sm, sh, a9, c9⟩ _ hO89.rd hI9 (by simp only; omega) (by simp only; omega)).mono ?_
                rintro e10 w10 ⟨rfl, hF10⟩
                rw [show bEq ⟨ya, yn, sm, sh, a8, c8⟩ ⟨ya, yn, sm, sh, a9, c9⟩ = true from decide_eq_true ⟨rfl, rfl, rfl, rfl⟩]
                have hX10 := hX9.trans hF10
                have hO10 := hO89.fr hF10 (fun _ _ h => h)
                have hB10 := hB89.fr hF10 (fun h => h)
                have x3 := hB10.cell 3
                have xl := hB10.lt
                simp only [List.getElem?_cons_succ, List.getElem?_cons_zero] at x3
                clear hF10 hX9 hO89 hB89 hI9 hB10 x0 x1 x2 y0 y1 y2 y3
                go_wp2_with (fail)
                refine (spoil_own a8 c8 ob8 sh x w10 hO10).mono ?_
                rintro e11 w11 ⟨rfl, hF11⟩
                have hz11 : Fr (fun _ => False) wB w11 := HFz.out.trans (hX10.trans' hF11 (fun k hk e => by have := hN8 k e; omega))
                clear hX10 hO10 hF11 x3 xl
                go_wp2
                go_roundw
                case rel => exact ⟨i + 1, by omega, by go_num, hz11⟩
                case measure => simp [intOf]; omega
              · obtain rfl : i = all.length := by omega
                have hfin := hF07.trans hFz
                go_wp2
                go_ret
                exact RetV.mk rfl rfl hfin
end Go.Proofs.Ytfjempfffdeklaa
