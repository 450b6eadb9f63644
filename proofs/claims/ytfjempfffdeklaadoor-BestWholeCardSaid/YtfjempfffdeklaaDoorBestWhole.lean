import Derived.Test.YtfjempfffdeklaaDoorEngSet
import Derived.Test.YtfjempfffdeklaaDoorEngGet
import Derived.Test.YtfjempfffdeklaaDoorChosen
import Derived.Test.YtfjempfffdeklaaDoorBestSame
import Derived.Test.YtfjempfffdeklaaDoorArgHea
import Derived.Test.YtfjempfffdeklaaDoorErrSame
namespace Go
theorem keysE_len {costs : List Int} {E E' : List Ent} {h : Hea} (hs : setE costs E h = none) (he : E'.map (·.key) = keysE E ⟨h.a, h.n⟩) (hl : E.length ≤ 64) : E'.length ≤ 64 := by
  have h1 : E'.length = (keysE E ⟨h.a, h.n⟩).length := by rw [← he]; simp
  unfold keysE at h1
  by_cases hk : hasK E ⟨h.a, h.n⟩
  · rw [if_pos hk] at h1; simp at h1; omega
  · rw [if_neg hk] at h1
    simp at h1
    unfold setE at hs
    split at hs
    · cases hs
    · split at hs
      · cases hs
      · rename_i hn
        have : ¬ E.length = 64 := fun e => hn ⟨hk, e⟩
        omega
/-- An engine beside what is kept of what it heard. -/
structure EH (B : Nat) (T : TypeId) (U : Nat → Prop) (H : Array Obj) (all : List Hea) (E : List Ent) (aA : Option Addr) (cA : Nat) (ob : Option Nat) : Prop where
  own : Own H T 4 aA all.length cA (all.flatMap Hea.cells) ob
  e64 : E.length ≤ 64
  ap : ∀ g, ob = some g → ¬ U g ∧ B < g
  hi : ∀ k, U k → B < k
end Go
namespace Go.Proofs.YtfjempfffdeklaaDoor
open Go.RowKit Go.Maps
theorem infoHea : (Tryd.prog.info? 51).map (fun i => (i.zero, i.size, i.bytes)) = some (some (.agg #[.int .i64 0, .int .u32 0, .int .i64 0, .int .i64 0]), 4, 32) := by kernel_rfl
theorem eng_bestE {U : Nat → Prop} {w : World} {be bn : Nat} {costs : List Int} {all : List Hea} {E : List Ent} {ac : Option Addr} {cc : Nat} (h : Eng U w be bn costs all E ac cc) (a n : Int) : bestE all costs a n = netErr a n := by
  have h1 : ∀ l : List Hea, (∀ x ∈ l, heardE costs.length x = none) → heardsE costs.length l = none := by
    intro l
    induction l with
    | nil => intro _; rfl
    | cons x l ih => intro hl; unfold heardsE; rw [hl x (by simp)]; exact ih (fun y hy => hl y (by simp [hy]))
  unfold bestE
  rw [h.near]
  simp only [h1 all h.ok]
set_option maxRecDepth 100000 in
set_option maxHeartbeats 8000000 in
theorem bestWhole_any (costs : List Int) (ac0 : Option Addr) (cc0 : Nat) (l : List Hea) (al : Option Addr) (cl : Nat) (a n : Int) (w : World) (hg : Hd w) (hL : Recs w.heap al 4 Hea.cells l) (hw : ∀ x ∈ l, Hea.wf x) (hll : l.length * 32 ≤ 140737488351232) (hC : Ints w.heap ac0 costs) (hcl : costs.length ≤ 9223372036854775806) (ha : Nt.wf ⟨a, n⟩) :
    Calls Tryd.prog 6 #[.slice ac0 costs.length cc0, .slice al l.length cl, .agg #[.int .u32 a, .int .i64 n]] w (RetV w (.bool true)) := by
  have HL := Lib.hid hL
  have HW := Lib.hid hw
  have HC := Lib.hid hC
  have HA := Lib.hid ha
  have k0 : Blk (w.alloc (.cells #[.int .u32 a, .int .i64 n] 37)).heap w.heap.size 37 [.int .u32 a, .int .i64 n] := Blk.made w 37 [.int .u32 a, .int .i64 n]
  have hF0 := (Fr.refl (fun _ => False) w).alloc (.cells #[.int .u32 a, .int .i64 n] 37)
  clear hL hw hC ha
  go_enter Tryd.func6, Tryd.ntmps6
  go_wp2_with (fail)
  refine (chosen3_any _).mono ?_
  rintro e1 w1 ⟨rfl, hF1⟩
  have k1 := k0.fr hF1 (fun h => h)
  have hF01 := hF0.trans hF1
  clear k0 hF0 hF1
  go_wp2_with (fail)
  refine (engNew_any costs ac0 cc0 w1 (HC.out.fr0 hF01 (fun _ _ h => h)) (by omega) rfl).mono ?_
  intro e2 w2 R2
  cases hne : nearE costs with
  | some q =>
    obtain ⟨rfl, hF2⟩ := R2.errE hne
    have hF02 := hF01.trans hF2
    clear R2 hne
    go_wp2
    go_ret
    exact RetV.mk rfl rfl hF02
  | none =>
    obtain ⟨be, bn, ac, cc, rfl, hE2, hF2⟩ := R2.okE hne
    have hF02 := hF01.trans hF2
    have hB2 := k1.fr hF2 (fun h => h)
    have hk1 := k1.lt
    have hEH : EH w.heap.size 51 (fun k => w1.heap.size ≤ k ∧ k < w2.heap.size) w2.heap [] [] none 0 none := ⟨Own.nil _ _ _, Nat.zero_le _, (fun _ h => nomatch h), fun k hk => by omega⟩
    clear R2 hne hF2 k1 hF01
    go_wp2
    go_loopw [11, 10] (fun s11 s10 wr => ∃ (k : Nat) (all : List Hea) (E : List Ent) (U : Nat → Prop) (aA : Option Addr) (cA : Nat) (ob : Option Nat), k ≤ l.length ∧ s11 = .int .i64 k ∧ s10 = .slice aA all.length cA ∧ Eng U wr be bn costs all E ac cc ∧ EH w.heap.size 51 U wr.heap all E aA cA ob ∧ Blk wr.heap w.heap.size 37 [.int .u32 a, .int .i64 n] ∧ Fr (fun _ => False) w wr ∧ all.length ≤ k) (fun s _ _ => l.length - (intOf s).toNat)
    case atStart => exact ⟨0, [], [], _, none, 0, none, by omega, rfl, rfl, hE2, hEH, hB2, hF02, Nat.le_refl _⟩
    case round =>
      clear hE2 hEH hB2 hF02
      obtain ⟨k, all, E, U, aA, cA, ob, hk, rfl, rfl, hE, hEH, hB, hF, hak⟩ := hrel
      by_cases hkl : k < l.length
      · obtain ⟨g, o, rfl, hgl, hc⟩ := Recs.pos HL.out Hea.cells_len (by omega) (by omega)
        have dd := fun (W : World) (f : Fr (fun _ => False) w W) (j : Nat) (hj : j < 4) => (f.cell (p := ⟨g, o + (k * 4 + j), none⟩) hgl (fun h => h)).trans (hc w rfl k j hkl hj)
        have hx := HW.out _ (nth_mem l k hkl)
        generalize nth l k = x at *
        obtain ⟨xf, xa, xn, xm⟩ := x
        simp only [Hea.cells] at dd
        have DD := Lib.hid dd
        clear dd hc
        have d0 := DD.out wr hF 0 (by omega)
        have d1 := DD.out wr hF 1 (by omega)
        have d2 := DD.out wr hF 2 (by omega)
        have d3 := DD.out wr hF 3 (by omega)
        simp only [List.getElem?_cons_zero, List.getElem?_cons_succ, ← Nat.add_assoc, Nat.add_zero] at d0 d1 d2 d3
        go_wp2_with (fail)
        refine (set_any ⟨xf, xa, xn, xm⟩ wr hE hx.2.1 hx.1 (by omega) hEH.e64).mono ?_
        intro e3 w3 R3
        cases hs : setE costs E ⟨xf, xa, xn, xm⟩ with
        | some q =>
          obtain ⟨rfl, hF3⟩ := R3.errE hs
          have hE3 := hE.fr0 hF3
          have hEH3 : EH w.heap.size 51 U w3.heap all E aA cA ob := ⟨hEH.own.fr hF3 (fun _ _ h => h), hEH.e64, hEH.ap, hEH.hi⟩
          have hB3 := hB.fr hF3 (fun h => h)
          have hF03 := hF.trans hF3
          clear R3 hs hE hEH hB hF hF3 d0 d1 d2 d3
          go_wp2
          go_roundw
          case rel => exact ⟨k + 1, all, E, U, aA, cA, ob, by omega, by go_num, rfl, hE3, hEH3, hB3, hF03, by omega⟩
          case measure => simp [intOf]; omega
        | none =>
          obtain ⟨rfl, hF3, E', hE3, hkeys, -⟩ := R3.okE hs
          have h64 := keysE_len hs hkeys hEH.e64
          have hF03 : Fr (fun _ => False) w w3 := hF.trans' hF3 (fun i hi h => by have := hEH.hi i h; omega)
          have hB3 := hB.fr hF3 (fun h => by have := hEH.hi _ h; omega)
          have hO3 := hEH.own.fr hF3 (fun g hg h => (hEH.ap g hg).1 h)
          have hap := hEH.ap
          have hhi := hEH.hi
          have holt := hEH.own.lt
          have hws := hF.size
          have hs3 := hF3.size
          have HAP := Lib.hid (show ∀ g, ob = some g → ¬ usesN U wr w3 g ∧ w.heap.size < g from fun g hg => ⟨fun h => by
            have h1 := holt g hg
            rcases h with h | h
            · exact (hap g hg).1 h
            · omega, (hap g hg).2⟩)
          have hwb := hB.lt
          have HHI := Lib.hid (show ∀ k, usesN U wr w3 k → w.heap.size < k from fun k hk => by
            rcases hk with h | h
            · exact hhi k h
            · omega)
          have HLT := Lib.hid (show ∀ k, usesN U wr w3 k → k < w3.heap.size from hE3.lt)
          clear R3 hs hkeys hE hEH hB hF hF3 d0 d1 d2 d3 hap hhi holt
          have d0 := DD.out w3 hF03 0 (by omega)
          have d1 := DD.out w3 hF03 1 (by omega)
          have d2 := DD.out w3 hF03 2 (by omega)
          have d3 := DD.out w3 hF03 3 (by omega)
          simp only [List.getElem?_cons_zero, List.getElem?_cons_succ, ← Nat.add_assoc, Nat.add_zero] at d0 d1 d2 d3
          have hrd := rd_lit w3 51 [.int .i64 xf, .int .u32 xa, .int .i64 xn, .int .i64 xm]
          have hOa := hO3.alloc (.cells #[.int .i64 xf, .int .u32 xa, .int .i64 xn, .int .i64 xm] 51)
          go_wp2_with (at_builtin; refine wpList_app rfl _ _ 47 rfl Tryd.underlying47 infoHea rfl (by decide) rfl rfl hOa hrd (by simp [Value.oneCell']) (by omega) (by omega) ?_)
          intro a8 c8 w8 ob8 v1 v2 v3
          have hFa := (Fr.refl (fun _ => False) w3).alloc (.cells #[.int .i64 xf, .int .u32 xa, .int .i64 xn, .int .i64 xm] 51)
          have hE8 := (hE3.fr0 hFa).fr v2 (fun k hk e => (HAP.out k e).1 hk)
          have hB8 := (hB3.fr hFa (fun h => h)).fr v2 (fun e => by have := (HAP.out _ e).2; omega)
          have hF8 : Fr (fun _ => False) w w8 := (hF03.trans hFa).trans' v2 (fun i hi e => by have := (HAP.out i e).2; omega)
          have hsz8 : w3.heap.size < w8.heap.size := by have := v2.size; simp at this; omega
          have hEH8 : EH w.heap.size 51 (usesN U wr w3) w8.heap (all ++ [⟨xf, xa, xn, xm⟩]) E' a8 c8 ob8 := by
            refine ⟨?_, h64, fun g hg => ?_, HHI.out⟩
            · rw [List.length_append, List.flatMap_append]
              exact v1
            · rcases v3 with v3 | ⟨g', v3, v4⟩
              · rw [v3] at hg; exact HAP.out g hg
              · rw [v3] at hg
                cases hg
                have : w3.heap.size ≤ g := by omega
                exact ⟨fun h => by have := HLT.out g h; omega, by have := hB3.lt; omega⟩
          clear v1 v2 v3 hrd hOa hFa hE3 hB3 hO3 hF03 d0 d1 d2 d3
          go_wp2
          go_roundw
          case rel => exact ⟨k + 1, all ++ [⟨xf, xa, xn, xm⟩], E', _, a8, c8, ob8, by omega, by go_num, by simp, hE8, hEH8, hB8, hF8, by simp; omega⟩
          case measure => simp [intOf]; omega
      · obtain rfl : k = l.length := by omega
        have c0 := hB.cell 0
        have c1 := hB.cell 1
        have hlb := hB.lt
        simp only [List.getElem?_cons_succ, List.getElem?_cons_zero] at c0 c1
        have hbE := eng_bestE hE a n
        have HBE := Lib.hid hbE
        have hlen4 : (bestM all costs a n).2.length ≤ 4 := (chK_bd (fun i => lastO all i a n) costs (fun i m h => lastO_bd (fun y hy => (heardE_ok (hE.ok y hy)).2.2.2) h) (nearE_ok hE.near).2 costs.length (Nat.le_refl _)).2.2.1
        have hall : ∀ x ∈ all, 0 ≤ x.a ∧ x.a < 4294967296 := fun x hx => by
          obtain ⟨y, hy, e⟩ := hE.seen x hx
          have h1 := (hE.ents y hy).wf
          rw [e] at h1
          exact ⟨h1.1, h1.2.1⟩
        have HALL := Lib.hid hall
        obtain ⟨M, hM⟩ : ∃ M, M = bestM all costs a n := ⟨_, rfl⟩
        rw [← hM] at hlen4
        have hget := get_any a n wr hE HA.out
        rw [← hM] at hget
        have HM := Lib.hid hM
        obtain ⟨sm, sh⟩ := M
        have hrdA := hEH.own.rd
        have HRD := Lib.hid hrdA
        simp only at hlen4
        clear hbE hall hM hrdA hE hEH
        go_wp2_with (fail)
        refine hget.mono ?_
        intro e4 w4 R4
        cases hne : netErr a n with
        | some q =>
          obtain ⟨rfl, hF4⟩ := R4.errE hne
          have hX4 := (hF.trans hF4).alloc (.cells #[.int .u32 0, .int .i64 0, .int .i64 0, .slice none 0 0] 40)
          have hB4 := (hB.fr hF4 (fun h => h)).alloc (.cells #[.int .u32 0, .int .i64 0, .int .i64 0, .slice none 0 0] 40)
          have hN4 := Blk.made w4 40 [.int .u32 0, .int .i64 0, .int .i64 0, .slice none 0 0]
          have hA4 := HRD.out.fr (hF4.alloc (.cells #[.int .u32 0, .int .i64 0, .int .i64 0, .slice none 0 0] 40)) (fun _ _ _ h => h)
          have HNE := Lib.hid hne
          clear R4 hget hF4 hF hB c0 c1 hlb hne
          have c0 := hB4.cell 0
          have c1 := hB4.cell 1
          simp only [List.getElem?_cons_succ, List.getElem?_cons_zero] at c0 c1
          go_wp2_with (fail)
          have hcall := best_any all aA cA costs ac0 cc0 a n _ hA4 HALL.out (by omega) (HC.out.fr0 hX4 (fun _ _ h => h)) (by omega) ⟨HA.out.1, HA.out.2.1⟩ rfl rfl
          refine hcall.mono ?_
          intro e5 w5 R5
          obtain ⟨rfl, hF5⟩ := R5.errE (HBE.out.trans HNE.out)
          have hX5 := (hX4.trans hF5).alloc (.cells #[.int .u32 0, .int .i64 0, .int .i64 0, .slice none 0 0] 40)
          have hN5 := (hN4.fr hF5 (fun h => h)).alloc (.cells #[.int .u32 0, .int .i64 0, .int .i64 0, .slice none 0 0] 40)
          have hM5 := Blk.made w5 40 [.int .u32 0, .int .i64 0, .int .i64 0, .slice none 0 0]
          clear R5 hcall hX4 hB4 hN4 hA4 hF5 c0 c1
          go_wp2_with (fail)
          refine (told2_any (some q) (some q) _ (hg.none hX5)).mono ?_
          rintro e6 w6 ⟨rfl, hF6⟩
          rw [show (errN (some q) == errN (some q)) = true from by simp]
          have hX6 := hX5.trans hF6
          have x0 := (hN5.fr hF6 (fun h => h)).cell 0
          have x1 := (hN5.fr hF6 (fun h => h)).cell 1
          have x2 := (hN5.fr hF6 (fun h => h)).cell 2
          have x3 := (hN5.fr hF6 (fun h => h)).cell 3
          have y0 := (hM5.fr hF6 (fun h => h)).cell 0
          have y1 := (hM5.fr hF6 (fun h => h)).cell 1
          have y2 := (hM5.fr hF6 (fun h => h)).cell 2
          have y3 := (hM5.fr hF6 (fun h => h)).cell 3
          simp only [List.getElem?_cons_succ, List.getElem?_cons_zero] at x0 x1 x2 x3 y0 y1 y2 y3
          clear hN5 hM5 hF6 hX5
          go_wp2_with (fail)
          refine (sbest_any ⟨0, 0, 0, [], none, 0⟩ ⟨0, 0, 0, [], none, 0⟩ w6 (Rd.nil _ _ _) (Rd.nil _ _ _) (by simp) (by simp)).mono ?_
          rintro e7 w7 ⟨rfl, hF7⟩
          rw [show bEq ⟨0, 0, 0, [], none, 0⟩ ⟨0, 0, 0, [], none, 0⟩ = true from decide_eq_true ⟨rfl, rfl, rfl, rfl⟩]
          have hX7 := hX6.trans hF7
          go_wp2
          go_ret
          exact RetV.mk rfl rfl hX7
        | none =>
          obtain ⟨a4, c4, ob4, rfl, hO4, hF4, hN4⟩ := R4.okE hne
          simp only at hO4 ⊢
          have hX4 := (hF.trans hF4).alloc (.cells #[.int .u32 a, .int .i64 n, .int .i64 sm, .slice a4 sh.length c4] 40)
          have hB4 := (hB.fr hF4 (fun h => h)).alloc (.cells #[.int .u32 a, .int .i64 n, .int .i64 sm, .slice a4 sh.length c4] 40)
          have hN4 := Blk.made w4 40 [.int .u32 a, .int .i64 n, .int .i64 sm, .slice a4 sh.length c4]
          have hA4 := HRD.out.fr (hF4.alloc (.cells #[.int .u32 a, .int .i64 n, .int .i64 sm, .slice a4 sh.length c4] 40)) (fun _ _ _ h => h)
          have hI4 := (hO4.alloc (.cells #[.int .u32 a, .int .i64 n, .int .i64 sm, .slice a4 sh.length c4] 40)).rd
          have HNE := Lib.hid hne
          clear R4 hget hF4 hF hB c0 c1 hlb hne hO4
          have c0 := hB4.cell 0
          have c1 := hB4.cell 1
          simp only [List.getElem?_cons_succ, List.getElem?_cons_zero] at c0 c1
          go_wp2_with (fail)
          have hcall := best_any all aA cA costs ac0 cc0 a n _ hA4 HALL.out (by omega) (HC.out.fr0 hX4 (fun _ _ h => h)) (by omega) ⟨HA.out.1, HA.out.2.1⟩ rfl rfl
          rw [← HM.out] at hcall
          refine hcall.mono ?_
          intro e5 w5 R5
          obtain ⟨a5, c5, ob5, he5, hO5, hF5, -⟩ := R5.okE (HBE.out.trans HNE.out)
          simp only at hO5 he5
          subst he5
          have hX5 := (hX4.trans hF5).alloc (.cells #[.int .u32 a, .int .i64 n, .int .i64 sm, .slice a5 sh.length c5] 40)
          have hN5 := (hN4.fr hF5 (fun h => h)).alloc (.cells #[.int .u32 a, .int .i64 n, .int .i64 sm, .slice a5 sh.length c5] 40)
          have hM5 := Blk.made w5 40 [.int .u32 a, .int .i64 n, .int .i64 sm, .slice a5 sh.length c5]
          have hI5 := (hO5.alloc (.cells #[.int .u32 a, .int .i64 n, .int .i64 sm, .slice a5 sh.length c5] 40)).rd
          have hI45 := hI4.fr (hF5.alloc (.cells #[.int .u32 a, .int .i64 n, .int .i64 sm, .slice a5 sh.length c5] 40)) (fun _ _ _ h => h)
          clear R5 hcall hX4 hB4 hN4 hA4 hF5 c0 c1 hO5 hI4
          go_wp2_with (fail)
          refine (told2_any none none _ (hg.none hX5)).mono ?_
          rintro e6 w6 ⟨rfl, hF6⟩
          rw [show (errN none == errN none) = true from rfl]
          have hX6 := hX5.trans hF6
          have x0 := (hN5.fr hF6 (fun h => h)).cell 0
          have x1 := (hN5.fr hF6 (fun h => h)).cell 1
          have x2 := (hN5.fr hF6 (fun h => h)).cell 2
          have x3 := (hN5.fr hF6 (fun h => h)).cell 3
          have y0 := (hM5.fr hF6 (fun h => h)).cell 0
          have y1 := (hM5.fr hF6 (fun h => h)).cell 1
          have y2 := (hM5.fr hF6 (fun h => h)).cell 2
          have y3 := (hM5.fr hF6 (fun h => h)).cell 3
          have hJ4 := hI45.fr hF6 (fun _ _ _ h => h)
          have hJ5 := hI5.fr hF6 (fun _ _ _ h => h)
          simp only [List.getElem?_cons_succ, List.getElem?_cons_zero] at x0 x1 x2 x3 y0 y1 y2 y3
          clear hN5 hM5 hF6 hX5 hI5 hI45
          go_wp2_with (fail)
          refine (sbest_any ⟨a, n, sm, sh, a4, c4⟩ ⟨a, n, sm, sh, a5, c5⟩ w6 hJ4 hJ5 (by simp only; omega) (by simp only; omega)).mono ?_
          rintro e7 w7 ⟨rfl, hF7⟩
          rw [show bEq ⟨a, n, sm, sh, a4, c4⟩ ⟨a, n, sm, sh, a5, c5⟩ = true from decide_eq_true ⟨rfl, rfl, rfl, rfl⟩]
          have hX7 := hX6.trans hF7
          go_wp2
          go_ret
          exact RetV.mk rfl rfl hX7
end Go.Proofs.YtfjempfffdeklaaDoor
