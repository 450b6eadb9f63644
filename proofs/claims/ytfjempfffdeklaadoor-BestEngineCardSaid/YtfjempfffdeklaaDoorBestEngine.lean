import Derived.Test.YtfjempfffdeklaaDoorEngNews
import Derived.Test.YtfjempfffdeklaaDoorBestOf
import Derived.Test.YtfjempfffdeklaaDoorChosen
import Derived.Test.YtfjempfffdeklaaDoorBestSame
import Derived.Test.YtfjempfffdeklaaDoorErrSame
import Derived.Test.YtfjempfffdeklaaDoorNetFault
import Derived.Test.YtfjempfffdeklaaDoorAnyW
import Derived.Test.YtfjempfffdeklaaDoorTree
import Derived.Test.YtfjempfffdeklaaDoorArgRecs
import Derived.Test.YtfjempfffdeklaaDoorPut4
namespace Go.Proofs.YtfjempfffdeklaaDoor
open Go.RowKit Go.Maps
theorem hea_flat_one (l : List Hea) : ∀ u ∈ l.flatMap Hea.cells, u.oneCell' = true := fun u hu => by
  obtain ⟨x, _, hx⟩ := List.mem_flatMap.1 hu
  simp only [Hea.cells, List.mem_cons, List.not_mem_nil, or_false] at hx
  rcases hx with rfl | rfl | rfl | rfl <;> rfl
theorem Alls.bests {base : Nat} {H : Array Obj} {R : List BestR} {aR : Option Addr} {cR : Nat} {ob : Option Nat} (h : Alls base H R aR cR ob) (h4 : ∀ x ∈ R, x.h.length ≤ 4) : BestsR H aR R :=
  ⟨h.own.rd, fun x hx => by obtain ⟨o, h1, -⟩ := h.row x hx; exact h1.rd, fun x hx => by have := h4 x hx; omega⟩
theorem bests_alike {R Y : List BestR} {f : Int → Int → Int × List Int} (hn : R.map (fun x => (⟨x.a, x.n⟩ : Nt)) = Y.map (fun x => (⟨x.a, x.n⟩ : Nt))) (hR : ∀ x ∈ R, (x.m, x.h) = f x.a x.n) (hY : ∀ x ∈ Y, (x.m, x.h) = f x.a x.n) : Y.length = R.length ∧ ∀ i, i < R.length → bEq (nth R i) (nth Y i) = true := by
  have hl : Y.length = R.length := by have := congrArg List.length hn; simpa using this.symm
  refine ⟨hl, fun i hi => ?_⟩
  have h1 : nth (R.map (fun x => (⟨x.a, x.n⟩ : Nt))) i = nth (Y.map (fun x => (⟨x.a, x.n⟩ : Nt))) i := by rw [hn]
  rw [nth_map _ _ _ hi, nth_map _ _ _ (by omega)] at h1
  have hx := hR _ (nth_mem R i hi)
  have hy := hY _ (nth_mem Y i (by omega))
  simp only [Nt.mk.injEq] at h1
  rw [h1.1, h1.2, ← hy] at hx
  simp only [Prod.mk.injEq] at hx
  exact decide_eq_true ⟨hx.2, h1.1, h1.2, hx.1⟩
theorem nearE_ne {costs : List Int} {q : Int} (h : nearE costs = some q) : q ≠ 0 := by
  unfold nearE at h
  split at h
  · cases h; decide
  · cases h
theorem setE_cases (costs : List Int) (E : List Ent) (x : Hea) : (∃ q, heardE costs.length x = some q ∧ setE costs E x = some q ∧ q ≠ 0) ∨ (heardE costs.length x = none ∧ (¬ hasK E ⟨x.a, x.n⟩ ∧ E.length = 64) ∧ setE costs E x = some 4) ∨ (heardE costs.length x = none ∧ ¬ (¬ hasK E ⟨x.a, x.n⟩ ∧ E.length = 64) ∧ setE costs E x = none) := by
  unfold setE
  cases h : heardE costs.length x with
  | some q =>
    refine .inl ⟨q, rfl, rfl, ?_⟩
    unfold heardE at h
    split at h
    · cases h; decide
    · split at h
      · rename_i hn; cases h; exact netErr_pos hn
      · split at h
        · cases h; decide
        · cases h
  | none =>
    by_cases hh : ¬ hasK E ⟨x.a, x.n⟩ ∧ E.length = 64
    · exact .inr (.inl ⟨rfl, hh, by simp only; rw [if_pos hh]⟩)
    · exact .inr (.inr ⟨rfl, hh, by simp only; rw [if_neg hh]⟩)

set_option maxRecDepth 100000 in
set_option maxHeartbeats 32000000 in
theorem bestEngine_any (costs : List Int) (ac0 : Option Addr) (cc0 : Nat) (l : List Hea) (al : Option Addr) (cl : Nat) (asks : List Bool) (aa : Option Addr) (ca : Nat) (a n : Int) (w : World) (hg : Hd w) (hL : Recs w.heap al 4 Hea.cells l) (hw : ∀ x ∈ l, Hea.wf x) (hll : l.length * 32 ≤ 140737488351232) (hC : Ints w.heap ac0 costs) (hcl : costs.length ≤ 9223372036854775806) (hA : Recs w.heap aa 1 bcells asks) (hal : asks.length ≤ 9223372036854775806) (ha : Nt.wf ⟨a, n⟩) :
    Calls Tryd.prog 7 #[.slice ac0 costs.length cc0, .slice al l.length cl, .slice aa asks.length ca, .agg #[.int .u32 a, .int .i64 n]] w (RetV w (.bool true)) := by
  have HL := Lib.hid hL
  have HW := Lib.hid hw
  have HC := Lib.hid hC
  have HAK := Lib.hid hA
  have HA := Lib.hid ha
  have k0 : Blk (w.alloc (.cells #[.int .u32 a, .int .i64 n] 37)).heap w.heap.size 37 [.int .u32 a, .int .i64 n] := Blk.made w 37 [.int .u32 a, .int .i64 n]
  have hF0 := (Fr.refl (fun _ => False) w).alloc (.cells #[.int .u32 a, .int .i64 n] 37)
  clear hL hw hC hA ha
  go_enter Tryd.func7, Tryd.ntmps7
  go_wp2_with (fail)
  refine (chosen3_any _).mono ?_
  rintro e1 w1 ⟨rfl, hF1⟩
  have k1 := k0.fr hF1 (fun h => h)
  have hF01 := hF0.trans hF1
  clear k0 hF0 hF1
  go_wp2_with (fail)
  refine (engNew_any costs ac0 cc0 w1 (HC.out.fr0 hF01 (fun _ _ h => h)) (by omega) rfl).mono ?_
  intro e2 w2 R2
  cases hne : nearE costs with
  | some q =>
    obtain ⟨rfl, hF2⟩ := R2.errE hne
    have hF02 := hF01.trans hF2
    have hq0 := nearE_ne hne
    have hnf := nearFault_any (n := costs.length) costs ac0 cc0 w2 (HC.out.fr0 hF02 (fun _ _ h => h)) rfl (by omega)
    rw [hne] at hnf
    have eq0 : (q == 0) = false := by simp [hq0]
    have eq1 : (q != 0) = true := by simp [hq0]
    clear R2 hne hq0
    go_wp2_with (fail)
    refine hnf.mono ?_
    rintro e3 w3 ⟨rfl, rfl⟩
    rw [show numO (some q) = q from rfl]
    clear hnf
    go_wp2_with (fail)
    refine (error_any (some q) q _ (hg.none hF02)).mono ?_
    rintro e4 w4 ⟨rfl, hF4⟩
    rw [show (errN (some q) == q) = true from by simp [errN]]
    have hF04 := hF02.trans hF4
    go_wp2
    go_ret
    exact RetV.mk rfl rfl hF04
  | none =>
    obtain ⟨be, bn, ac, cc, rfl, hE2, hF2⟩ := R2.okE hne
    have hF02 := hF01.trans hF2
    have hB2 := k1.fr hF2 (fun h => h)
    have hk1 := k1.lt
    have hnf := nearFault_any (n := costs.length) costs ac0 cc0 w2 (HC.out.fr0 hF02 (fun _ _ h => h)) rfl (by omega)
    rw [hne] at hnf
    obtain ⟨hn8, hcb⟩ := nearE_ok hne
    have HCB := Lib.hid hcb
    clear R2 hne hF2 k1 hF01 hcb
    go_wp2_with (fail)
    refine hnf.mono ?_
    rintro e3 w3 ⟨rfl, rfl⟩
    rw [show numO none = 0 from rfl]
    clear hnf
    go_wp2_with (fail)
    refine (error_any none 0 _ (hg.none hF02)).mono ?_
    rintro e4 w4 ⟨rfl, hF4⟩
    rw [show (errN none == 0) = true from rfl]
    have hS0 : BSt w costs be bn ac cc a n w4 0 [] [] [] (fun k => w1.heap.size ≤ k ∧ k < w2.heap.size) none 0 none none 0 none :=
      ⟨hE2.fr0 hF4, ⟨Own.nil _ _ _, Nat.zero_le _, (fun _ h => nomatch h), fun k hk => by omega⟩, Own.nil _ _ _, (fun _ h => nomatch h), hB2.fr hF4 (fun h => h), hF02.trans hF4, Nat.le_refl _, Nat.le_refl _, fun q => by rw [bestM_none (fun _ h => absurd h (by simp))]; rfl, fun q => ⟨fun ⟨x, hx, _⟩ => (nomatch hx), fun h => absurd h (by simp [fstN])⟩, (fun _ h => nomatch h)⟩
    clear hF02 hB2 hE2 hF4
    go_wp2
    go_loopw [16, 14, 15] (fun s16 s14 s15 wr => ∃ (k : Nat) (all sh : List Hea) (E : List Ent) (U : Nat → Prop) (aA : Option Addr) (cA : Nat) (ob : Option Nat) (aS : Option Addr) (cS : Nat) (obS : Option Nat), k ≤ l.length ∧ s16 = .int .i64 k ∧ s14 = .slice aA all.length cA ∧ s15 = .slice aS sh.length cS ∧ BSt w costs be bn ac cc a n wr k all sh E U aA cA ob aS cS obS) (fun s _ _ _ => l.length - (intOf s).toNat)
    case atStart => exact ⟨0, [], [], [], _, none, 0, none, none, 0, none, by omega, rfl, rfl, rfl, hS0⟩
    case round =>
      clear hS0
      obtain ⟨k, all, sh, E, U, aA, cA, ob, aS, cS, obS, hk, rfl, rfl, rfl, hS⟩ := hrel
      have hla := hS.la
      have hls := hS.ls
      by_cases hkl : k < l.length
      · obtain ⟨g, o, rfl, hgl, hc⟩ := Recs.pos HL.out Hea.cells_len (by omega) (by omega)
        have dd : ∀ (W : World) (_ : Fr (fun _ => False) w W) (j : Nat) (_ : j < 4), W.cell? ⟨g, o + (k * 4 + j), none⟩ = (Hea.cells (nth l k))[j]? := fun W f j hj => (f.cell (p := ⟨g, o + (k * 4 + j), none⟩) hgl (fun h => h)).trans (hc w rfl k j hkl hj)
        have hx := HW.out _ (nth_mem l k hkl)
        generalize nth l k = x at *
        obtain ⟨xf, xa, xn, xm⟩ := x
        simp only [Hea.cells] at dd
        have hd4 : ∀ (W : World) (_ : Fr (fun _ => False) w W), W.cell? ⟨g, o + k * 4, none⟩ = some (.int .i64 xf) ∧ W.cell? ⟨g, o + k * 4 + 1, none⟩ = some (.int .u32 xa) ∧ W.cell? ⟨g, o + k * 4 + 2, none⟩ = some (.int .i64 xn) ∧ W.cell? ⟨g, o + k * 4 + 3, none⟩ = some (.int .i64 xm) := fun W f => by
          have d0 := dd W f 0 (by omega)
          have d1 := dd W f 1 (by omega)
          have d2 := dd W f 2 (by omega)
          have d3 := dd W f 3 (by omega)
          simp only [List.getElem?_cons_zero, List.getElem?_cons_succ, ← Nat.add_assoc, Nat.add_zero] at d0 d1 d2 d3
          exact ⟨d0, d1, d2, d3⟩
        have DD := Lib.hid hd4
        clear dd hc hd4
        obtain ⟨d0, d1, d2, d3⟩ := DD.out wr hS.fr
        obtain ⟨H, hH⟩ : ∃ H, H = heardE costs.length ⟨xf, xa, xn, xm⟩ := ⟨_, rfl⟩
        have hhf := heardFault_any ⟨xf, xa, xn, xm⟩ costs.length ac0 cc0 wr ⟨hx.2.1.1, hx.2.1.2.1⟩
        obtain ⟨S, hSe⟩ : ∃ S, S = setE costs E ⟨xf, xa, xn, xm⟩ := ⟨_, rfl⟩
        obtain ⟨B, hB⟩ : ∃ B : Bool, B = decide (64 < (fstN (all ++ [⟨xf, xa, xn, xm⟩])).length) := ⟨_, rfl⟩
        have hcase : (∃ q, H = some q ∧ S = some q ∧ q ≠ 0) ∨ (H = none ∧ B = true ∧ S = some 4) ∨ (H = none ∧ B = false ∧ S = none) := by
          have hel := hS.elen
          have h64 := hS.eh.e64
          have hkk : hasK E ⟨xa, xn⟩ ↔ (⟨xf, xa, xn, xm⟩ : Hea).net ∈ fstN all := hS.keys ⟨xa, xn⟩
          rcases setE_cases costs E ⟨xf, xa, xn, xm⟩ with ⟨q, h1, h2, h3⟩ | ⟨h1, h2, h3⟩ | ⟨h1, h2, h3⟩
          · exact .inl ⟨q, hH.trans h1, hSe.trans h2, h3⟩
          · refine .inr (.inl ⟨hH.trans h1, ?_, hSe.trans h3⟩)
            rw [hB, fstN_snoc, if_neg (fun h => h2.1 (hkk.2 h))]
            apply decide_eq_true
            rw [List.length_append]; simp; omega
          · refine .inr (.inr ⟨hH.trans h1, ?_, hSe.trans h3⟩)
            rw [hB]
            apply decide_eq_false
            rw [fstN_snoc]
            by_cases hm : (⟨xf, xa, xn, xm⟩ : Hea).net ∈ fstN all
            · rw [if_pos hm]; omega
            · rw [if_neg hm, List.length_append]
              have : ¬ E.length = 64 := fun e => h2 ⟨fun h => hm (hkk.1 h), e⟩
              simp; omega
        have hfl : (fstN (all ++ [⟨xf, xa, xn, xm⟩])).length ≤ 100 := by
          have hel := hS.elen
          have h64 := hS.eh.e64
          rw [fstN_snoc]
          split
          · omega
          · rw [List.length_append]; simp; omega
        have HFL := Lib.hid hfl
        have hset := set_any ⟨xf, xa, xn, xm⟩ wr hS.eng hx.2.1 hx.1 (by omega) hS.eh.e64
        rw [← hH] at hhf
        rw [← hSe] at hset
        have HSET := Lib.hid (show ∀ (W : World), Fr (fun _ => False) wr W → Calls Tryd.prog 29 #[.pointer (some ⟨be, 0, none⟩), .agg #[.int .i64 xf, .int .u32 xa, .int .i64 xn, .int .i64 xm]] W (RetSet U W be bn costs all E ac cc ⟨xf, xa, xn, xm⟩ S) from fun W f => by
          have := set_any ⟨xf, xa, xn, xm⟩ W (hS.eng.fr0 f) hx.2.1 hx.1 (by omega) hS.eh.e64
          rw [← hSe] at this
          exact this)
        have HCS := Lib.hid hcase
        have HBB := Lib.hid hB
        have HSE := Lib.hid hSe
        clear hcase hB hSe hH hset hfl
        go_wp2_with (fail)
        refine hhf.mono ?_
        rintro e5 w5 ⟨rfl, hF5⟩
        have hS5 := hS.fr0 hF5
        clear hhf d0 d1 d2 d3
        obtain ⟨V, hV⟩ : ∃ V : Bool, V = (match H with | some _ => false | none => B) := ⟨_, rfl⟩
        have HV := Lib.hid hV
        clear hV
        go_upto_region 15 with (fail)
        go_cut [85] from 58 to 155 (fun s85 wx => s85 = .bool V ∧ Fr (fun _ => False) w5 wx)
        case first =>
          obtain ⟨q, rfl⟩ | rfl : (∃ q, H = some q) ∨ H = none := by cases H <;> simp
          · skip
            have e0 : (q == 0) = false := by
              obtain ⟨q', h1, -, h3⟩ | ⟨h1, -⟩ | ⟨h1, -⟩ := HCS.out
              · cases h1; simp [h3]
              · cases h1
              · cases h1
            rw [show numO (some q) = q from rfl]
            (refine wp_region_tree (fun w' => ∃ c : Cls (fun _ => False) w5, w' = c.wo) 11 (by kernel_rfl) (by kernel_rfl) (⟨⟨_, (Fr.refl _ _).drew⟩, rfl⟩) ?_; intro hTB)
            (refine tr_early hTB 0 3 _ rfl (by decide) (by kernel_rfl) (by decide +kernel) ?_; simp only [List.take_succ_cons, List.take_zero, List.drop_succ_cons, List.drop_zero]; (repeat (go_big_quiet_step (fail))); refine wpQuiet_nil ?_)
            (refine tr_late hTB (⟨⟨_, (Fr.refl _ _).drew⟩, rfl⟩) 4 1 _ rfl (by decide) (by kernel_rfl) ?_; simp only [List.take_succ_cons, List.take_zero, List.drop_succ_cons, List.drop_zero]; (repeat (go_big_quiet_step (fail))); refine wpQuiet_nil ?_)
            (refine tr_late hTB (⟨⟨_, (Fr.refl _ _).drew⟩, rfl⟩) 6 4 _ rfl (by decide) (by kernel_rfl) ?_; simp only [List.take_succ_cons, List.take_zero, List.drop_succ_cons, List.drop_zero]; (repeat (go_big_quiet_step (fail))); refine wpQuiet_nil ?_)
            (refine tr_eff [3, 10] _ rfl (by kernel_rfl) (by kernel_rfl) (List.forall_mem_cons.2 ⟨?_, List.forall_mem_cons.2 ⟨?_, fun _ h => nomatch h⟩⟩)) <;> (unfold TrE; simp only [List.take_succ_cons, List.take_zero, List.drop_succ_cons, List.drop_zero])
            · go_wp2
              refine ⟨⟨⟨_, (Fr.refl _ _).drew⟩, rfl⟩, ?_⟩
              (refine tr_eff [5, 10] _ rfl (by kernel_rfl) (by kernel_rfl) (List.forall_mem_cons.2 ⟨?_, List.forall_mem_cons.2 ⟨?_, fun _ h => nomatch h⟩⟩)) <;> (unfold TrE; simp only [List.take_succ_cons, List.take_zero, List.drop_succ_cons, List.drop_zero])
              · go_wp2
                refine ⟨⟨⟨_, (Fr.refl _ _).drew⟩, rfl⟩, ?_⟩
                (refine tr_eff [10] _ rfl (by kernel_rfl) (by kernel_rfl) (List.forall_mem_cons.2 ⟨?_, fun _ h => nomatch h⟩)) <;> (unfold TrE; simp only [List.take_succ_cons, List.take_zero, List.drop_succ_cons, List.drop_zero])
                go_wp2
                refine ⟨⟨⟨_, (Fr.refl _ _).drew⟩, rfl⟩, ?_⟩
                refine tr_end (by kernel_rfl) ?_
                go_wp2
                go_meet
                case rel => exact ⟨by rw [HV.out], (Fr.refl _ _).drew⟩
              · go_wp2
                refine ⟨⟨⟨_, (Fr.refl _ _).drew⟩, rfl⟩, ?_⟩
                (refine tr_eff [5] _ rfl (by kernel_rfl) (by kernel_rfl) (List.forall_mem_cons.2 ⟨?_, fun _ h => nomatch h⟩)) <;> (unfold TrE; simp only [List.take_succ_cons, List.take_zero, List.drop_succ_cons, List.drop_zero])
                go_wp2
                refine ⟨⟨⟨_, (Fr.refl _ _).drew⟩, rfl⟩, ?_⟩
                refine tr_end (by kernel_rfl) ?_
                go_wp2
                go_meet
                case rel => exact ⟨by rw [HV.out], (Fr.refl _ _).drew⟩
            · go_wp2
              refine ⟨⟨⟨_, (Fr.refl _ _).drew⟩, rfl⟩, ?_⟩
              (refine tr_eff [3] _ rfl (by kernel_rfl) (by kernel_rfl) (List.forall_mem_cons.2 ⟨?_, fun _ h => nomatch h⟩)) <;> (unfold TrE; simp only [List.take_succ_cons, List.take_zero, List.drop_succ_cons, List.drop_zero])
              go_wp2
              refine ⟨⟨⟨_, (Fr.refl _ _).drew⟩, rfl⟩, ?_⟩
              (refine tr_eff [5] _ rfl (by kernel_rfl) (by kernel_rfl) (List.forall_mem_cons.2 ⟨?_, fun _ h => nomatch h⟩)) <;> (unfold TrE; simp only [List.take_succ_cons, List.take_zero, List.drop_succ_cons, List.drop_zero])
              go_wp2
              refine ⟨⟨⟨_, (Fr.refl _ _).drew⟩, rfl⟩, ?_⟩
              refine tr_end (by kernel_rfl) ?_
              go_wp2
              go_meet
              case rel => exact ⟨by rw [HV.out], (Fr.refl _ _).drew⟩
          · skip
            have e0 : (0 == 0) = true := rfl
            rw [show numO none = 0 from rfl]
            have hAll := hS5.eh.own.rd
            have hone := hea_flat_one all
            have q0 := fun c : Cls (fun _ => False) w5 => (DD.out c.wo (hS5.fr.trans c.fr)).1
            have q1 := fun c : Cls (fun _ => False) w5 => (DD.out c.wo (hS5.fr.trans c.fr)).2.1
            have q2 := fun c : Cls (fun _ => False) w5 => (DD.out c.wo (hS5.fr.trans c.fr)).2.2.1
            have q3 := fun c : Cls (fun _ => False) w5 => (DD.out c.wo (hS5.fr.trans c.fr)).2.2.2
            have qg : ∀ c : Cls (fun _ => False) w5, g < c.wo.heap.size := fun c => Nat.lt_of_lt_of_le hgl (Nat.le_trans hS5.fr.size c.fr.size)
            clear e0
            (refine wp_region_tree (fun w' => ∃ c : Cls (fun _ => False) w5, w' = c.wo) 11 (by kernel_rfl) (by kernel_rfl) (⟨⟨_, (Fr.refl _ _).drew⟩, rfl⟩) ?_; intro hTB)
            (refine tr_early hTB 0 3 _ rfl (by decide) (by kernel_rfl) (by decide +kernel) ?_; simp only [List.take_succ_cons, List.take_zero, List.drop_succ_cons, List.drop_zero]; (repeat (go_big_quiet_step (fail))); refine wpQuiet_nil ?_)
            (refine tr_late hTB (⟨⟨_, (Fr.refl _ _).drew⟩, rfl⟩) 4 1 _ rfl (by decide) (by kernel_rfl) ?_; simp only [List.take_succ_cons, List.take_zero, List.drop_succ_cons, List.drop_zero]; (repeat (go_big_quiet_step (fail))); refine wpQuiet_nil ?_)
            (refine tr_late hTB (⟨⟨_, (Fr.refl _ _).drew⟩, rfl⟩) 6 4 _ rfl (by decide) (by kernel_rfl) ?_; simp only [List.take_succ_cons, List.take_zero, List.drop_succ_cons, List.drop_zero]; (repeat (go_big_quiet_step (fail))); refine wpQuiet_nil ?_)
            clear q0 q1 q2 q3 qg
            (refine tr_eff [3, 10] _ rfl (by kernel_rfl) (by kernel_rfl) (List.forall_mem_cons.2 ⟨?_, List.forall_mem_cons.2 ⟨?_, fun _ h => nomatch h⟩⟩)) <;> (unfold TrE; simp only [List.take_succ_cons, List.take_zero, List.drop_succ_cons, List.drop_zero])
            · go_wp2
              refine ⟨⟨⟨_, ((Fr.refl (fun _ => False) w5).alloc (.cells #[] 51)).drew⟩, rfl⟩, ?_⟩
              (refine tr_eff [5, 10] _ rfl (by kernel_rfl) (by kernel_rfl) (List.forall_mem_cons.2 ⟨?_, List.forall_mem_cons.2 ⟨?_, fun _ h => nomatch h⟩⟩)) <;> (unfold TrE; simp only [List.take_succ_cons, List.take_zero, List.drop_succ_cons, List.drop_zero])
              · have hA5 := hAll.fr (((Fr.refl (fun _ => False) w5).alloc (.cells #[] 51)).drew) (fun _ _ _ h => h)
                refine wpList_struck (by rfl) ?_
                refine wpList_app rfl _ _ 47 rfl Tryd.underlying47 infoHea rfl (by decide) rfl rfl (show Own ((w5.alloc (.cells #[] 51)).drew).heap 51 4 (some ⟨w5.heap.size, 0, none⟩) 0 0 [] (some w5.heap.size) from Own.made w5 51 4 0 [] rfl (by decide)) hA5 hone (by omega) (by omega) ?_
                intro a7 c7 w7 ob7 z1 z2 z3
                have hN7 := app_new (base := w5.heap.size) (fun g' hg' => by cases hg'; exact Nat.le_refl _) z3 (by simp)
                have hF7 : Fr (fun _ => False) w5 w7 := (((Fr.refl (fun _ => False) w5).alloc (.cells #[] 51)).drew).trans' z2 (fun i hi e => by cases e; exact absurd hi (Nat.lt_irrefl _))
                have hO7 : Own w7.heap 51 4 a7 all.length c7 (all.flatMap Hea.cells) ob7 := by simpa using z1
                clear z1 z2 z3 hA5
                go_wp2
                refine ⟨⟨⟨_, hF7⟩, rfl⟩, ?_⟩
                (refine tr_eff [10] _ rfl (by kernel_rfl) (by kernel_rfl) (List.forall_mem_cons.2 ⟨?_, fun _ h => nomatch h⟩)) <;> (unfold TrE; simp only [List.take_succ_cons, List.take_zero, List.drop_succ_cons, List.drop_zero])
                go_wp2
                refine ⟨⟨⟨_, hF7.alloc (.cells #[.int .i64 xf, .int .u32 xa, .int .i64 xn, .int .i64 xm] 51)⟩, rfl⟩, ?_⟩
                refine tr_end (by kernel_rfl) ?_
                have hFz := hF7.alloc (.cells #[.int .i64 xf, .int .u32 xa, .int .i64 xn, .int .i64 xm] 51)
                have hOz := hO7.alloc (.cells #[.int .i64 xf, .int .u32 xa, .int .i64 xn, .int .i64 xm] 51)
                have hRz := rd_lit w7 51 [.int .i64 xf, .int .u32 xa, .int .i64 xn, .int .i64 xm]
                have hNz := hN7
                clear hF7 hO7 hN7
                refine wpList_struck (by rfl) ?_
                refine wpList_app rfl _ _ 47 rfl Tryd.underlying47 infoHea rfl (by decide) rfl rfl hOz hRz (by simp [Value.oneCell']) (by omega) (by omega) ?_
                intro a8 c8 w8 ob8 v1 v2 v3
                have hF8 : Fr (fun _ => False) w5 w8 := hFz.trans' v2 (fun i hi e => by have := hNz i e; omega)
                have hrd8 : Recs w8.heap a8 4 Hea.cells (all ++ [⟨xf, xa, xn, xm⟩]) := by
                  have h := v1.rd
                  show Rd _ _ (all ++ [(⟨xf, xa, xn, xm⟩ : Hea)]).length 4 ((all ++ [(⟨xf, xa, xn, xm⟩ : Hea)]).flatMap Hea.cells)
                  rw [List.length_append, List.flatMap_append]
                  simpa using h
                clear v1 v2 v3 hOz hRz hFz hNz
                go_wp2_with (fail)
                refine (netsOf_any (all ++ [⟨xf, xa, xn, xm⟩]) a8 c8 w8 hrd8 (by simp; omega) HFL.out (by simp)).mono ?_
                rintro e9 w9 ⟨a9, c9, ob9, he9, hO9, hF9, -⟩
                simp only [id] at he9
                subst he9
                have hBl := HBB.out
                rw [← netsM_len] at hBl
                have HBL := Lib.hid hBl
                have hF89 := hF8.trans hF9
                obtain ⟨NL, hNL⟩ : ∃ NL, NL = (netsM (all ++ [⟨xf, xa, xn, xm⟩])).length := ⟨_, rfl⟩
                have hNLb : NL ≤ 100 := by rw [hNL, netsM_len]; exact HFL.out
                rw [← hNL] at hBl ⊢
                have HNL := Lib.hid (show decide ((64 : Int) < (NL : Int)) = B from by
                  have h1 : ((64 : Int) < (NL : Int)) ↔ 64 < NL := by omega
                  rw [hBl]; simp only [h1])
                clear hO9 hF8 hF9 hrd8 hNL hBl HBL
                go_wp2
                go_meet
                case rel => exact ⟨by rw [HV.out]; exact congrArg _ HNL.out, hF89⟩
              · have hA5 := hAll.fr ((((Fr.refl (fun _ => False) w5).alloc (.cells #[] 51)).alloc (.cells #[.int .i64 xf, .int .u32 xa, .int .i64 xn, .int .i64 xm] 51)).drew) (fun _ _ _ h => h)
                go_wp2
                refine ⟨⟨⟨_, (((Fr.refl (fun _ => False) w5).alloc (.cells #[] 51)).alloc (.cells #[.int .i64 xf, .int .u32 xa, .int .i64 xn, .int .i64 xm] 51)).drew⟩, rfl⟩, ?_⟩
                (refine tr_eff [5] _ rfl (by kernel_rfl) (by kernel_rfl) (List.forall_mem_cons.2 ⟨?_, fun _ h => nomatch h⟩)) <;> (unfold TrE; simp only [List.take_succ_cons, List.take_zero, List.drop_succ_cons, List.drop_zero])
                have hRx : Rd (((w5.alloc (.cells #[] 51)).alloc (.cells #[.int .i64 xf, .int .u32 xa, .int .i64 xn, .int .i64 xm] 51)).drew).heap (some ⟨w5.heap.size + 1, 0, none⟩) 1 4 [.int .i64 xf, .int .u32 xa, .int .i64 xn, .int .i64 xm] := rd_lit1 w5 (.cells #[] 51) 51 [.int .i64 xf, .int .u32 xa, .int .i64 xn, .int .i64 xm]
                refine wpList_struck (by rfl) ?_
                refine wpList_app rfl _ _ 47 rfl Tryd.underlying47 infoHea rfl (by decide) rfl rfl (show Own (((w5.alloc (.cells #[] 51)).alloc (.cells #[.int .i64 xf, .int .u32 xa, .int .i64 xn, .int .i64 xm] 51)).drew).heap 51 4 (some ⟨w5.heap.size, 0, none⟩) 0 0 [] (some w5.heap.size) from (Own.made w5 51 4 0 [] rfl (by decide)).alloc (.cells #[.int .i64 xf, .int .u32 xa, .int .i64 xn, .int .i64 xm] 51)) hA5 hone (by omega) (by omega) ?_
                intro a7 c7 w7 ob7 z1 z2 z3
                have hN7 := app_new (base := w5.heap.size) (fun g' hg' => by cases hg'; exact Nat.le_refl _) z3 (by simp; omega)
                have hF7 : Fr (fun _ => False) w5 w7 := ((((Fr.refl (fun _ => False) w5).alloc (.cells #[] 51)).alloc (.cells #[.int .i64 xf, .int .u32 xa, .int .i64 xn, .int .i64 xm] 51)).drew).trans' z2 (fun i hi e => by cases e; exact absurd hi (Nat.lt_irrefl _))
                have hO7 : Own w7.heap 51 4 a7 all.length c7 (all.flatMap Hea.cells) ob7 := by simpa using z1
                have hR7 := hRx.fr z2 (fun b off e s => by cases e; simp at s)
                clear z1 z2 z3 hA5 hRx
                go_wp2
                refine ⟨⟨⟨_, hF7⟩, rfl⟩, ?_⟩
                refine tr_end (by kernel_rfl) ?_
                have hFz := hF7
                have hOz := hO7
                have hRz := hR7
                have hNz := hN7
                clear hF7 hO7 hN7 hR7
                refine wpList_struck (by rfl) ?_
                refine wpList_app rfl _ _ 47 rfl Tryd.underlying47 infoHea rfl (by decide) rfl rfl hOz hRz (by simp [Value.oneCell']) (by omega) (by omega) ?_
                intro a8 c8 w8 ob8 v1 v2 v3
                have hF8 : Fr (fun _ => False) w5 w8 := hFz.trans' v2 (fun i hi e => by have := hNz i e; omega)
                have hrd8 : Recs w8.heap a8 4 Hea.cells (all ++ [⟨xf, xa, xn, xm⟩]) := by
                  have h := v1.rd
                  show Rd _ _ (all ++ [(⟨xf, xa, xn, xm⟩ : Hea)]).length 4 ((all ++ [(⟨xf, xa, xn, xm⟩ : Hea)]).flatMap Hea.cells)
                  rw [List.length_append, List.flatMap_append]
                  simpa using h
                clear v1 v2 v3 hOz hRz hFz hNz
                go_wp2_with (fail)
                refine (netsOf_any (all ++ [⟨xf, xa, xn, xm⟩]) a8 c8 w8 hrd8 (by simp; omega) HFL.out (by simp)).mono ?_
                rintro e9 w9 ⟨a9, c9, ob9, he9, hO9, hF9, -⟩
                simp only [id] at he9
                subst he9
                have hBl := HBB.out
                rw [← netsM_len] at hBl
                have HBL := Lib.hid hBl
                have hF89 := hF8.trans hF9
                obtain ⟨NL, hNL⟩ : ∃ NL, NL = (netsM (all ++ [⟨xf, xa, xn, xm⟩])).length := ⟨_, rfl⟩
                have hNLb : NL ≤ 100 := by rw [hNL, netsM_len]; exact HFL.out
                rw [← hNL] at hBl ⊢
                have HNL := Lib.hid (show decide ((64 : Int) < (NL : Int)) = B from by
                  have h1 : ((64 : Int) < (NL : Int)) ↔ 64 < NL := by omega
                  rw [hBl]; simp only [h1])
                clear hO9 hF8 hF9 hrd8 hNL hBl HBL
                go_wp2
                go_meet
                case rel => exact ⟨by rw [HV.out]; exact congrArg _ HNL.out, hF89⟩
            · go_wp2
              refine ⟨⟨⟨_, ((Fr.refl (fun _ => False) w5).alloc (.cells #[.int .i64 xf, .int .u32 xa, .int .i64 xn, .int .i64 xm] 51)).drew⟩, rfl⟩, ?_⟩
              (refine tr_eff [3] _ rfl (by kernel_rfl) (by kernel_rfl) (List.forall_mem_cons.2 ⟨?_, fun _ h => nomatch h⟩)) <;> (unfold TrE; simp only [List.take_succ_cons, List.take_zero, List.drop_succ_cons, List.drop_zero])
              go_wp2
              refine ⟨⟨⟨_, (((Fr.refl (fun _ => False) w5).alloc (.cells #[.int .i64 xf, .int .u32 xa, .int .i64 xn, .int .i64 xm] 51)).alloc (.cells #[] 51)).drew⟩, rfl⟩, ?_⟩
              (refine tr_eff [5] _ rfl (by kernel_rfl) (by kernel_rfl) (List.forall_mem_cons.2 ⟨?_, fun _ h => nomatch h⟩)) <;> (unfold TrE; simp only [List.take_succ_cons, List.take_zero, List.drop_succ_cons, List.drop_zero])
              have hA5 := hAll.fr ((((Fr.refl (fun _ => False) w5).alloc (.cells #[.int .i64 xf, .int .u32 xa, .int .i64 xn, .int .i64 xm] 51)).alloc (.cells #[] 51)).drew) (fun _ _ _ h => h)
              have hRx : Rd (((w5.alloc (.cells #[.int .i64 xf, .int .u32 xa, .int .i64 xn, .int .i64 xm] 51)).alloc (.cells #[] 51)).drew).heap (some ⟨w5.heap.size, 0, none⟩) 1 4 [.int .i64 xf, .int .u32 xa, .int .i64 xn, .int .i64 xm] := (rd_lit w5 51 [.int .i64 xf, .int .u32 xa, .int .i64 xn, .int .i64 xm]).fr (((Fr.refl (fun _ => False) _).alloc (.cells #[] 51)).drew) (fun _ _ _ h => h)
              refine wpList_struck (by rfl) ?_
              refine wpList_app rfl _ _ 47 rfl Tryd.underlying47 infoHea rfl (by decide) rfl rfl (show Own (((w5.alloc (.cells #[.int .i64 xf, .int .u32 xa, .int .i64 xn, .int .i64 xm] 51)).alloc (.cells #[] 51)).drew).heap 51 4 (some ⟨w5.heap.size + 1, 0, none⟩) 0 0 [] (some (w5.heap.size + 1)) from by have := Own.made (w5.alloc (.cells #[.int .i64 xf, .int .u32 xa, .int .i64 xn, .int .i64 xm] 51)) 51 4 0 [] rfl (by decide); rwa [show (w5.alloc (.cells #[.int .i64 xf, .int .u32 xa, .int .i64 xn, .int .i64 xm] 51)).heap.size = w5.heap.size + 1 by simp] at this) hA5 hone (by omega) (by omega) ?_
              intro a7 c7 w7 ob7 z1 z2 z3
              have hN7 := app_new (base := w5.heap.size) (fun g' hg' => by cases hg'; omega) z3 (by simp; omega)
              have hF7 : Fr (fun _ => False) w5 w7 := ((((Fr.refl (fun _ => False) w5).alloc (.cells #[.int .i64 xf, .int .u32 xa, .int .i64 xn, .int .i64 xm] 51)).alloc (.cells #[] 51)).drew).trans' z2 (fun i hi e => by cases e; omega)
              have hO7 : Own w7.heap 51 4 a7 all.length c7 (all.flatMap Hea.cells) ob7 := by simpa using z1
              have hR7 := hRx.fr z2 (fun b off e s => by cases e; simp at s)
              clear z1 z2 z3 hA5 hRx
              go_wp2
              refine ⟨⟨⟨_, hF7⟩, rfl⟩, ?_⟩
              refine tr_end (by kernel_rfl) ?_
              have hFz := hF7
              have hOz := hO7
              have hRz := hR7
              have hNz := hN7
              clear hF7 hO7 hN7 hR7
              refine wpList_struck (by rfl) ?_
              refine wpList_app rfl _ _ 47 rfl Tryd.underlying47 infoHea rfl (by decide) rfl rfl hOz hRz (by simp [Value.oneCell']) (by omega) (by omega) ?_
              intro a8 c8 w8 ob8 v1 v2 v3
              have hF8 : Fr (fun _ => False) w5 w8 := hFz.trans' v2 (fun i hi e => by have := hNz i e; omega)
              have hrd8 : Recs w8.heap a8 4 Hea.cells (all ++ [⟨xf, xa, xn, xm⟩]) := by
                have h := v1.rd
                show Rd _ _ (all ++ [(⟨xf, xa, xn, xm⟩ : Hea)]).length 4 ((all ++ [(⟨xf, xa, xn, xm⟩ : Hea)]).flatMap Hea.cells)
                rw [List.length_append, List.flatMap_append]
                simpa using h
              clear v1 v2 v3 hOz hRz hFz hNz
              go_wp2_with (fail)
              refine (netsOf_any (all ++ [⟨xf, xa, xn, xm⟩]) a8 c8 w8 hrd8 (by simp; omega) HFL.out (by simp)).mono ?_
              rintro e9 w9 ⟨a9, c9, ob9, he9, hO9, hF9, -⟩
              simp only [id] at he9
              subst he9
              have hBl := HBB.out
              rw [← netsM_len] at hBl
              have HBL := Lib.hid hBl
              have hF89 := hF8.trans hF9
              obtain ⟨NL, hNL⟩ : ∃ NL, NL = (netsM (all ++ [⟨xf, xa, xn, xm⟩])).length := ⟨_, rfl⟩
              have hNLb : NL ≤ 100 := by rw [hNL, netsM_len]; exact HFL.out
              rw [← hNL] at hBl ⊢
              have HNL := Lib.hid (show decide ((64 : Int) < (NL : Int)) = B from by
                have h1 : ((64 : Int) < (NL : Int)) ↔ 64 < NL := by omega
                rw [hBl]; simp only [h1])
              clear hO9 hF8 hF9 hrd8 hNL hBl HBL
              go_wp2
              go_meet
              case rel => exact ⟨by rw [HV.out]; exact congrArg _ HNL.out, hF89⟩
        case rest =>
        obtain ⟨rfl, hF6⟩ := hcut
        have hS6 := hS5.fr0 hF6
        clear hS5
        go_upto_if 85 with (fail)
        go_cut [12] from 58 to 155 (fun s12 wx => s12 = .int .i64 (numO S) ∧ Fr (fun _ => False) wr wx)
        case first =>
          rcases HCS.out with ⟨q, rfl, rfl, -⟩ | ⟨rfl, rfl, rfl⟩ | ⟨rfl, rfl, rfl⟩
          · obtain rfl : V = false := HV.out
            go_wp2
            go_meet
            case rel => exact ⟨rfl, hF5.trans hF6⟩
          · obtain rfl : V = true := HV.out
            go_wp2
            go_meet
            case rel => exact ⟨rfl, hF5.trans hF6⟩
          · obtain rfl : V = false := HV.out
            go_wp2
            go_meet
            case rel => exact ⟨rfl, hF5.trans hF6⟩
        case rest =>
        obtain ⟨rfl, hF7⟩ := hcut
        obtain ⟨w7, hnm⟩ : ∃ z, z = wc := ⟨wc, rfl⟩
        subst hnm
        clear hS6 hF5 hF6
        have hS7 := hS.fr0 hF7
        obtain ⟨d0, d1, d2, d3⟩ := DD.out w7 hS7.fr
        have HHD : Hid (Hd w7 ∧ ∀ W, Fr U w7 W → Hd W) := Lib.hid ⟨hg.none hS7.fr, fun W f => (hg.none hS7.fr).fr f (fun h => by have := hS7.eh.hi _ h; have := hg.lt; omega)⟩
        go_upto_region 17 with (fail)
        go_cut [13] from 58 to 155 (fun s13 wx => s13 = .bool true ∧ ((∃ q, S = some q ∧ q ≠ 0 ∧ Fr (fun _ => False) w7 wx) ∨ (S = none ∧ Fr U w7 wx ∧ ∃ E', Eng (usesN U w7 wx) wx be bn costs (all ++ [⟨xf, xa, xn, xm⟩]) E' ac cc ∧ E'.map (·.key) = keysE E ⟨xa, xn⟩ ∧ ∀ q, shownE E' q = shownE E q)))
        case first =>
          go_wp2_with (fail)
          refine (HSET.out w7 hF7).mono ?_
          intro e8 w8 R8
          obtain ⟨q, rfl⟩ | rfl : (∃ q, S = some q) ∨ S = none := by cases S <;> simp
          · obtain ⟨rfl, hF8⟩ := R8.errE rfl
            have hq0 : q ≠ 0 := by
              rcases HCS.out with ⟨q', -, h2, h3⟩ | ⟨-, -, h2⟩ | ⟨-, -, h2⟩
              · cases h2; exact h3
              · cases h2; decide
              · cases h2
            have HQ0 := Lib.hid hq0
            rw [show numO (some q) = q from rfl]
            clear hq0 R8
            go_wp2_with (fail)
            refine (error_any (some q) q _ (HHD.out.1.none hF8)).mono ?_
            rintro e9 w9 ⟨rfl, hF9⟩
            rw [show (errN (some q) == q) = true from by simp [errN]]
            go_wp2
            go_meet
            case rel => exact ⟨rfl, .inl ⟨q, rfl, HQ0.out, hF8.trans hF9⟩⟩
          · obtain ⟨rfl, hF8, E', hE8, hk8, hs8⟩ := R8.okE rfl
            rw [show numO none = 0 from rfl]
            clear R8
            go_wp2_with (fail)
            refine (error_any none 0 _ (HHD.out.2 w8 hF8)).mono ?_
            rintro e9 w9 ⟨rfl, hF9⟩
            rw [show (errN none == 0) = true from rfl]
            have hs9 := hF9.size
            have hlt8 := hE8.lt
            have HE9 := Lib.hid ((hE8.fr0 hF9).wide (V := usesN U w7 w9) (fun k hk => hk.imp id (fun h => ⟨h.1, by omega⟩)) (fun k hk => hk.elim (fun h => Nat.lt_of_lt_of_le (hlt8 k (.inl h)) hs9) (fun h => h.2)))
            have HF9 := Lib.hid (hF8.trans (hF9.none U))
            have HK8 := Lib.hid hk8
            have HS8 := Lib.hid hs8
            clear hE8 hF8 hF9 hk8 hs8
            go_wp2
            go_meet
            case rel => exact ⟨(by first | rfl | trivial), .inr ⟨(by first | rfl | trivial), HF9.out, E', HE9.out, HK8.out, HS8.out⟩⟩
        case rest =>
        obtain ⟨rfl, hP⟩ := hcut
        have HP := Lib.hid hP
        clear hP d0 d1 d2 d3
        obtain ⟨w9, hnm⟩ : ∃ z, z = wc := ⟨wc, rfl⟩
        subst hnm
        go_upto_if 97 with (fail)
        go_cut [14] from 58 to 155 (fun s14 wx => ∃ (all' : List Hea) (E' : List Ent) (U' : Nat → Prop) (aA' : Option Addr) (cA' : Nat) (ob' : Option Nat), s14 = .slice aA' all'.length cA' ∧ BSt w costs be bn ac cc a n wx (k + 1) all' sh E' U' aA' cA' ob' aS cS obS)
        case first =>
          rcases HP.out with ⟨q, rfl, hq0, hF9⟩ | ⟨rfl, hF9, E', hE9, hk9, hs9⟩
          · rw [show (numO (some q) == 0) = false from by simp [numO, hq0]]
            have HS9 := Lib.hid (hS7.fr0 hF9).next
            clear hF9 hq0
            go_wp2
            go_meet
            case rel => exact ⟨all, E, U, aA, cA, ob, rfl, HS9.out⟩
          · rw [show (numO none == 0) = true from rfl]
            have hFw : Fr (fun _ => False) w w9 := hS7.fr.trans' hF9 (fun i hi h => by have := hS7.eh.hi i h; omega)
            obtain ⟨d0, d1, d2, d3⟩ := DD.out w9 hFw
            have hgl9 := Nat.lt_of_lt_of_le hgl hFw.size
            have hOa := (hS7.eh.own.fr hF9 (fun g hg h => (hS7.eh.ap g hg).1 h)).alloc (.cells #[.int .i64 xf, .int .u32 xa, .int .i64 xn, .int .i64 xm] 51)
            have hrd := rd_lit w9 51 [.int .i64 xf, .int .u32 xa, .int .i64 xn, .int .i64 xm]
            have HF9 := Lib.hid hF9
            have HE9 := Lib.hid hE9
            have HK9 := Lib.hid hk9
            have HS9 := Lib.hid hs9
            clear hF9 hE9 hk9 hs9 hFw
            go_wp2_with (at_builtin; refine wpList_app rfl _ _ 47 rfl Tryd.underlying47 infoHea rfl (by decide) rfl rfl hOa hrd (by simp [Value.oneCell']) (by omega) (by omega) ?_)
            intro a8 c8 w8 ob8 v1 v2 v3
            have HB8 := Lib.hid (hS7.heard HSE.out.symm HF9.out HE9.out HK9.out HS9.out (.cells #[.int .i64 xf, .int .u32 xa, .int .i64 xn, .int .i64 xm] 51) (by simpa using v1) v2 (v3.imp_right (fun ⟨g', h1, h2⟩ => ⟨g', h1, by first | omega | (simp at h2; omega)⟩)))
            clear v1 v2 v3 hOa hrd d0 d1 d2 d3
            go_wp2
            go_meet
            case rel => exact ⟨all ++ [⟨xf, xa, xn, xm⟩], E', _, a8, c8, ob8, by simp, HB8.out⟩
        case rest =>
        obtain ⟨all', E', U', aA', cA', ob', rfl, hSn⟩ := hcut
        obtain ⟨wB, hnm⟩ : ∃ z, z = wc := ⟨wc, rfl⟩
        subst hnm
        clear HP HSET hS7 hS HHD DD HCS HBB HSE HFL HV
        have hlan := hSn.la
        have hlsn := hSn.ls
        by_cases hka : k < asks.length
        · obtain ⟨ga, oa, rfl, hga, hca⟩ := Recs.pos HAK.out bcells_len (by omega) (by omega)
          have da := (hSn.fr.cell (p := ⟨ga, oa + (k * 1 + 0), none⟩) hga (fun h => h)).trans (hca w rfl k 0 hka (by omega))
          have hga2 := Nat.lt_of_lt_of_le hga hSn.fr.size
          generalize nth asks k = ask at da
          simp only [bcells, List.getElem?_cons_zero, Nat.mul_one, Nat.add_zero] at da
          clear hca
          cases ask with
          | false =>
            have HSN := Lib.hid hSn
            clear hSn
            go_wp2
            go_roundw
            case rel => exact ⟨k + 1, all', sh, E', U', aA', cA', ob', aS, cS, obS, by omega, by go_num, rfl, rfl, HSN.out⟩
            case measure => simp [intOf]; omega
          | true =>
            have HSN := Lib.hid hSn
            have hel := hSn.elen
            have h64 := hSn.eh.e64
            have hbox := hSn.fr
            have hArd := hSn.eh.own.rd
            have hSrd := hSn.ownS.rd
            clear hSn
            go_wp2_with (fail)
            refine (netsOf_any all' aA' cA' wB hArd (by omega) (by omega) rfl).mono ?_
            rintro e10 wA ⟨aN, cN, obN, he10, hON, hFN, hNN⟩
            simp only [id] at he10
            subst he10
            obtain ⟨NL, hNL⟩ : ∃ NL, NL = netsM all' := ⟨_, rfl⟩
            have hNl : NL.length ≤ 100 := by rw [hNL, netsM_len]; omega
            rw [← hNL] at hON
            have HNL := Lib.hid hNL
            have HSA := Lib.hid (HSN.out.fr0 hFN)
            have HARD := Lib.hid (hArd.fr hFN (fun _ _ _ h => h))
            have HSRD := Lib.hid (hSrd.fr hFN (fun _ _ _ h => h))
            have HOA := Lib.hid (HSN.out.okall)
            have HOS := Lib.hid (HSN.out.oksh)
            have HWA := Lib.hid (HSN.out.fr.trans hFN)
            have HB4 := Lib.hid (show ∀ a n, (bestM all' costs a n).2.length ≤ 4 from HSN.out.eng.best4)
            have HB5 := Lib.hid (show ∀ a n, (bestM sh costs a n).2.length ≤ 4 from fun a n => (chK_bd (fun i => lastO sh i a n) costs (fun i m h => lastO_bd HOS.out h) HCB.out costs.length (Nat.le_refl _)).2.2.1)
            obtain ⟨P, hP⟩ : ∃ P : Nt → Bool, P = (fun q => decide (bestM all' costs q.a q.n ≠ bestM sh costs q.a q.n)) := ⟨_, rfl⟩
            have HPP := Lib.hid hP
            rw [← hNL]
            clear hNL hArd hSrd hFN hNN hbox hel h64 hP HSN
            go_wp2
            go_loopw [19, 17] (fun s19 s17 wq => ∃ (i : Nat) (NS : List Nt) (aW : Option Addr) (cW : Nat) (obW : Option Nat), i ≤ NL.length ∧ s19 = .int .i64 i ∧ s17 = .slice aW NS.length cW ∧ Own wq.heap 37 2 aW NS.length cW (NS.flatMap Nt.cells) obW ∧ (∀ g, obW = some g → wA.heap.size ≤ g) ∧ Fr (fun _ => False) wA wq ∧ Hid (NS = (NL.take i).filter P) ∧ NS.length ≤ i) (fun s _ _ => NL.length - (intOf s).toNat)
            case atStart => exact ⟨0, [], none, 0, none, by omega, rfl, rfl, Own.nil _ _ _, (fun _ h => nomatch h), Fr.refl _ _, Lib.hid rfl, Nat.le_refl _⟩
            case round =>
              obtain ⟨i, NS, aW, cW, obW, hi, rfl, rfl, hOW, hNW, hF, hE, hil⟩ := hrel
              by_cases hilt : i < NL.length
              · obtain ⟨gN, oN, rfl, hgN, hcN⟩ := Recs.pos hON.rd Nt.cells_len (by omega) (by omega)
                have dd : ∀ (W : World) (_ : Fr (fun _ => False) wr W) (j : Nat) (_ : j < 2), W.cell? ⟨gN, oN + (i * 2 + j), none⟩ = (Nt.cells (nth NL i))[j]? := fun W f j hj => (f.cell (p := ⟨gN, oN + (i * 2 + j), none⟩) (Nat.lt_of_lt_of_le hgN hF.size) (fun h => h)).trans ((hF.cell (p := ⟨gN, oN + (i * 2 + j), none⟩) hgN (fun h => h)).trans (hcN wA rfl i j hilt hj))
                have hT : (NL.take (i + 1)).filter P = if P (nth NL i) = true then (NL.take i).filter P ++ [nth NL i] else (NL.take i).filter P := by rw [take_succ_nth NL i hilt, filter_snoc]
                obtain ⟨y, hy⟩ : ∃ y, y = nth NL i := ⟨_, rfl⟩
                rw [← hy] at dd hT
                obtain ⟨ya, yn⟩ := y
                have hq : ∀ (W : World) (_ : Fr (fun _ => False) wr W), W.cell? ⟨gN, oN + i * 2, none⟩ = some (.int .u32 ya) ∧ W.cell? ⟨gN, oN + i * 2 + 1, none⟩ = some (.int .i64 yn) := fun W f => by
                  have d0 := dd W f 0 (by omega)
                  have d1 := dd W f 1 (by omega)
                  simp only [Nt.cells, List.getElem?_cons_zero, List.getElem?_cons_succ, ← Nat.add_assoc, Nat.add_zero] at d0 d1
                  exact ⟨d0, d1⟩
                have HQ := Lib.hid hq
                have HT := Lib.hid hT
                have hgNl := Nat.lt_of_lt_of_le hgN hF.size
                have HON := Lib.hid hON
                clear hcN dd hy hT hq
                obtain ⟨M1, hM1⟩ : ∃ M1, M1 = bestM all' costs ya yn := ⟨_, rfl⟩
                obtain ⟨M2, hM2⟩ : ∃ M2, M2 = bestM sh costs ya yn := ⟨_, rfl⟩
                have hl1 := HB4.out ya yn
                have hl2 := HB5.out ya yn
                have hb1 : ∀ (W : World) (_ : Fr (fun _ => False) wr W), Calls Tryd.prog 25 #[.slice aA' all'.length cA', .slice ac0 costs.length cc0, .agg #[.int .u32 ya, .int .i64 yn]] W (RetBest W ya yn M1) := fun W f => by
                  rw [hM1]; exact bestOf_any all' aA' cA' costs ac0 cc0 ya yn W (HARD.out.fr (hF.trans f) (fun _ _ _ h => h)) HOA.out (by omega) (HC.out.fr0 ((HWA.out.trans hF).trans f) (fun _ _ h => h)) hn8 HCB.out rfl rfl
                have hb2 : ∀ (W : World) (_ : Fr (fun _ => False) wr W), Calls Tryd.prog 25 #[.slice aS sh.length cS, .slice ac0 costs.length cc0, .agg #[.int .u32 ya, .int .i64 yn]] W (RetBest W ya yn M2) := fun W f => by
                  rw [hM2]; exact bestOf_any sh aS cS costs ac0 cc0 ya yn W (HSRD.out.fr (hF.trans f) (fun _ _ _ h => h)) HOS.out (by omega) (HC.out.fr0 ((HWA.out.trans hF).trans f) (fun _ _ h => h)) hn8 HCB.out rfl rfl
                rw [← hM1] at hl1
                rw [← hM2] at hl2
                have HP1 := Lib.hid (show P ⟨ya, yn⟩ = decide (M1 ≠ M2) by rw [HPP.out, hM1, hM2])
                have HB1 := Lib.hid hb1
                have HB2 := Lib.hid hb2
                obtain ⟨m1, h1⟩ := M1
                obtain ⟨m2, h2⟩ := M2
                simp only at hl1 hl2
                clear hM1 hM2 hb1 hb2
                obtain ⟨d0, d1⟩ := HQ.out wr (Fr.refl _ _)
                have q0 := fun c : Cls (fun _ => False) wr => (HQ.out c.wo c.fr).1
                have q1 := fun c : Cls (fun _ => False) wr => (HQ.out c.wo c.fr).2
                have qg : ∀ c : Cls (fun _ => False) wr, gN < c.wo.heap.size := fun c => Nat.lt_of_lt_of_le hgNl c.fr.size
                clear hON
                go_wp2
                (refine wp_region_mix (fun w' => ∃ c : Cls (fun _ => False) wr, w' = c.wo) 13 (by kernel_rfl) (by kernel_rfl) (⟨⟨_, (Fr.refl _ _).drew⟩, rfl⟩) ?_; simp only [List.take_succ_cons, List.take_zero, List.drop_succ_cons, List.drop_zero])
                (refine wpMix_earlyN 6 (by kernel_rfl) (by kernel_rfl) ?_; simp only [List.take_succ_cons, List.take_zero, List.drop_succ_cons, List.drop_zero]; (repeat (go_big_quiet_step (fail))); refine wpQuiet_nil ?_)
                refine wpMix_eff (by kernel_rfl) ?_
                go_wp2_with (fail)
                refine (HB1.out _ (Fr.refl _ _).drew).mono ?_
                rintro e11 w11 ⟨a11, c11, ob11, rfl, hO11, hF11, -⟩
                simp only at hO11 ⊢
                have hX11 : Fr (fun _ => False) wr w11 := (Fr.refl (fun _ => False) wr).drew.trans hF11
                clear hF11
                go_wp2
                refine ⟨⟨⟨_, hX11⟩, rfl⟩, ?_⟩
                (refine wpMix_lateN 6 (⟨⟨_, (Fr.refl _ _).drew⟩, rfl⟩) (by kernel_rfl) ?_; simp only [List.take_succ_cons, List.take_zero, List.drop_succ_cons, List.drop_zero]; (repeat (go_big_quiet_step (fail))); refine wpQuiet_nil ?_)
                refine wpMix_nil ?_
                clear q0 q1 qg d0 d1
                go_wp2_with (fail)
                refine (HB2.out w11 hX11).mono ?_
                rintro e12 w12 ⟨a12, c12, ob12, rfl, hO12, hF12, -⟩
                simp only at hO12 ⊢
                have hX12 := hX11.trans hF12
                have hI11 := hO11.rd.fr hF12 (fun _ _ _ h => h)
                have hI12 := hO12.rd
                clear hO11 hO12 hF12 hX11
                go_wp2_with (fail)
                refine (sbest_any ⟨ya, yn, m1, h1, a11, c11⟩ ⟨ya, yn, m2, h2, a12, c12⟩ w12 hI11 hI12 (by simp only; omega) (by simp only; omega)).mono ?_
                rintro e13 w13 ⟨rfl, hF13⟩
                have hX13 := hX12.trans hF13
                have hOW13 := hOW.fr hX13 (fun _ _ h => h)
                have hF013 := hF.trans hX13
                have hbe : bEq ⟨ya, yn, m1, h1, a11, c11⟩ ⟨ya, yn, m2, h2, a12, c12⟩ = !(P ⟨ya, yn⟩) := by
                  rw [HP1.out]
                  unfold bEq
                  by_cases e1 : h1 = h2 <;> by_cases e2 : m1 = m2 <;> simp [e1, e2]
                rw [hbe]
                obtain ⟨d0, d1⟩ := HQ.out w13 hX13
                have hgN13 := Nat.lt_of_lt_of_le hgNl hX13.size
                clear hI11 hI12 hX12 hF13 hbe hOW hF
                cases hPv : P ⟨ya, yn⟩ with
                | false =>
                  have hE' := Lib.hid (show NS = (NL.take (i + 1)).filter P by rw [HT.out, hPv, hE.out]; rfl)
                  clear hPv
                  go_wp2
                  go_roundw
                  case rel => exact ⟨i + 1, NS, aW, cW, obW, by omega, by go_num, rfl, hOW13, hNW, hF013, hE', by omega⟩
                  case measure => simp [intOf]; omega
                | true =>
                  have hE' := Lib.hid (show NS ++ [(⟨ya, yn⟩ : Nt)] = (NL.take (i + 1)).filter P by rw [HT.out, hPv, hE.out]; rfl)
                  have hrd := rd_lit w13 37 [.int .u32 ya, .int .i64 yn]
                  have hOa := hOW13.alloc (.cells #[.int .u32 ya, .int .i64 yn] 37)
                  have hFa := hF013.alloc (.cells #[.int .u32 ya, .int .i64 yn] 37)
                  clear hPv hOW13 hF013 hX13
                  go_wp2_with (at_builtin; refine wpList_app rfl _ _ 65 rfl Tryd.underlying65 infoNt rfl (by decide) rfl rfl hOa hrd (by simp [Value.oneCell']) (by omega) (by omega) ?_)
                  intro a8 c8 w8 ob8 v1 v2 v3
                  have hF8 : Fr (fun _ => False) wA w8 := hFa.trans' v2 (fun i hi e => by have := hNW i e; omega)
                  have hN8 : ∀ g, ob8 = some g → wA.heap.size ≤ g := app_new hNW v3 (by have := hFa.size; simp at this; omega)
                  have v1' : Own w8.heap 37 2 a8 (NS ++ [(⟨ya, yn⟩ : Nt)]).length c8 ((NS ++ [(⟨ya, yn⟩ : Nt)]).flatMap Nt.cells) ob8 := by
                    rw [List.length_append, List.flatMap_append]
                    simpa using v1
                  clear v1 v2 v3 hOa hrd hFa d0 d1
                  go_wp2
                  go_roundw
                  case rel => exact ⟨i + 1, NS ++ [⟨ya, yn⟩], a8, c8, ob8, by omega, by go_num, by simp, v1', hN8, hF8, hE', by simp; omega⟩
                  case measure => simp [intOf]; omega
              · obtain rfl : i = NL.length := by omega
                rw [List.take_length] at hE
                have hSq := HSA.out.fr0 hF
                have hAq := HARD.out.fr hF (fun _ _ _ h => h)
                have hFd : Fr (fun _ => False) wr (wr.alloc (.cells #[] 51)) := (Fr.refl _ _).alloc (.cells #[] 51)
                have hA5 := hAq.fr hFd (fun _ _ _ h => h)
                have hone := hea_flat_one all'
                have hwAs := hF.size
                clear hF hAq
                go_wp2_with (at_builtin; refine wpList_app rfl _ _ 47 rfl Tryd.underlying47 infoHea rfl (by decide) rfl rfl (Own.made wr 51 4 0 [] rfl (by decide)) hA5 hone (by omega) (by omega) ?_)
                intro a7 c7 w7' ob7 z1 z2 z3
                have hN7 := app_new (base := wr.heap.size) (fun g' hg' => by cases hg'; exact Nat.le_refl _) z3 (by simp)
                have hF7' : Fr (fun _ => False) wr w7' := hFd.trans' z2 (fun i hi e => by cases e; exact absurd hi (Nat.lt_irrefl _))
                have hO7 : Own w7'.heap 51 4 a7 all'.length c7 (all'.flatMap Hea.cells) ob7 := by simpa using z1
                have hSz := hSq.fr0 hF7'
                have hOWz := hOW.fr hF7' (fun _ _ h => h)
                have HSZ := Lib.hid hSz
                have hEz := hSz.eng
                have hz64 := hSz.eh.e64
                have HUlt := Lib.hid (show ∀ k, U' k → k < wA.heap.size from HSA.out.eng.lt)
                have hobl := hSq.eh.own.lt
                have hwsz := hSq.fr.size
                have hblt := hSq.box.lt
                have HAPT := Lib.hid (show ∀ g, ob7 = some g → ¬ U' g ∧ w.heap.size < g ∧ ob' ≠ some g from fun g hg => by
                  have h1 := hN7 g hg
                  exact ⟨fun h => by have := HUlt.out g h; omega, by omega, fun h => by have := hobl g h; omega⟩)
                clear z1 z2 z3 hA5 hFd hF7' hSq hSz hOW hobl
                go_wp2_with (fail)
                refine (dirty_any w7' hEz hz64).mono ?_
                rintro e14 w14 ⟨L, aL, cL, obL, E1, rfl, hsL, hmL, hOL, hF14, hNL14, hlL, hE1, hK1, hSh1⟩
                have hLN : L = NS := by rw [hE.out, HPP.out, HNL.out]; exact news_same HSZ.out hsL hmL
                have hO7' := hO7.fr hF14 (fun g hg h => (HAPT.out g hg).1 h)
                have HS14 := Lib.hid (HSZ.out.shown hF14 hE1 hK1 hSh1 hO7' HAPT.out)
                have hOW14 := hOWz.fr hF14 (fun g hg h => by have h1 := HUlt.out g h; have := hNW g hg; omega)
                have HLN := Lib.hid hLN
                have hLl : L.length ≤ 64 := by omega
                clear hEz hz64 hsL hmL hF14 hNL14 hlL hE1 hK1 hSh1 hO7 hO7' hOWz hLN
                go_wp2_with (fail)
                refine (snets_any L NS aL aW cL cW w14 hOL.rd hOW14.rd (by omega) (by omega) rfl rfl).mono ?_
                rintro e15 w15 ⟨rfl, n15, rfl⟩
                rw [show decide (L = NS) = true from decide_eq_true HLN.out]
                have HS15 := Lib.hid (HS14.out.fr0 ((Fr.refl (fun _ => False) w14).drewN n15))
                clear hOL hOW14
                go_wp2
                go_roundw
                case rel => exact ⟨k + 1, all', all', E1, U', aA', cA', ob', a7, c7, ob7, by omega, by go_num, rfl, by simp, HS15.out⟩
                case measure => simp [intOf]; omega
        · have HSN := Lib.hid hSn
          clear hSn
          go_wp2
          go_roundw
          case rel => exact ⟨k + 1, all', sh, E', U', aA', cA', ob', aS, cS, obS, by omega, by go_num, rfl, rfl, HSN.out⟩
          case measure => simp [intOf]; omega
      · skip
        obtain rfl : k = l.length := by omega
        have HS := Lib.hid hS
        have hel := hS.elen
        have h64 := hS.eh.e64
        have hArd := hS.eh.own.rd
        clear hS
        go_wp2_with (fail)
        refine (netsOf_any all aA cA wr hArd (by omega) (by omega) rfl).mono ?_
        rintro e10 wA ⟨aN, cN, obN, he10, hON, hFN, -⟩
        simp only [id] at he10
        subst he10
        obtain ⟨NL, hNL⟩ : ∃ NL, NL = netsM all := ⟨_, rfl⟩
        have hNl : NL.length ≤ 100 := by rw [hNL, netsM_len]; omega
        rw [← hNL] at hON
        have HNL := Lib.hid hNL
        have HSA := Lib.hid (HS.out.fr0 hFN)
        have HARD := Lib.hid (hArd.fr hFN (fun _ _ _ h => h))
        have HOA := Lib.hid (HS.out.okall)
        have HWA := Lib.hid (HS.out.fr.trans hFN)
        have HB4 := Lib.hid (show ∀ a n, (bestM all costs a n).2.length ≤ 4 from HS.out.eng.best4)
        obtain ⟨P, hP⟩ : ∃ P : Nt → Bool, P = (fun q => decide ((bestM all costs q.a q.n).1 < 16)) := ⟨_, rfl⟩
        have HPP := Lib.hid hP
        rw [← hNL]
        clear hNL hArd hFN hel hP HS
        go_wp2
        go_loopw [24, 22] (fun s24 s22 wq => ∃ (i : Nat) (Y : List BestR) (aY : Option Addr) (cY : Nat) (obY : Option Nat), i ≤ NL.length ∧ s24 = .int .i64 i ∧ s22 = .slice aY Y.length cY ∧ Alls wA.heap.size wq.heap Y aY cY obY ∧ Fr (fun _ => False) wA wq ∧ Hid (Y.map (fun x => (⟨x.a, x.n⟩ : Nt)) = (NL.take i).filter P ∧ ∀ y ∈ Y, (y.m, y.h) = bestM all costs y.a y.n) ∧ Y.length ≤ i) (fun s _ _ => NL.length - (intOf s).toNat)
        case atStart => exact ⟨0, [], none, 0, none, by omega, rfl, rfl, Alls.nil _ _, Fr.refl _ _, Lib.hid ⟨rfl, fun _ h => nomatch h⟩, Nat.le_refl _⟩
        case round =>
          obtain ⟨i, Y, aY, cY, obY, hi, rfl, rfl, hA, hF, hG, hil⟩ := hrel
          by_cases hilt : i < NL.length
          · obtain ⟨gN, oN, rfl, hgN, hcN⟩ := Recs.pos hON.rd Nt.cells_len (by omega) (by omega)
            have dd : ∀ (W : World) (_ : Fr (fun _ => False) wr W) (j : Nat) (_ : j < 2), W.cell? ⟨gN, oN + (i * 2 + j), none⟩ = (Nt.cells (nth NL i))[j]? := fun W f j hj => (f.cell (p := ⟨gN, oN + (i * 2 + j), none⟩) (Nat.lt_of_lt_of_le hgN hF.size) (fun h => h)).trans ((hF.cell (p := ⟨gN, oN + (i * 2 + j), none⟩) hgN (fun h => h)).trans (hcN wA rfl i j hilt hj))
            have hT : (NL.take (i + 1)).filter P = if P (nth NL i) = true then (NL.take i).filter P ++ [nth NL i] else (NL.take i).filter P := by rw [take_succ_nth NL i hilt, filter_snoc]
            obtain ⟨y, hy⟩ : ∃ y, y = nth NL i := ⟨_, rfl⟩
            rw [← hy] at dd hT
            obtain ⟨ya, yn⟩ := y
            have hq : ∀ (W : World) (_ : Fr (fun _ => False) wr W), W.cell? ⟨gN, oN + i * 2, none⟩ = some (.int .u32 ya) ∧ W.cell? ⟨gN, oN + i * 2 + 1, none⟩ = some (.int .i64 yn) := fun W f => by
              have d0 := dd W f 0 (by omega)
              have d1 := dd W f 1 (by omega)
              simp only [Nt.cells, List.getElem?_cons_zero, List.getElem?_cons_succ, ← Nat.add_assoc, Nat.add_zero] at d0 d1
              exact ⟨d0, d1⟩
            have HQ := Lib.hid hq
            have HT := Lib.hid hT
            have hgNl := Nat.lt_of_lt_of_le hgN hF.size
            have HON := Lib.hid hON
            clear hcN dd hy hT hq
            obtain ⟨M1, hM1⟩ : ∃ M1, M1 = bestM all costs ya yn := ⟨_, rfl⟩
            have hl1 := HB4.out ya yn
            have hb1 : ∀ (W : World) (_ : Fr (fun _ => False) wr W), Calls Tryd.prog 25 #[.slice aA all.length cA, .slice ac0 costs.length cc0, .agg #[.int .u32 ya, .int .i64 yn]] W (RetBest W ya yn M1) := fun W f => by
              rw [hM1]; exact bestOf_any all aA cA costs ac0 cc0 ya yn W (HARD.out.fr (hF.trans f) (fun _ _ _ h => h)) HOA.out (by omega) (HC.out.fr0 ((HWA.out.trans hF).trans f) (fun _ _ h => h)) hn8 HCB.out rfl rfl
            rw [← hM1] at hl1
            have HP1 := Lib.hid (show P ⟨ya, yn⟩ = decide (M1.1 < 16) by rw [HPP.out, hM1])
            have HM1 := Lib.hid hM1
            have HB1 := Lib.hid hb1
            obtain ⟨m1, h1⟩ := M1
            simp only at hl1
            clear hM1 hb1
            obtain ⟨d0, d1⟩ := HQ.out wr (Fr.refl _ _)
            clear hON
            go_wp2_with (fail)
            refine (HB1.out wr (Fr.refl _ _)).mono ?_
            rintro e11 w11 ⟨a11, c11, ob11, rfl, -, hF11, -⟩
            simp only
            have hfld : ∀ W : World, Sem.run Tryd.prog (Instr.field 40 (.agg #[.int .u32 ya, .int .i64 yn, .int .i64 m1, .slice a11 h1.length c11]) 1) W = .ok (.int .i64 m1) W := fun W => by kernel_rfl
            obtain ⟨d0', d1'⟩ := HQ.out w11 hF11
            have hgN11 := Nat.lt_of_lt_of_le hgNl hF11.size
            clear d0 d1
            by_cases hm16 : m1 < 16
            · have hT2 := Lib.hid (show (NL.take (i + 1)).filter P = (NL.take i).filter P ++ [⟨ya, yn⟩] by rw [HT.out, if_pos (by rw [HP1.out]; exact decide_eq_true hm16)])
              go_wp2_with (fail)
              refine (HB1.out w11 hF11).mono ?_
              rintro e12 w12 ⟨a12, c12, ob12, rfl, hO12, hF12, hN12⟩
              simp only at hO12 ⊢
              have hFw := hF11.trans hF12
              have hrd := rd_lit w12 40 [.int .u32 ya, .int .i64 yn, .int .i64 m1, .slice a12 h1.length c12]
              have hFb := (Fr.refl (fun _ => False) w12).alloc (.cells #[.int .u32 ya, .int .i64 yn, .int .i64 m1, .slice a12 h1.length c12] 40)
              have hAo := (hA.fr0 hFw).own.alloc (.cells #[.int .u32 ya, .int .i64 yn, .int .i64 m1, .slice a12 h1.length c12] 40)
              have hs3 : (w12.alloc (.cells #[.int .u32 ya, .int .i64 yn, .int .i64 m1, .slice a12 h1.length c12] 40)).heap.size = w12.heap.size + 1 := by simp
              have hlt3 := hO12.lt
              have hwsz := hF.size
              have hws3 := hFw.size
              have hw11 := hF11.size
              have hob : ∀ g, obY = some g → g < wr.heap.size := hA.own.lt
              have HAA := Lib.hid hA
              clear hA d0' d1'
              go_wp2_with (at_builtin; refine wpList_app rfl _ _ 22 rfl Tryd.underlying22 infoBst rfl (by decide) rfl rfl hAo hrd (by simp [Value.oneCell']) (by omega) (by omega) ?_)
              intro a8 c8 w8 ob8 v1 v2 v3
              have hO38 := (hO12.alloc (.cells #[.int .u32 ya, .int .i64 yn, .int .i64 m1, .slice a12 h1.length c12] 40)).fr v2 (fun g hg e => by have := hob g e; have := hN12 g hg; omega)
              have hF38 : Fr (fun k => obY = some k) wr w8 := ((hFw.trans hFb).none _).trans v2
              have hob8 : ob8 = obY ∨ ∃ g, ob8 = some g ∧ wr.heap.size ≤ g := by
                rcases v3 with v3 | ⟨g', v3, v4⟩
                · exact .inl v3
                · exact .inr ⟨g', v3, by omega⟩
              have HA8 := Lib.hid (HAA.out.push hwsz (x := ⟨ya, yn, m1, h1, a12, c12⟩) hO38 (fun g hg => ⟨by have := hN12 g hg; omega, fun e => by
                rcases v3 with v3 | ⟨g', v3, v4⟩
                · rw [v3] at e; have := hob g e; have := hN12 g hg; omega
                · rw [v3] at e; cases e; have := hlt3 g hg; omega⟩) (by simpa using v1) hF38 hob8)
              have hF8 : Fr (fun _ => False) wA w8 := (hF.trans (hFw.trans hFb)).trans' v2 (fun i hi e => by have h1 := HAA.out.new i e; omega)
              have HG8 := Lib.hid (show (Y ++ [(⟨ya, yn, m1, h1, a12, c12⟩ : BestR)]).map (fun x => (⟨x.a, x.n⟩ : Nt)) = (NL.take (i + 1)).filter P ∧ ∀ y ∈ Y ++ [(⟨ya, yn, m1, h1, a12, c12⟩ : BestR)], (y.m, y.h) = bestM all costs y.a y.n from ⟨by rw [hT2.out, List.map_append, hG.out.1]; rfl, fun z hz => by
                rcases List.mem_append.1 hz with hz | hz
                · exact hG.out.2 z hz
                · rw [List.mem_singleton.1 hz]; exact HM1.out⟩)
              clear v1 v2 v3 hO38 hF38 hob8 hO12 hFw hFb hAo hrd hF11 hF12
              go_wp2
              go_roundw
              case rel => exact ⟨i + 1, Y ++ [⟨ya, yn, m1, h1, a12, c12⟩], a8, c8, ob8, by omega, by go_num, by simp, HA8.out, hF8, HG8, by simp; omega⟩
              case measure => simp [intOf]; omega
            · have hT2 := Lib.hid (show Y.map (fun x => (⟨x.a, x.n⟩ : Nt)) = (NL.take (i + 1)).filter P ∧ ∀ y ∈ Y, (y.m, y.h) = bestM all costs y.a y.n from ⟨by rw [HT.out, if_neg (by rw [HP1.out]; simpa using hm16)]; exact hG.out.1, hG.out.2⟩)
              have hA11 := hA.fr0 hF11
              have hF011 := hF.trans hF11
              clear hA hF hF11 d0' d1'
              go_wp2
              go_roundw
              case rel => exact ⟨i + 1, Y, aY, cY, obY, by omega, by go_num, rfl, hA11, hF011, hT2, by omega⟩
              case measure => simp [intOf]; omega
          · obtain rfl : i = NL.length := by omega
            rw [List.take_length] at hG
            have hSq := HSA.out.fr0 hF
            have hEq := hSq.eng
            have hAq := HARD.out.fr hF (fun _ _ _ h => h)
            have hFq := HWA.out.trans hF
            have HSQ := Lib.hid hSq
            have HAQ := Lib.hid hAq
            have HFQ := Lib.hid hFq
            have HAL := Lib.hid hA
            clear hSq hAq hFq hF hA
            go_wp2_with (fail)
            refine (all_any wr hEq h64).mono ?_
            rintro e5 w5 ⟨R, aR, cR, obR, rfl, hA5, hsR, hmR, hbR, hF5, hl5⟩
            have hRN : R.map (fun x => (⟨x.a, x.n⟩ : Nt)) = Y.map (fun x => (⟨x.a, x.n⟩ : Nt)) := by
              rw [hG.out.1, HPP.out, HNL.out]; exact ways_same HSQ.out hsR hmR
            obtain ⟨hRl, hRe⟩ := bests_alike (f := bestM all costs) hRN hbR hG.out.2
            have HRE := Lib.hid hRe
            have hb5 := hA5.bests (fun x hx => by have h := congrArg (·.2.length) (hbR x hx); simp only at h; rw [h]; exact HB4.out _ _)
            have hbY := ((HAL.out.fr0 hF5).bests (fun x hx => by have h := congrArg (·.2.length) (hG.out.2 x hx); simp only at h; rw [h]; exact HB4.out _ _))
            have HRL := Lib.hid hRl
            clear hA5 hsR hmR hbR hRN hRl hRe hEq
            go_wp2_with (fail)
            refine (sbests_true (n := R.length) (k := Y.length) R Y aR aY cR cY w5 hb5 hbY HRE HRL.out (by omega) rfl HRL.out).mono ?_
            rintro e6 w6 ⟨rfl, hF6⟩
            have hF56 := hF5.trans hF6
            have hB6 := HSQ.out.box.fr hF56 (fun h => h)
            have c0 := hB6.cell 0
            have c1 := hB6.cell 1
            have hlb := hB6.lt
            simp only [List.getElem?_cons_succ, List.getElem?_cons_zero] at c0 c1
            clear hb5 hbY hF5 hF6
            go_wp2_with (fail)
            refine (netFault_any a n w6 ⟨HA.out.1, HA.out.2.1⟩).mono ?_
            rintro e7 w7 ⟨rfl, hF7⟩
            have hF57 := hF56.trans hF7
            have hB7 := hB6.fr hF7 (fun h => h)
            clear c0 c1 hlb hB6 hF56 hF7
            have c0 := hB7.cell 0
            have c1 := hB7.cell 1
            have hlb := hB7.lt
            simp only [List.getElem?_cons_succ, List.getElem?_cons_zero] at c0 c1
            have hFa := hF57.alloc (.cells #[.int .u32 0, .int .i64 0, .int .i64 0, .slice none 0 0] 40)
            have hWa := Blk.made w7 40 [.int .u32 0, .int .i64 0, .int .i64 0, .slice none 0 0]
            have hBa := hB7.alloc (.cells #[.int .u32 0, .int .i64 0, .int .i64 0, .slice none 0 0] 40)
            cases hne : netErr a n with
            | some q =>
              have hq0 := netErr_pos hne
              have e0 : (q == 0) = false := by simp [hq0]
              have HNE := Lib.hid hne
              have hEa := HSQ.out.eng.fr0 hFa
              have a0 := hBa.cell 0
              have a1 := hBa.cell 1
              have al0 := hBa.lt
              simp only [List.getElem?_cons_succ, List.getElem?_cons_zero] at a0 a1
              rw [show numO (some q) = q from rfl]
              clear hne hq0 c0 c1 hlb hB7
              go_wp2_with (fail)
              refine (get_any a n _ hEa HA.out).mono ?_
              intro e8 w8 R8
              obtain ⟨rfl, hF8⟩ := R8.errE HNE.out
              have hX8 := (hFa.trans hF8).alloc (.cells #[.int .u32 0, .int .i64 0, .int .i64 0, .slice none 0 0] 40)
              have hW8 := (hWa.fr hF8 (fun h => h)).alloc (.cells #[.int .u32 0, .int .i64 0, .int .i64 0, .slice none 0 0] 40)
              have hM8 := Blk.made w8 40 [.int .u32 0, .int .i64 0, .int .i64 0, .slice none 0 0]
              have hgx := hg.none (HFQ.out.trans hX8)
              clear R8 hEa hBa hFa hWa a0 a1 al0 hF8
              go_wp2_with (fail)
              refine (error_any (some q) q _ hgx).mono ?_
              rintro e9 w9 ⟨rfl, hF9⟩
              rw [show (errN (some q) == q) = true from by simp [errN]]
              have hX9 := hX8.trans hF9
              have x0 := (hW8.fr hF9 (fun h => h)).cell 0
              have x1 := (hW8.fr hF9 (fun h => h)).cell 1
              have x2 := (hW8.fr hF9 (fun h => h)).cell 2
              have x3 := (hW8.fr hF9 (fun h => h)).cell 3
              have xl := (hW8.fr hF9 (fun h => h)).lt
              have y0 := (hM8.fr hF9 (fun h => h)).cell 0
              have y1 := (hM8.fr hF9 (fun h => h)).cell 1
              have y2 := (hM8.fr hF9 (fun h => h)).cell 2
              have y3 := (hM8.fr hF9 (fun h => h)).cell 3
              have yl := (hM8.fr hF9 (fun h => h)).lt
              simp only [List.getElem?_cons_succ, List.getElem?_cons_zero] at x0 x1 x2 x3 y0 y1 y2 y3
              clear hW8 hM8 hF9 hX8 hgx
              go_wp2_with (fail)
              refine (sbest_any ⟨0, 0, 0, [], none, 0⟩ ⟨0, 0, 0, [], none, 0⟩ w9 (Rd.nil _ _ _) (Rd.nil _ _ _) (by simp) (by simp)).mono ?_
              rintro e11 w11 ⟨rfl, hF11⟩
              rw [show bEq ⟨0, 0, 0, [], none, 0⟩ ⟨0, 0, 0, [], none, 0⟩ = true from decide_eq_true ⟨rfl, rfl, rfl, rfl⟩]
              have hX11 := HFQ.out.trans (hX9.trans hF11)
              clear hX9 hF11 x0 x1 x2 x3 y0 y1 y2 y3
              go_wp2
              go_ret
              exact RetV.mk rfl rfl hX11
            | none =>
              have HNE := Lib.hid hne
              obtain ⟨M, hM⟩ : ∃ M, M = bestM all costs a n := ⟨_, rfl⟩
              have hbc := bestOf_any all aA cA costs ac0 cc0 a n _ (HAQ.out.fr hFa (fun _ _ _ h => h)) HOA.out (by omega) (HC.out.fr0 (HFQ.out.trans hFa) (fun _ _ h => h)) hn8 HCB.out rfl rfl
              have hlen := HB4.out a n
              rw [← hM] at hbc hlen
              have HM := Lib.hid hM
              obtain ⟨sm, sh'⟩ := M
              simp only at hlen
              have a0 := hBa.cell 0
              have a1 := hBa.cell 1
              have al0 := hBa.lt
              have hUl := HSQ.out.eng.lt
              have hw5 := hF57.size
              have HUL := Lib.hid (show ∀ k, U k → ¬ k = w7.heap.size from fun k hk e => by have := hUl k hk; omega)
              simp only [List.getElem?_cons_succ, List.getElem?_cons_zero] at a0 a1
              rw [show numO none = 0 from rfl]
              clear hne c0 c1 hlb hB7 hM hUl
              go_wp2_with (fail)
              refine hbc.mono ?_
              rintro e8 w8 ⟨a8, c8, ob8, rfl, hO8, hF8, hN8⟩
              simp only at hO8 ⊢
              have hs7 : (w7.alloc (.cells #[.int .u32 0, .int .i64 0, .int .i64 0, .slice none 0 0] 40)).heap.size = w7.heap.size + 1 := by simp
              have hne8 : ∀ g, ob8 = some g → ¬ g = w7.heap.size := fun g h1 h2 => by have := hN8 g h1; omega
              have hW8 := hWa.fr hF8 (fun h => h)
              obtain ⟨hBW, hFW⟩ := put4 hW8 (.int .u32 a) (.int .i64 n) (.int .i64 sm) (.slice a8 sh'.length c8)
              have HEW := Lib.hid ((HSQ.out.eng.fr0 (hFa.trans hF8)).fr hFW (fun k hk e => HUL.out k hk e))
              have HOW := Lib.hid (hO8.fr hFW hne8)
              have HXW := Lib.hid ((HFQ.out.trans (hFa.trans hF8)).trans' hFW (fun i hi e => by have h2 : i = w7.heap.size := e; have := HFQ.out.size; omega))
              have HBW := Lib.hid hBW
              have HBB8 := Lib.hid ((hBa.fr hF8 (fun h => h)).fr hFW (fun e => by have h2 : w.heap.size = w7.heap.size := e; have := HFQ.out.size; have := HSQ.out.box.lt; omega))
              have z0 := hW8.frozen 0
              have z1 := hW8.frozen 1
              have z2 := hW8.frozen 2
              have z3 := hW8.frozen 3
              have y0 := hW8.cell 0
              have y1 := hW8.cell 1
              have y2 := hW8.cell 2
              have y3 := hW8.cell 3
              have yl := hW8.lt
              have b0 := HBB8.out.cell 0
              have b1 := HBB8.out.cell 1
              have bl := HBB8.out.lt
              simp only [List.getElem?_cons_succ, List.getElem?_cons_zero] at y0 y1 y2 y3 b0 b1
              clear hbc hO8 hF8 hFa hWa hBa hne8 hW8 hBW hFW a0 a1 al0 hN8
              go_wp2_with (fail)
              have hget := get_any a n _ HEW.out HA.out
              rw [← HM.out] at hget
              refine hget.mono ?_
              intro e9 w9 R9
              obtain ⟨a9, c9, ob9, he9, hO9, hF9, -⟩ := R9.okE HNE.out
              simp only at he9 hO9
              subst he9
              have hX9 := (HXW.out.trans hF9).alloc (.cells #[.int .u32 a, .int .i64 n, .int .i64 sm, .slice a9 sh'.length c9] 40)
              have hW9 := (HBW.out.fr hF9 (fun h => h)).alloc (.cells #[.int .u32 a, .int .i64 n, .int .i64 sm, .slice a9 sh'.length c9] 40)
              have hM9 := Blk.made w9 40 [.int .u32 a, .int .i64 n, .int .i64 sm, .slice a9 sh'.length c9]
              have hI9 := (hO9.alloc (.cells #[.int .u32 a, .int .i64 n, .int .i64 sm, .slice a9 sh'.length c9] 40)).rd
              have hI8 := ((HOW.out.fr hF9 (fun _ _ h => h)).alloc (.cells #[.int .u32 a, .int .i64 n, .int .i64 sm, .slice a9 sh'.length c9] 40)).rd
              have hgx := hg.none hX9
              clear R9 hget hF9 hO9 z0 z1 z2 z3 y0 y1 y2 y3 yl b0 b1 bl
              go_wp2_with (fail)
              refine (error_any none 0 _ hgx).mono ?_
              rintro e11 w11 ⟨rfl, hF11⟩
              rw [show (errN none == 0) = true from rfl]
              have hX11 := hX9.trans hF11
              have hW11 := hW9.fr hF11 (fun h => h)
              have hM11 := hM9.fr hF11 (fun h => h)
              have x0 := hW11.cell 0
              have x1 := hW11.cell 1
              have x2 := hW11.cell 2
              have x3 := hW11.cell 3
              have xl := hW11.lt
              have y0 := hM11.cell 0
              have y1 := hM11.cell 1
              have y2 := hM11.cell 2
              have y3 := hM11.cell 3
              have yl := hM11.lt
              have hJ9 := hI9.fr hF11 (fun _ _ _ h => h)
              have hJ8 := hI8.fr hF11 (fun _ _ _ h => h)
              simp only [List.getElem?_cons_succ, List.getElem?_cons_zero] at x0 x1 x2 x3 y0 y1 y2 y3
              clear hW9 hM9 hF11 hX9 hgx hI9 hI8 hW11 hM11
              go_wp2_with (fail)
              refine (sbest_any ⟨a, n, sm, sh', a9, c9⟩ ⟨a, n, sm, sh', a8, c8⟩ w11 hJ9 hJ8 (by simp only; omega) (by simp only; omega)).mono ?_
              rintro e12 w12 ⟨rfl, hF12⟩
              rw [show bEq ⟨a, n, sm, sh', a9, c9⟩ ⟨a, n, sm, sh', a8, c8⟩ = true from decide_eq_true ⟨rfl, rfl, rfl, rfl⟩]
              have hX12 := hX11.trans hF12
              clear hX11 hF12 x0 x1 x2 x3 y0 y1 y2 y3 hJ9 hJ8
              go_wp2
              go_ret
              exact RetV.mk rfl rfl hX12
end Go.Proofs.YtfjempfffdeklaaDoor
