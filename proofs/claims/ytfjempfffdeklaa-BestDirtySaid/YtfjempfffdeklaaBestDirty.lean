import Derived.Test.YtfjempfffdeklaaEngShow
import Derived.Test.YtfjempfffdeklaaEngGet
import Derived.Test.YtfjempfffdeklaaChosen
import Derived.Test.YtfjempfffdeklaaBestSame
import Derived.Test.YtfjempfffdeklaaArgHea
import Derived.Test.YtfjempfffdeklaaNetSame
import Derived.Test.YtfjempfffdeklaaAppWide
namespace Go
theorem setE_len {costs : List Int} {E E' : List Ent} {h : Hea} (hs : setE costs E h = none) (he : E'.map (·.key) = keysE E ⟨h.a, h.n⟩) (hl : E.length ≤ 64) : E'.length ≤ 64 := by
  have h1 : E'.length = (keysE E ⟨h.a, h.n⟩).length := by rw [← he]; simp
  unfold keysE at h1
  by_cases hk : hasK E ⟨h.a, h.n⟩
  · rw [if_pos hk] at h1; simp at h1; omega
  · rw [if_neg hk] at h1
    simp at h1
    unfold setE at hs
    split at hs
    · cases hs
    · split at hs
      · cases hs
      · rename_i hn
        have : ¬ E.length = 64 := fun e => hn ⟨hk, e⟩
        omega
theorem setE_heard {costs : List Int} {E : List Ent} {h : Hea} (hs : setE costs E h = none) : heardE costs.length h = none := by
  unfold setE at hs
  split at hs
  · cases hs
  · assumption
theorem nodup_len_le {l m : List Nt} (hn : l.Nodup) (hs : ∀ x ∈ l, x ∈ m) : l.length ≤ m.length := by
  induction l generalizing m with
  | nil => exact Nat.zero_le _
  | cons x l ih =>
    obtain ⟨h1, h2⟩ := List.nodup_cons.1 hn
    have hx := hs x (by simp)
    have := ih (m := m.erase x) h2 (fun y hy => (List.mem_erase_of_ne (fun e : y = x => h1 (by rw [← e]; exact hy))).2 (hs y (by simp [hy])))
    have hl := List.length_erase_of_mem hx
    have hp := List.length_pos_of_mem hx
    simp only [List.length_cons]
    omega
theorem nsorted_nodup {l : List Nt} (h : NSorted l) : l.Nodup := h.imp (fun {x y} hxy e => by subst e; exact ntLt_irrefl x hxy)
end Go
namespace Go.Proofs.Ytfjempfffdeklaa
open Go.RowKit Go.Maps
/-- The ways that were told before. -/
structure Was (B : Nat) (U : Nat → Prop) (H : Array Obj) (all : List Hea) (costs : List Int) (more : List Hea) (k : Nat) (aR : Option Addr) (cR : Nat) (R : List BestR) (ob : Option Nat) : Prop where
  own : Own H 40 4 aR R.length cR (R.flatMap BestR.cells) ob
  ap : ∀ g, ob = some g → ¬ U g ∧ B ≤ g
  wf : ∀ x ∈ R, Nt.wf ⟨x.a, x.n⟩ ∧ netErr x.a x.n = none
  is : ∀ x ∈ R, (x.m, x.h) = bestM all costs x.a x.n
  row : ∀ x ∈ R, Ints H x.A x.h
  rowU : ∀ x ∈ R, ∀ b off, x.A = some ⟨b, off, none⟩ → ¬ U b ∧ B ≤ b ∧ ob ≠ some b ∧ b < H.size
  cmp : ∀ j, j < k → netErr (nth more j).a (nth more j).n = none → ∃ x ∈ R, x.a = (nth more j).a ∧ x.n = (nth more j).n
  len : R.length ≤ k
namespace Was
variable {B : Nat} {U V S : Nat → Prop} {w w' : World} {all : List Hea} {costs : List Int} {more : List Hea} {k : Nat} {aR : Option Addr} {cR : Nat} {R : List BestR} {ob : Option Nat}
theorem fr (h : Was B U w.heap all costs more k aR cR R ob) (f : Fr S w w') (hs : ∀ g, S g → U g) : Was B U w'.heap all costs more k aR cR R ob :=
  ⟨h.own.fr f (fun g hg s => (h.ap g hg).1 (hs g s)), h.ap, h.wf, h.is, fun x hx => (h.row x hx).fr f (fun b off e s => (h.rowU x hx b off e).1 (hs b s)), fun x hx b off e => ⟨(h.rowU x hx b off e).1, (h.rowU x hx b off e).2.1, (h.rowU x hx b off e).2.2.1, Nat.lt_of_lt_of_le (h.rowU x hx b off e).2.2.2 f.size⟩, h.cmp, h.len⟩
theorem uses (h : Was B U w.heap all costs more k aR cR R ob) (hV : ∀ g, g < w.heap.size → V g → U g) : Was B V w.heap all costs more k aR cR R ob :=
  ⟨h.own, fun g hg => ⟨fun v => (h.ap g hg).1 (hV g (h.own.lt g hg) v), (h.ap g hg).2⟩, h.wf, h.is, h.row, fun x hx b off e => ⟨fun v => (h.rowU x hx b off e).1 (hV b (h.rowU x hx b off e).2.2.2 v), (h.rowU x hx b off e).2⟩, h.cmp, h.len⟩
end Was
theorem news_iff {U : Nat → Prop} {w : World} {be bn : Nat} {costs : List Int} {all1 acc : List Hea} {E : List Ent} {ac : Option Addr} {cc : Nat} (h : Eng U w be bn costs (all1 ++ acc) E ac cc) (hs : ∀ q, shownE E q = bestM all1 costs q.a q.n) {L : List Nt} (hL : ∀ q, q ∈ L ↔ ∃ x ∈ E, x.key = q ∧ dirP (all1 ++ acc) costs x = true) (q : Nt) :
    q ∈ L ↔ bestM (all1 ++ acc) costs q.a q.n ≠ bestM all1 costs q.a q.n := by
  rw [hL]
  constructor
  · rintro ⟨x, hx, rfl, hd⟩
    have h1 := of_decide_eq_true hd
    rw [← shownE_at h.ap hx, hs] at h1
    exact h1
  · intro hne
    by_cases hq : ∃ x ∈ E, x.key = q
    · obtain ⟨x, hx, rfl⟩ := hq
      refine ⟨x, hx, rfl, decide_eq_true ?_⟩
      rw [← shownE_at h.ap hx, hs]
      exact hne
    · exfalso
      have hu := h.unheard (q := q) (fun x hx e => hq ⟨x, hx, e⟩)
      exact hne (by rw [bestM_none hu, bestM_none (fun x hx => hu x (List.mem_append_left _ hx))])
theorem bestM_app {all acc : List Hea} {costs : List Int} {a n : Int} (h : ∀ x ∈ acc, ¬ (x.a = a ∧ x.n = n)) : bestM (all ++ acc) costs a n = bestM all costs a n := by
  induction acc using snoc_ind with
  | h0 => rw [List.append_nil]
  | h1 acc x ih =>
    rw [← List.append_assoc, bestM_other (h x (by simp))]
    exact ih (fun y hy => h y (by simp [hy]))
set_option maxRecDepth 100000 in
set_option maxHeartbeats 16000000 in
theorem bestDirty_any (costs : List Int) (ac0 : Option Addr) (cc0 : Nat) (l : List Hea) (al : Option Addr) (cl : Nat) (more : List Hea) (am : Option Addr) (cm : Nat) (w : World) (hL : Recs w.heap al 4 Hea.cells l) (hw : ∀ x ∈ l, Hea.wf x) (hll : l.length * 32 ≤ 140737488351232) (hM : Recs w.heap am 4 Hea.cells more) (hmw : ∀ x ∈ more, Hea.wf x) (hml : more.length * 32 ≤ 140737488351232) (hC : Ints w.heap ac0 costs) (hcl : costs.length ≤ 9223372036854775806) :
    Calls Try.prog 3 #[.slice ac0 costs.length cc0, .slice al l.length cl, .slice am more.length cm] w (RetV w (.bool true)) := by
  have HL := Lib.hid hL
  have HW := Lib.hid hw
  have HMo := Lib.hid hM
  have HMW := Lib.hid hmw
  have HC := Lib.hid hC
  clear hL hw hC hM hmw
  go_enter Try.func3, Try.ntmps3
  go_wp2_with (fail)
  refine (chosen3_any _).mono ?_
  rintro e1 w1 ⟨rfl, hF1⟩
  go_wp2_with (fail)
  refine (engNew_any costs ac0 cc0 w1 (HC.out.fr0 hF1 (fun _ _ h => h)) (by omega) rfl).mono ?_
  intro e2 w2 R2
  cases hne : nearE costs with
  | some q =>
    obtain ⟨rfl, hF2⟩ := R2.errE hne
    have hF02 := hF1.trans hF2
    clear R2 hne
    go_wp2
    go_ret
    exact RetV.mk rfl rfl hF02
  | none =>
    obtain ⟨be, bn, ac, cc, rfl, hE2, hF2⟩ := R2.okE hne
    have hF02 := hF1.trans hF2
    have hs1 := hF1.size
    have hU0 : Hid (∀ k, (w1.heap.size ≤ k ∧ k < w2.heap.size) → w.heap.size ≤ k) := Lib.hid (fun k hk => by omega)
    clear R2 hne hF2 hF1 hs1
    go_wp2
    go_loopw [10] (fun s10 wr => ∃ (k : Nat) (all : List Hea) (E : List Ent) (U : Nat → Prop), k ≤ l.length ∧ s10 = .int .i64 k ∧ Eng U wr be bn costs all E ac cc ∧ E.length ≤ 64 ∧ Hid (∀ k, U k → w.heap.size ≤ k) ∧ Fr (fun _ => False) w wr ∧ all.length ≤ k) (fun s _ => l.length - (intOf s).toNat)
    case atStart => exact ⟨0, [], [], _, by omega, rfl, hE2, Nat.zero_le _, hU0, hF02, Nat.le_refl _⟩
    case round =>
      clear hE2 hF02 hU0
      obtain ⟨k, all, E, U, hk, rfl, hE, h64, hU, hF, hak⟩ := hrel
      by_cases hkl : k < l.length
      · obtain ⟨g, o, rfl, hgl, hc⟩ := Recs.pos HL.out Hea.cells_len (by omega) (by omega)
        have dd := fun (j : Nat) (hj : j < 4) => (hF.cell (p := ⟨g, o + (k * 4 + j), none⟩) hgl (fun h => h)).trans (hc w rfl k j hkl hj)
        have d0 := dd 0 (by omega)
        have d1 := dd 1 (by omega)
        have d2 := dd 2 (by omega)
        have d3 := dd 3 (by omega)
        have hx := HW.out _ (nth_mem l k hkl)
        generalize nth l k = x at *
        obtain ⟨xf, xa, xn, xm⟩ := x
        simp only [Hea.cells, List.getElem?_cons_zero, List.getElem?_cons_succ, ← Nat.add_assoc, Nat.add_zero] at d0 d1 d2 d3
        clear dd hc
        go_wp2_with (fail)
        refine (set_any ⟨xf, xa, xn, xm⟩ wr hE hx.2.1 hx.1 (by omega) h64).mono ?_
        intro e3 w3 R3
        cases hs : setE costs E ⟨xf, xa, xn, xm⟩ with
        | some q =>
          obtain ⟨rfl, hF3⟩ := R3.errE hs
          have hE3 := hE.fr0 hF3
          have hF03 := hF.trans hF3
          clear R3 hs hE hF hF3 d0 d1 d2 d3
          go_wp2
          go_roundw
          case rel => exact ⟨k + 1, all, E, U, by omega, by go_num, hE3, h64, hU, hF03, by omega⟩
          case measure => simp [intOf]; omega
        | none =>
          obtain ⟨rfl, hF3, E', hE3, hkeys, -⟩ := R3.okE hs
          have h64' := setE_len hs hkeys h64
          have hF03 : Fr (fun _ => False) w w3 := hF.trans' hF3 (fun i hi h => by have := hU.out i h; omega)
          have hws := hF.size
          have hU' : Hid (∀ k, usesN U wr w3 k → w.heap.size ≤ k) := Lib.hid (fun k hk => by
            rcases hk with h | h
            · exact hU.out k h
            · omega)
          clear R3 hs hkeys hE hF hF3 d0 d1 d2 d3
          go_wp2
          go_roundw
          case rel => exact ⟨k + 1, all ++ [⟨xf, xa, xn, xm⟩], E', _, by omega, by go_num, hE3, h64', hU', hF03, by simp; omega⟩
          case measure => simp [intOf]; omega
      · obtain rfl : k = l.length := by omega
        -- told once
        go_wp2_with (fail)
        refine (dirty_any wr hE h64).mono ?_
        rintro e3 w3 ⟨L1, a1, c1, ob1, E1, rfl, -, -, -, hF3, -, -, hE3, hK3, hS3⟩
        have h64' : E1.length ≤ 64 := by have := congrArg List.length hK3; simp at this; omega
        have hF03 : Fr (fun _ => False) w w3 := hF.trans' hF3 (fun i hi h => by have := hU.out i h; omega)
        have HS3 := Lib.hid hS3
        clear hE h64 hF hF3 hK3 hS3
        -- told again: nothing
        go_wp2_with (fail)
        refine (dirty_any w3 hE3 h64').mono ?_
        rintro e4 w4 ⟨L2, a2, c2, ob2, E2, rfl, -, hm2, -, hF4, -, -, hE4, hK4, hS4⟩
        have hL2 : L2 = [] := by
          cases hc2 : L2 with
          | nil => rfl
          | cons y _ =>
            exfalso
            obtain ⟨x, hx, he, hd⟩ := (hm2 y).1 (by rw [hc2]; simp)
            have h1 := of_decide_eq_true hd
            rw [← shownE_at hE3.ap hx, HS3.out] at h1
            exact h1 rfl
        have h64'' : E2.length ≤ 64 := by have := congrArg List.length hK4; simp at this; omega
        have hF04 : Fr (fun _ => False) w w4 := hF03.trans' hF4 (fun i hi h => by have := hU.out i h; omega)
        have HS4 := Lib.hid hS4
        subst hL2
        clear hE3 h64' hF03 hF4 hK4 hS4 hm2 HS3
        go_wp2
        go_loopw [12, 11] (fun s12 s11 wr => ∃ (j : Nat) (R : List BestR) (aR : Option Addr) (cR : Nat) (obR : Option Nat), j ≤ more.length ∧ s12 = .int .i64 j ∧ s11 = .slice aR R.length cR ∧ Eng U wr be bn costs all E2 ac cc ∧ Was w.heap.size U wr.heap all costs more j aR cR R obR ∧ Fr (fun _ => False) w wr) (fun s _ _ => more.length - (intOf s).toNat)
        case atStart => exact ⟨0, [], none, 0, none, by omega, rfl, rfl, hE4, ⟨Own.nil _ _ _, (fun _ h => nomatch h), (fun _ h => nomatch h), (fun _ h => nomatch h), (fun _ h => nomatch h), (fun _ h => nomatch h), (fun j hj => absurd hj (Nat.not_lt_zero _)), Nat.le_refl _⟩, hF04⟩
        case round =>
          clear hE4 hF04
          obtain ⟨j, R, aR, cR, obR, hj, rfl, rfl, hE, hWas, hF⟩ := hrel
          by_cases hjl : j < more.length
          · obtain ⟨g, o, rfl, hgl, hc⟩ := Recs.pos HMo.out Hea.cells_len (by omega) (by omega)
            have dd := fun (i : Nat) (hi : i < 4) => (hF.cell (p := ⟨g, o + (j * 4 + i), none⟩) hgl (fun h => h)).trans (hc w rfl j i hjl hi)
            have d1 := dd 1 (by omega)
            have d2 := dd 2 (by omega)
            have hx := HMW.out _ (nth_mem more j hjl)
            obtain ⟨x, hxe⟩ : ∃ x, x = nth more j := ⟨_, rfl⟩
            rw [← hxe] at d1 d2 hx
            have HXE := Lib.hid hxe
            obtain ⟨xf, xa, xn, xm⟩ := x
            simp only [Hea.cells, List.getElem?_cons_zero, List.getElem?_cons_succ, ← Nat.add_assoc, Nat.add_zero] at d1 d2
            have hb4 := hE.best4 xa xn
            obtain ⟨M, hMe⟩ : ∃ M, M = bestM all costs xa xn := ⟨_, rfl⟩
            have hget := get_any xa xn wr hE hx.2.1
            rw [← hMe] at hb4 hget
            have HME := Lib.hid hMe
            obtain ⟨sm, sh⟩ := M
            have hRl := hWas.len
            clear dd hc hxe hMe
            go_wp2_with (fail)
            refine hget.mono ?_
            intro e5 w5 R5
            cases hne : netErr xa xn with
            | some q =>
              obtain ⟨rfl, hF5⟩ := R5.errE hne
              have hF6 := hF5.alloc (.cells #[.int .u32 0, .int .i64 0, .int .i64 0, .slice none 0 0] 40)
              have hE6 := hE.fr0 hF6
              have hW6 := hWas.fr hF6 (fun _ h => h.elim)
              have hW7 : Was w.heap.size U (w5.alloc (.cells #[.int .u32 0, .int .i64 0, .int .i64 0, .slice none 0 0] 40)).heap all costs more (j + 1) aR cR R obR :=
                ⟨hW6.own, hW6.ap, hW6.wf, hW6.is, hW6.row, hW6.rowU, (fun i hi hn => by
                  rcases Nat.lt_succ_iff_lt_or_eq.1 hi with h | h
                  · exact hW6.cmp i h hn
                  · subst h; rw [← HXE.out] at hn; simp only at hn; rw [hne] at hn; cases hn), Nat.le_succ_of_le hW6.len⟩
              have hF06 := hF.trans hF6
              clear R5 hget hne hE hWas hF hF5 hF6 hW6 d1 d2
              go_wp2
              go_roundw
              case rel => exact ⟨j + 1, R, aR, cR, obR, by omega, by go_num, rfl, hE6, hW7, hF06⟩
              case measure => simp [intOf]; omega
            | none =>
              obtain ⟨a5, c5, ob5, he5, hO5, hF5, hN5⟩ := R5.okE hne
              simp only at he5 hO5
              subst he5
              have HNE := Lib.hid hne
              have hsx := hF.size
              have hF7 := (hF5.alloc (.cells #[.int .u32 xa, .int .i64 xn, .int .i64 sm, .slice a5 sh.length c5] 40)).alloc (.cells #[.int .u32 xa, .int .i64 xn, .int .i64 sm, .slice a5 sh.length c5] 40)
              have hE7 := hE.fr0 hF7
              have hW7 := hWas.fr hF7 (fun _ h => h.elim)
              have hF07 := hF.trans hF7
              have hB6 := Blk.made w5 40 [.int .u32 xa, .int .i64 xn, .int .i64 sm, .slice a5 sh.length c5]
              have b0 := hB6.cell 0
              have b1 := hB6.cell 1
              have b2 := hB6.cell 2
              have b3 := hB6.cell 3
              have lb := hB6.lt
              simp only [List.getElem?_cons_succ, List.getElem?_cons_zero] at b0 b1 b2 b3
              have hrd := rd_lit1 w5 (.cells #[.int .u32 xa, .int .i64 xn, .int .i64 sm, .slice a5 sh.length c5] 40) 40 [.int .u32 xa, .int .i64 xn, .int .i64 sm, .slice a5 sh.length c5]
              have hI7 := ((hO5.alloc (.cells #[.int .u32 xa, .int .i64 xn, .int .i64 sm, .slice a5 sh.length c5] 40)).alloc (.cells #[.int .u32 xa, .int .i64 xn, .int .i64 sm, .slice a5 sh.length c5] 40))
              have hOW := hW7.own
              have HW7 := Lib.hid hW7
              have hEl := hE.lt
              have HEL := Lib.hid hEl
              have HNB := Lib.hid (show ∀ b off, a5 = some ⟨b, off, none⟩ → wr.heap.size ≤ b ∧ b < w5.heap.size from fun b off e => by
                rcases hO5.is with ⟨q, _⟩ | ⟨g, _, q, q2, _⟩
                · rw [q] at e; cases e
                · rw [q] at e; cases e
                  exact ⟨hN5 _ q2, hO5.lt _ q2⟩)
              have HOL := Lib.hid (hWas.own.lt)
              clear R5 hget hne hE hWas hF hF5 hB6 hW7 hEl hO5 hN5 d1 d2
              go_wp2_with (at_builtin; refine wpList_app_wide rfl _ _ 38 rfl Try.underlying38 infoBst rfl (by decide) rfl rfl hOW hrd (by simp [Value.oneCell']) (by omega) (by omega) ?_)
              intro a8 c8 w8 ob8 v1 v2 v3
              have hs7 := hF7.size
              have hsz7 : ((w5.alloc (.cells #[.int .u32 xa, .int .i64 xn, .int .i64 sm, .slice a5 sh.length c5] 40)).alloc (.cells #[.int .u32 xa, .int .i64 xn, .int .i64 sm, .slice a5 sh.length c5] 40)).heap.size = w5.heap.size + 2 := by simp
              have hE8 := hE7.fr v2 (fun k hk e => (HW7.out.ap k e).1 hk)
              have hF08 : Fr (fun _ => False) w w8 := hF07.trans' v2 (fun i hi e => by have := (HW7.out.ap i e).2; omega)
              have hW8 : Was w.heap.size U w8.heap all costs more (j + 1) a8 c8 (R ++ [⟨xa, xn, sm, sh, a5, c5⟩]) ob8 := by
                have hold := HW7.out
                refine ⟨?_, fun g hg => ?_, fun x hx' => ?_, fun x hx' => ?_, fun x hx' => ?_, fun x hx' b off e => ?_, fun i hi hn => ?_, ?_⟩
                · rw [List.length_append, List.flatMap_append]; exact v1
                · rcases v3 with v3 | ⟨g', v3, v4⟩
                  · rw [v3] at hg; exact hold.ap g hg
                  · rw [v3] at hg; cases hg
                    exact ⟨fun h => by have := HEL.out g h; omega, by omega⟩
                · rcases List.mem_append.1 hx' with h | h
                  · exact hold.wf x h
                  · rw [List.mem_singleton.1 h]; exact ⟨hx.2.1, HNE.out⟩
                · rcases List.mem_append.1 hx' with h | h
                  · exact hold.is x h
                  · rw [List.mem_singleton.1 h]; exact HME.out
                · rcases List.mem_append.1 hx' with h | h
                  · exact (hold.row x h).fr v2 (fun b off e s => (hold.rowU x h b off e).2.2.1 s)
                  · rw [List.mem_singleton.1 h]
                    exact hI7.rd.fr v2 (fun b off e s => by have h1 := HNB.out b off e; have h2 := HOL.out b s; omega)
                · have hsz8 := v2.size
                  rcases List.mem_append.1 hx' with h | h
                  · obtain ⟨q1, q2, q3, q4⟩ := hold.rowU x h b off e
                    refine ⟨q1, q2, fun e2 => ?_, by omega⟩
                    rcases v3 with v3 | ⟨g', v3, v4⟩
                    · rw [v3] at e2; exact q3 e2
                    · rw [v3] at e2; cases e2; omega
                  · rw [List.mem_singleton.1 h] at e
                    have h1 := HNB.out b off e
                    refine ⟨fun u => by have := HEL.out b u; omega, by omega, fun e2 => ?_, by omega⟩
                    rcases v3 with v3 | ⟨g', v3, v4⟩
                    · rw [v3] at e2; have h2 := HOL.out b e2; omega
                    · rw [v3] at e2; cases e2; omega
                · rcases Nat.lt_succ_iff_lt_or_eq.1 hi with h | h
                  · obtain ⟨x, hx1, hx2⟩ := hold.cmp i h hn
                    exact ⟨x, List.mem_append_left _ hx1, hx2⟩
                  · subst h
                    rw [← HXE.out]
                    exact ⟨⟨xa, xn, sm, sh, a5, c5⟩, List.mem_append_right _ (by simp), rfl, rfl⟩
                · rw [List.length_append]; simp; omega
              clear v1 v2 v3 hE7 hF7 hF07 hrd hI7 hOW b0 b1 b2 b3
              go_wp2
              go_roundw
              case rel => exact ⟨j + 1, R ++ [⟨xa, xn, sm, sh, a5, c5⟩], a8, c8, ob8, by omega, by go_num, by simp, hE8, hW8, hF08⟩
              case measure => simp [intOf]; omega
          · obtain rfl : j = more.length := by omega
            have hWl := hWas.len
            go_wp2
            go_loopw [15] (fun s15 wr => ∃ (i : Nat) (acc : List Hea) (E3 : List Ent) (V : Nat → Prop), i ≤ more.length ∧ s15 = .int .i64 i ∧ Eng V wr be bn costs (all ++ acc) E3 ac cc ∧ E3.length ≤ 64 ∧ Hid (∀ k, V k → w.heap.size ≤ k) ∧ Fr (fun _ => False) w wr ∧ acc.length ≤ i ∧ Was w.heap.size V wr.heap all costs more more.length aR cR R obR ∧ Hid ((∀ q, shownE E3 q = bestM all costs q.a q.n) ∧ ∀ x ∈ acc, ∃ j, j < more.length ∧ x = nth more j)) (fun s _ => more.length - (intOf s).toNat)
            case atStart => exact ⟨0, [], E2, U, by omega, rfl, by rw [List.append_nil]; exact hE, h64'', hU, hF, Nat.le_refl _, hWas, Lib.hid ⟨HS4.out, fun _ h => nomatch h⟩⟩
            case round =>
              clear hE h64'' hU hF hWas HS4
              obtain ⟨i, acc, E3, V, hi, rfl, hE, h64, hV, hF, hai, hWas, hG⟩ := hrel
              by_cases hil : i < more.length
              · obtain ⟨g, o, rfl, hgl, hc⟩ := Recs.pos HMo.out Hea.cells_len (by omega) (by omega)
                have dd := fun (j : Nat) (hj : j < 4) => (hF.cell (p := ⟨g, o + (i * 4 + j), none⟩) hgl (fun h => h)).trans (hc w rfl i j hil hj)
                have d0 := dd 0 (by omega)
                have d1 := dd 1 (by omega)
                have d2 := dd 2 (by omega)
                have d3 := dd 3 (by omega)
                have hx := HMW.out _ (nth_mem more i hil)
                obtain ⟨x, hxe⟩ : ∃ x, x = nth more i := ⟨_, rfl⟩
                rw [← hxe] at d0 d1 d2 d3 hx
                have HXE := Lib.hid hxe
                obtain ⟨xf, xa, xn, xm⟩ := x
                simp only [Hea.cells, List.getElem?_cons_zero, List.getElem?_cons_succ, ← Nat.add_assoc, Nat.add_zero] at d0 d1 d2 d3
                clear dd hc hxe
                go_wp2_with (fail)
                refine (set_any ⟨xf, xa, xn, xm⟩ wr hE hx.2.1 hx.1 (by rw [List.length_append]; omega) h64).mono ?_
                intro e3 w3 R3
                cases hs : setE costs E3 ⟨xf, xa, xn, xm⟩ with
                | some q =>
                  obtain ⟨rfl, hF3⟩ := R3.errE hs
                  have hE3 := hE.fr0 hF3
                  have hF03 := hF.trans hF3
                  have hW3 := hWas.fr hF3 (fun _ h => h.elim)
                  clear R3 hs hE hF hF3 hWas d0 d1 d2 d3
                  go_wp2
                  go_roundw
                  case rel => exact ⟨i + 1, acc, E3, V, by omega, by go_num, hE3, h64, hV, hF03, by omega, hW3, hG⟩
                  case measure => simp [intOf]; omega
                | none =>
                  obtain ⟨rfl, hF3, E', hE3, hkeys, hsh⟩ := R3.okE hs
                  have h64' := setE_len hs hkeys h64
                  have hF03 : Fr (fun _ => False) w w3 := hF.trans' hF3 (fun i hi h => by have := hV.out i h; omega)
                  have hws := hF.size
                  have hU' : Hid (∀ k, usesN V wr w3 k → w.heap.size ≤ k) := Lib.hid (fun k hk => by
                    rcases hk with h | h
                    · exact hV.out k h
                    · omega)
                  have hW3 := (hWas.uses (V := usesN V wr w3) (fun g hg hv => by
                    rcases hv with h | h
                    · exact h
                    · omega)).fr hF3 (fun g hg => .inl hg)
                  rw [List.append_assoc] at hE3
                  have hG' := Lib.hid (show (∀ q, shownE E' q = bestM all costs q.a q.n) ∧ ∀ x ∈ acc ++ [⟨xf, xa, xn, xm⟩], ∃ j, j < more.length ∧ x = nth more j from ⟨fun q => (hsh q).trans (hG.out.1 q), fun x hx' => by
                    rcases List.mem_append.1 hx' with h | h
                    · exact hG.out.2 x h
                    · rw [List.mem_singleton.1 h]; exact ⟨i, hil, HXE.out⟩⟩)
                  clear R3 hs hkeys hE hF hF3 hWas hG hsh d0 d1 d2 d3
                  go_wp2
                  go_roundw
                  case rel => exact ⟨i + 1, acc ++ [⟨xf, xa, xn, xm⟩], E', _, by omega, by go_num, hE3, h64', hU', hF03, by simp; omega, hW3, hG'⟩
                  case measure => simp [intOf]; omega
              · obtain rfl : i = more.length := by omega
                go_wp2_with (fail)
                refine (dirty_any wr hE h64).mono ?_
                rintro e4 w4 ⟨L, aL, cL, obL, E4, rfl, hs4, hm4, hO4, hF4, hN4, hl4, hE4, hK4, hS4⟩
                have hni := news_iff hE hG.out.1 hm4
                have HNI := Lib.hid hni
                have hF04 : Fr (fun _ => False) w w4 := hF.trans' hF4 (fun i hi h => by have := hV.out i h; omega)
                have hW4 := hWas.fr hF4 (fun g hg => hg)
                have hLlen : L.length ≤ R.length := by
                  have h1 : L.length ≤ (R.map fun x => (⟨x.a, x.n⟩ : Nt)).length := nodup_len_le (nsorted_nodup hs4) (fun q hq => by
                    have hne := (hni q).1 hq
                    by_cases hacc : ∃ x ∈ acc, x.a = q.a ∧ x.n = q.n
                    · obtain ⟨x, hx, e1, e2⟩ := hacc
                      obtain ⟨j, hj, e⟩ := hG.out.2 x hx
                      have hok := hE.ok x (List.mem_append_right _ hx)
                      obtain ⟨y, hy, e3, e4⟩ := hWas.cmp j hj (by rw [← e]; exact (heardE_ok hok).2.2.1)
                      refine List.mem_map.2 ⟨y, hy, ?_⟩
                      rw [e3, e4, ← e, e1, e2]
                    · exact absurd (bestM_app (fun x hx e => hacc ⟨x, hx, e⟩)) hne)
                  simpa using h1
                have HLL := Lib.hid hLlen
                have hLl : L.length ≤ 64 := by omega
                have hb4 := fun a n => hE4.best4 a n
                have HB4 := Lib.hid hb4
                clear hE hF hF4 hWas hni hs4 hm4 hK4 hS4 hG hb4 hLlen hN4
                have hRl := hW4.len
                go_wp2
                go_loopw [17] (fun s17 wr => ∃ (i : Nat), i ≤ R.length ∧ s17 = .int .i64 i ∧ Eng V wr be bn costs (all ++ acc) E4 ac cc ∧ Fr (fun _ => False) w wr ∧ Was w.heap.size V wr.heap all costs more more.length aR cR R obR ∧ Own wr.heap 33 2 aL L.length cL (L.flatMap Nt.cells) obL) (fun s _ => R.length - (intOf s).toNat)
                case atStart => exact ⟨0, by omega, rfl, hE4, hF04, hW4, hO4⟩
                case round =>
                  clear hE4 hF04 hW4 hO4
                  obtain ⟨i, hi, rfl, hE, hF, hWas, hO⟩ := hrel
                  by_cases hil : i < R.length
                  · obtain ⟨g, o, rfl, hgl, hc⟩ := Recs.pos hWas.own.rd BestR.cells_len (by omega) (by omega)
                    have hmem := nth_mem R i hil
                    have hc' : ∀ (W : World) (f : Fr (fun _ => False) wr W) (j : Nat) (hj : j < 4), W.cell? ⟨g, o + (i * 4 + j), none⟩ = (BestR.cells (nth R i))[j]? := fun W f j hj => (f.cell (p := ⟨g, o + (i * 4 + j), none⟩) hgl (fun h => h)).trans (hc wr rfl i j hil hj)
                    have hwf := hWas.wf _ hmem
                    have his := hWas.is _ hmem
                    have hrow := hWas.row _ hmem
                    obtain ⟨y, hy⟩ : ∃ y, y = nth R i := ⟨_, rfl⟩
                    rw [← hy] at hwf his hrow hc'
                    obtain ⟨ya, yn, ym, yh, yA, yC⟩ := y
                    simp only [BestR.cells] at hwf his hrow hc'
                    have HCC := Lib.hid hc'
                    have d0 := HCC.out wr (Fr.refl _ _) 0 (by omega)
                    have d1 := HCC.out wr (Fr.refl _ _) 1 (by omega)
                    simp only [List.getElem?_cons_zero, List.getElem?_cons_succ, ← Nat.add_assoc, Nat.add_zero] at d0 d1
                    have hget := get_any ya yn wr hE hwf.1
                    have hl4 := HB4.out ya yn
                    obtain ⟨M, hMe⟩ : ∃ M, M = bestM (all ++ acc) costs ya yn := ⟨_, rfl⟩
                    rw [← hMe] at hget hl4
                    have HQ := Lib.hid (show (⟨ya, yn⟩ : Nt) ∈ L ↔ M ≠ (ym, yh) from by rw [HNI.out ⟨ya, yn⟩, ← hMe, his])
                    have hyl : yh.length ≤ 9223372036854775807 := by
                      have h := hE.best4 ya yn
                      have h2 := (chK_bd (fun i => lastO all i ya yn) costs (fun i m h => lastO_bd (fun y hy => (heardE_ok (hE.ok y (List.mem_append_left _ hy))).2.2.2) h) (nearE_ok hE.near).2 costs.length (Nat.le_refl _)).2.2.1
                      have h3 := congrArg (·.2.length) his
                      simp only at h3
                      have h4 : (bestM all costs ya yn).2.length ≤ 4 := h2
                      omega
                    obtain ⟨sm, sh⟩ := M
                    clear hc hc' hy hmem his hMe
                    go_wp2_with (fail)
                    refine hget.mono ?_
                    intro e5 w5 R5
                    obtain ⟨a5, c5, ob5, he5, hO5, hF5, hN5⟩ := R5.okE hwf.2
                    simp only at he5 hO5 hl4
                    subst he5
                    have hF6 := hF5.alloc (.cells #[.int .u32 ya, .int .i64 yn, .int .i64 sm, .slice a5 sh.length c5] 40)
                    have hB6 := Blk.made w5 40 [.int .u32 ya, .int .i64 yn, .int .i64 sm, .slice a5 sh.length c5]
                    have d0' := HCC.out _ hF6 0 (by omega)
                    have d1' := HCC.out _ hF6 1 (by omega)
                    have d2' := HCC.out _ hF6 2 (by omega)
                    have d3' := HCC.out _ hF6 3 (by omega)
                    have b0 := hB6.cell 0
                    have b1 := hB6.cell 1
                    have b2 := hB6.cell 2
                    have b3 := hB6.cell 3
                    have lb := hB6.lt
                    simp only [List.getElem?_cons_succ, List.getElem?_cons_zero, ← Nat.add_assoc, Nat.add_zero] at b0 b1 b2 b3 d0' d1' d2' d3'
                    have hI6 := (hO5.alloc (.cells #[.int .u32 ya, .int .i64 yn, .int .i64 sm, .slice a5 sh.length c5] 40)).rd.fr (Fr.refl (fun _ => False) _).drew (fun _ _ _ h => h)
                    have hJ6 := (hrow.fr0 hF6 (fun _ _ h => h)).fr0 (Fr.refl (fun _ => False) _).drew (fun _ _ h => h)
                    have hFd := hF6.drew
                    clear R5 hget hF5 hN5 hO5 hB6 d0 d1 hrow
                    go_wp2
                    (refine wp_region_mix (fun _ => True) 5 (by kernel_rfl) (by kernel_rfl) (trivial) ?_; simp only [List.take_succ_cons, List.take_zero, List.drop_succ_cons, List.drop_zero])
                    (refine wpMix_earlyN 5 (by kernel_rfl) (by kernel_rfl) ?_; simp only [List.take_succ_cons, List.take_zero, List.drop_succ_cons, List.drop_zero]; (repeat (go_big_quiet_step (fail))); refine wpQuiet_nil ?_)
                    refine wpMix_nil ?_
                    go_wp2_with (fail)
                    refine (sbest_any ⟨ya, yn, sm, sh, a5, c5⟩ ⟨ya, yn, ym, yh, yA, yC⟩ _ hI6 hJ6 (by simp only; omega) (by simp only; omega)).mono ?_
                    rintro e7 w7 ⟨rfl, hF7⟩
                    have hF17 := hFd.trans hF7
                    have hE7 := hE.fr0 hF17
                    have hW7 := hWas.fr hF17 (fun _ h => h.elim)
                    have hO7 := hO.fr hF17 (fun _ _ h => h)
                    have hF07 := hF.trans hF17
                    have d0 := HCC.out _ hF17 0 (by omega)
                    have d1 := HCC.out _ hF17 1 (by omega)
                    simp only [List.getElem?_cons_succ, List.getElem?_cons_zero, ← Nat.add_assoc, Nat.add_zero] at d0 d1
                    have hbe : bEq ⟨ya, yn, sm, sh, a5, c5⟩ ⟨ya, yn, ym, yh, yA, yC⟩ = decide ((sm, sh) = (ym, yh)) := by
                      unfold bEq
                      simp only [Prod.mk.injEq, true_and]
                      by_cases h1 : sh = yh <;> by_cases h2 : sm = ym <;> simp [h1, h2]
                    rw [hbe]
                    clear hE hWas hO hF hF6 hFd hF7 hF17 hI6 hJ6 d0' d1' d2' d3' b0 b1 b2 b3 lb hbe
                    by_cases hsame : (sm, sh) = (ym, yh)
                    · rw [decide_eq_true hsame]
                      have HN := Lib.hid (show (⟨ya, yn⟩ : Nt) ∉ L from fun h => HQ.out.1 h hsame)
                      clear hsame
                      go_wp2_with (fail)
                      refine (places_any L ⟨ya, yn⟩ aL cL w7 hO7.rd (by omega) rfl).mono ?_
                      rintro e8 w8 ⟨p, rfl, hF8, hp, -, -⟩
                      have hp8 : p < 0 := hp.2 HN.out
                      have hE8 := hE7.fr0 hF8
                      have hW8 := hW7.fr hF8 (fun _ h => h.elim)
                      have hO8 := hO7.fr hF8 (fun _ _ h => h)
                      have hF08 := hF07.trans hF8
                      clear hp hE7 hW7 hO7 hF07 hF8 d0 d1
                      go_wp2
                      go_roundw
                      case rel => exact ⟨i + 1, by omega, by go_num, hE8, hF08, hW8, hO8⟩
                      case measure => simp [intOf]; omega
                    · rw [decide_eq_false hsame]
                      have HN := Lib.hid (show (⟨ya, yn⟩ : Nt) ∈ L from HQ.out.2 hsame)
                      clear hsame
                      go_wp2_with (fail)
                      refine (places_any L ⟨ya, yn⟩ aL cL w7 hO7.rd (by omega) rfl).mono ?_
                      rintro e8 w8 ⟨p, rfl, hF8, hp, -, -⟩
                      have hp8 : ¬ p < 0 := fun h => hp.1 h HN.out
                      have hE8 := hE7.fr0 hF8
                      have hW8 := hW7.fr hF8 (fun _ h => h.elim)
                      have hO8 := hO7.fr hF8 (fun _ _ h => h)
                      have hF08 := hF07.trans hF8
                      clear hp hE7 hW7 hO7 hF07 hF8 d0 d1
                      go_wp2
                      go_roundw
                      case rel => exact ⟨i + 1, by omega, by go_num, hE8, hF08, hW8, hO8⟩
                      case measure => simp [intOf]; omega
                  · obtain rfl : i = R.length := by omega
                    have hle : decide (L.length ≤ R.length) = true := decide_eq_true HLL.out
                    go_wp2
                    go_ret
                    exact RetV.mk (by first | rfl | (rw [hle])) rfl hF
end Go.Proofs.Ytfjempfffdeklaa
