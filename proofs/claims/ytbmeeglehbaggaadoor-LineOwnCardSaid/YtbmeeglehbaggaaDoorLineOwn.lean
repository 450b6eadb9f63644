import Derived.Test.YtbmeeglehbaggaaDoorLineRow
import Derived.Test.YtbmeeglehbaggaaDoorIntsOwn
import Derived.Test.YtbmeeglehbaggaaDoorSame
namespace Go.Proofs.YtbmeeglehbaggaaDoor
open Go.RowKit

/-- Two lines that know the same, and share no block. -/
structure TwoL (w0 w : World) (b1 b2 n : Nat) (l : List Lk) (p q : Bool) (R S : Nat → Nat → Th) (T1 T2 : Nat → Prop) : Prop where
  s : LineAt w b1 n l p R T1
  t : LineAt w b2 n l q S T2
  dis : ∀ k, T1 k → ¬ T2 k
  n1 : ∀ k, T1 k → w0.heap.size ≤ k
  n2 : ∀ k, T2 k → w0.heap.size ≤ k
  fr : Fr (fun _ => False) w0 w
namespace TwoL
variable {w0 w w' : World} {b1 b2 n : Nat} {l : List Lk} {p q : Bool} {R S R' : Nat → Nat → Th} {T1 T2 : Nat → Prop}
theorem fr0 (h : TwoL w0 w b1 b2 n l p q R S T1 T2) (f : Fr (fun _ => False) w w') : TwoL w0 w' b1 b2 n l p q R S T1 T2 := ⟨h.s.fr0 f, h.t.fr0 f, h.dis, h.n1, h.n2, h.fr.trans f⟩
theorem frN {X : Nat → Prop} (h : TwoL w0 w b1 b2 n l p q R S T1 T2) (f : Fr X w w') (hx : ∀ k, k < w.heap.size → ¬ X k) : TwoL w0 w' b1 b2 n l p q R S T1 T2 :=
  ⟨h.s.fr f (fun k hk => hx k (h.s.lt k hk)), h.t.fr f (fun k hk => hx k (h.t.lt k hk)), h.dis, h.n1, h.n2, h.fr.trans' f (fun i hi hh => absurd hh (hx i (Nat.lt_of_lt_of_le hi h.fr.size)))⟩
theorem frB {X : Nat → Prop} {B : Nat} (h : TwoL w0 w b1 b2 n l p q R S T1 T2) (_hB : B ≤ w.heap.size) (h1 : ∀ k, T1 k → k < B) (h2 : ∀ k, T2 k → k < B) (h0 : w0.heap.size ≤ B) (f : Fr X w w') (hx : ∀ k, X k → B ≤ k) : TwoL w0 w' b1 b2 n l p q R S T1 T2 :=
  ⟨h.s.fr f (fun k hk hh => by have := h1 k hk; have := hx k hh; omega), h.t.fr f (fun k hk hh => by have := h2 k hk; have := hx k hh; omega), h.dis, h.n1, h.n2, h.fr.trans' f (fun i hi hh => by have := hx i hh; omega)⟩
theorem stepS {e : Ending} (h : TwoL w0 w b1 b2 n l p q R S T1 T2) (hp : StepPost w b1 n l p R' T1 e w') : e = .returned (.tuple #[]) ∧ ∃ T1', TwoL w0 w' b1 b2 n l p q R' S T1' T2 := by
  obtain ⟨he, T', h1, h2, h3⟩ := hp
  refine ⟨he, T', h1, h.t.fr h3 (fun k hk e => h.dis k (by rw [e]; exact h.s.tb) hk), fun k hk hk2 => ?_, fun k hk => ?_, h.n2, h.fr.trans' h3 (fun i hi e => by have := h.n1 b1 h.s.tb; have e : i = b1 := e; omega)⟩
  · rcases h2 k hk with q | q
    · exact h.dis k q hk2
    · have := h.t.lt k hk2; omega
  · rcases h2 k hk with q | q
    · exact h.n1 k q
    · have := h.fr.size; omega
theorem stepT {e : Ending} {S' : Nat → Nat → Th} (h : TwoL w0 w b1 b2 n l p q R S T1 T2) (hp : StepPost w b2 n l q S' T2 e w') : e = .returned (.tuple #[]) ∧ ∃ T2', TwoL w0 w' b1 b2 n l p q R S' T1 T2' := by
  obtain ⟨he, T', h1, h2, h3⟩ := hp
  refine ⟨he, T', h.s.fr h3 (fun k hk e => h.dis k hk (by rw [e]; exact h.t.tb)), h1, fun k hk hk2 => ?_, h.n1, fun k hk => ?_, h.fr.trans' h3 (fun i hi e => by have := h.n2 b2 h.t.tb; have e : i = b2 := e; omega)⟩
  · rcases h2 k hk2 with q | q
    · exact h.dis k hk q
    · have := h.s.lt k hk; omega
  · rcases h2 k hk with q | q
    · exact h.n2 k q
    · have := h.fr.size; omega
end TwoL
theorem lk_setc (L : List Lk) (i : Nat) (x : Int) (h : i < L.length) : (L.flatMap Lk.cells).set (i * 3 + 2) (.int .i64 x) = (L.set i ⟨(nth L i).a, (nth L i).b, x⟩).flatMap Lk.cells := by
  induction L generalizing i with
  | nil => simp at h
  | cons y L ih =>
    cases i with
    | zero => rfl
    | succ i =>
      have := ih i (by simpa using h)
      rw [nth_cons_succ, List.set_cons_succ, List.flatMap_cons, List.flatMap_cons, ← this]
      rw [show (i + 1) * 3 + 2 = i * 3 + 2 + 1 + 1 + 1 by omega]
      rfl
theorem graph1 : graphErr 1 [] = none := by rfl

set_option maxRecDepth 100000 in
set_option maxHeartbeats 16000000 in
theorem lineOwn_any (n : Int) (l : List Lk) (al : Option Addr) (c : Nat) (x : Int) (w : World) (hNb : Nb w) (hL : Links w.heap al l) (hl : l.length * 24 ≤ 140737488351232) (hw : ∀ x ∈ l, (Lit.int .i64 x.a).wf = true ∧ (Lit.int .i64 x.b).wf = true ∧ (Lit.int .i64 x.c).wf = true) (hnil : al = none → l = []) :
    Calls Tryd.prog 3 #[.int .i64 n, .slice al l.length c, .int .i64 x] w (RetV w (.bool true)) := by
  have HNB := Lib.hid hNb
  have HW := Lib.hid hw
  have HL := Lib.hid hL
  have HNIL := Lib.hid hnil
  clear hnil hw hNb
  go_enter Tryd.func3, Tryd.ntmps3
  go_wp2_with (at_builtin; refine wpList_app rfl _ _ 22 rfl Tryd.underlying22 infoLk rfl (by decide) rfl rfl (Own.made w 29 3 0 [] rfl (by decide)) (hL.fr (S := fun _ => False) ((Fr.refl _ _).alloc _) (fun _ _ _ h => h)) (lk_one l) (by omega) (by omega) ?_)
  intro a1 c1 w1 ob1 hO1 hF1 hN1
  have hF01 : Fr (fun _ => False) w w1 := ((Fr.refl _ _).alloc _).trans' hF1 (fun i hi h => by omega)
  have hN01 : ∀ g, ob1 = some g → w.heap.size ≤ g := fun g hg => by
    rcases hN1 with h | ⟨g', h, h'⟩
    · rw [h] at hg; cases hg; exact Nat.le_refl _
    · rw [h] at hg; cases hg; omega
  have hLo : Links w1.heap a1 l := hO1.rd
  have hn1 : a1 = none → l = [] := fun h => by
    rcases Nat.eq_zero_or_pos l.length with h0 | h0
    · exact List.length_eq_zero_iff.1 h0
    · obtain ⟨g, h1, -⟩ := hO1.pos (by omega)
      rw [h] at h1
      cases h1
  have hc2 := lineNew_any n l a1 c1 true w1 (HNB.out.fr hF01 (fun h => h)) hLo hl hn1 HW.out
  clear hN1 hF1 hn1 hLo hL
  go_wp2_with (fail)
  refine hc2.mono ?_
  intro e2 w2 R2
  have hgo : ∀ (W : World), Nb W → Calls Tryd.prog 8 #[.int .i64 1, .slice none 0 0, .bool true] W (RetLine W 1 [] true none) := fun W hW => by
    have := lineNew_any 1 [] none 0 true W hW (Rd.nil _ _ _) (by simp) (fun _ => rfl) (fun _ h => nomatch h)
    rwa [graph1] at this
  cases hg : graphErr n l with
  | some k =>
    obtain ⟨rfl, hF2⟩ := R2.errE hg
    have hF02 := hF01.trans hF2
    have hc3 := lineNew_any n l al c true w2 (HNB.out.fr hF02 (fun h => h)) (HL.out.fr hF02 (fun _ _ _ h => h)) hl HNIL.out HW.out
    have HG := Lib.hid hg
    clear hc2 R2 hF2 hF01 hO1 hN01 hg
    go_wp2_with (fail)
    refine hc3.mono ?_
    intro e3 w3 R3
    obtain ⟨rfl, hF3⟩ := R3.errE HG.out
    have hF03 := hF02.trans hF3
    have hc4 := hgo w3 (HNB.out.fr hF03 (fun h => h))
    clear hc3 R3 hF3 hF02 hgo
    go_wp2_with (fail)
    refine hc4.mono ?_
    intro e4 w4 R4
    obtain ⟨b4, T4, rfl, -, hF4, -⟩ := R4.okE rfl
    have hF04 := hF03.trans hF4
    clear hc4 R4 hF4 hF03
    go_wp2
    go_quiet (fail)
    have hF05 := hF04.drewN nq
    clear hF04
    go_wp2
    go_ret
    exact RetV.mk rfl rfl hF05
  | none =>
    obtain ⟨b2, T2, rfl, hA2, hF2, hT2⟩ := R2.okE hg
    have hN18 := hA2.n8
    obtain ⟨N, rfl⟩ : ∃ N : Nat, n = N := ⟨n.toNat, by omega⟩
    rw [Int.toNat_natCast] at hA2 hN18
    have hF02 := hF01.trans hF2
    have hc3 := lineNew_any N l al c true w2 (HNB.out.fr hF02 (fun h => h)) (HL.out.fr hF02 (fun _ _ _ h => h)) hl HNIL.out HW.out
    have hO2 := hO1.fr hF2 (fun _ _ h => h)
    have HG := Lib.hid hg
    have hs1 := hF01.size
    have hob1 := hO1.lt
    clear hc2 R2 hF01 hO1 hg
    go_wp2_with (fail)
    refine hc3.mono ?_
    intro e3 w3 R3
    obtain ⟨b3, T3, rfl, hA3, hF3, hT3⟩ := R3.okE HG.out
    rw [Int.toNat_natCast] at hA3
    have hF03 := hF02.trans hF3
    have hO3 := hO2.fr hF3 (fun _ _ h => h)
    have hL2 := hA2.lt
    have hs2 := hF2.size
    have hTW : TwoL w w3 b2 b3 N l true true startT startT T2 T3 := ⟨hA2.fr0 hF3, hA3, fun k h1 h2 => by have := hL2 k h1; have := hT3 k h2; omega, fun k hk => by have := hT2 k hk; omega, fun k hk => by have := hT3 k hk; omega, hF03⟩
    have hown : ∀ g, ob1 = some g → ¬ T2 g ∧ ¬ T3 g := fun g hg => ⟨fun h => by have := hT2 g h; have := hob1 g hg; omega, fun h => by have := hT3 g h; have := hob1 g hg; omega⟩
    have hc4 := hgo w3 (HNB.out.fr hF03 (fun h => h))
    clear hc3 R3 hF3 hF02 hgo hF2 hO2 hA2 hA3 hT2 hT3 hob1 hL2
    go_wp2_with (fail)
    refine hc4.mono ?_
    intro e4 w4 R4
    obtain ⟨b4, T4, rfl, -, hF4, -⟩ := R4.okE rfl
    have hO4 := hO3.fr hF4 (fun _ _ h => h)
    have hTW4 := hTW.fr0 hF4
    obtain ⟨M, hM⟩ : ∃ M, M = l.length := ⟨_, rfl⟩
    rw [← hM] at hO4 hl ⊢
    have HM := Lib.hid hM
    clear hc4 R4 hF4 hF03 hTW hO3 hM
    go_wp2
    go_quiet (fail)
    have hO5 := hO4.fr ((Fr.refl (fun _ => False) w4).drewN nq) (fun _ _ h => h)
    have hTW5 := hTW4.fr0 ((Fr.refl (fun _ => False) w4).drewN nq)
    generalize w4.drewN nq = w5 at *
    clear hO4 hTW4
    go_wp2
    go_loopw [14] (fun s14 wr => ∃ (i : Nat) (ls : List Lk), i ≤ M ∧ s14 = .int .i64 i ∧ ls.length = M ∧ Own wr.heap 29 3 a1 M c1 (ls.flatMap Lk.cells) ob1 ∧ TwoL w wr b2 b3 N l true true startT startT T2 T3) (fun s _ => M - (intOf s).toNat)
    case atStart => exact ⟨0, l, by omega, rfl, HM.out.symm, hO5, hTW5⟩
    case round =>
      clear hO5 hTW5
      obtain ⟨i, ls, hi, rfl, hls, hO, hTW⟩ := hrel
      by_cases hil : i < M
      · obtain ⟨g, rfl, hgo, hgl, hgc, hgf⟩ := hO.pos (by omega)
        have d0 := (hgc (i * 3 + 0) (by omega)).trans (flat_get Lk.cells 3 Lk.cells_len ls i 0 (by omega) (by omega))
        have d2 := (hgc (i * 3 + 2) (by omega)).trans (flat_get Lk.cells 3 Lk.cells_len ls i 2 (by omega) (by omega))
        have f2 := hgf (i * 3 + 2)
        have hset := hO.set hgo (i * 3 + 2) (.int .i64 x)
        rw [lk_setc ls i x (by omega)] at hset
        have hfr := (Fr.refl (fun k => k = g) wr).setCell (p := ⟨g, i * 3 + 2, none⟩) (fun _ => rfl) (.int .i64 x)
        have hno := hown g hgo
        have hTW6 : TwoL w (wr.setCell ⟨g, i * 3 + 2, none⟩ (.int .i64 x)) b2 b3 N l true true startT startT T2 T3 :=
          ⟨hTW.s.fr hfr (fun k hk e => hno.1 (e ▸ hk)), hTW.t.fr hfr (fun k hk e => hno.2 (e ▸ hk)), hTW.dis, hTW.n1, hTW.n2, hTW.fr.trans' hfr (fun q hq e => by have := hN01 g hgo; have e : q = g := e; omega)⟩
        have hlen : (ls.set i ⟨(nth ls i).a, (nth ls i).b, x⟩).length = M := by rw [List.length_set, hls]
        simp only [Lk.cells, List.getElem?_cons_zero, List.getElem?_cons_succ, Nat.add_zero] at d0 d2
        clear hgc hgf hO hTW hfr
        go_wp2
        go_roundw
        case rel => exact ⟨i + 1, _, by omega, by go_num, hlen, hset, hTW6⟩
        case measure => simp [intOf]; omega
      · obtain rfl : i = M := by omega
        clear hO
        go_wp2
        go_loopw [15] (fun s15 wx => ∃ (k : Nat) (R : Nat → Nat → Th) (T1 T2 : Nat → Prop), k ≤ N ∧ s15 = .int .i64 k ∧ TwoL w wx b2 b3 N l true true R R T1 T2) (fun s _ => N - (intOf s).toNat)
        case atStart => exact ⟨0, _, _, _, by omega, rfl, hTW⟩
        case round =>
          clear hTW
          obtain ⟨k, R, T5, T6, hk, rfl, hTW⟩ := hrel
          by_cases hkl : k < N
          · have hc5 := lstep_any (HNB.out.fr hTW.fr (fun h => h)) hTW.s HW.out
            have HT := Lib.hid hTW
            clear hTW
            go_wp2_with (fail)
            refine hc5.mono ?_
            intro e5 w5 P5
            obtain ⟨rfl, T7, hTW⟩ := HT.out.stepS P5
            have hc6 := lstep_any (HNB.out.fr hTW.fr (fun h => h)) hTW.t HW.out
            have HT := Lib.hid hTW
            clear hTW hc5 P5
            go_wp2_with (fail)
            refine hc6.mono ?_
            intro e6 w6 P6
            obtain ⟨rfl, T8, hTW⟩ := HT.out.stepT P6
            have hc7 := lrow_any k hTW.s hkl
            have HT := Lib.hid hTW
            clear hTW hc6 P6
            generalize stepTh (costF N l) true N R = R' at *
            go_wp2_with (fail)
            refine hc7.mono ?_
            rintro e7 w7 ⟨a7, c7, o7, rfl, hO7, hF7, hN7⟩
            have hTW7 := HT.out.fr0 hF7
            have hb1 := HT.out.s.lt
            have hb2 := HT.out.t.lt
            have hs6 := HT.out.fr.size
            have hs7 := hF7.size
            have hc8 := intsSpoil_any o7 a7 c7 _ x w7 (farL_len _ _ _) hO7
            clear hc7 hO7 hF7 HT
            go_wp2_with (fail)
            refine hc8.mono ?_
            rintro e8 w8 ⟨rfl, hF8⟩
            have hTW8 := hTW7.frB (B := w6.heap.size) hs7 hb1 hb2 hs6 hF8 (fun q hq => hN7 q hq)
            clear hc8 hF8 hTW7 hN7 hb1 hb2
            go_wp2
            go_roundw
            case rel => exact ⟨k + 1, R', T7, T8, by omega, by go_num, hTW8⟩
            case measure => simp [intOf]; omega
          · obtain rfl : k = N := by omega
            go_wp2
            go_loopw [18] (fun s18 wy => ∃ (j : Nat), j ≤ k ∧ s18 = .int .i64 j ∧ TwoL w wy b2 b3 k l true true R R T5 T6) (fun s _ => k - (intOf s).toNat)
            case atStart => exact ⟨0, by omega, rfl, hTW⟩
            case round =>
              clear hTW
              obtain ⟨j, hj, rfl, hTW⟩ := hrel
              by_cases hjl : j < k
              · have hc5 := lrow_any j hTW.s hjl
                have HT := Lib.hid hTW
                clear hTW
                go_wp2_with (fail)
                refine hc5.mono ?_
                rintro e5 w5 ⟨a5, c5, o5, rfl, hO5, hF5, -⟩
                have hTW5 := HT.out.fr0 hF5
                have hc6 := lrow_any j hTW5.t hjl
                have HT5 := Lib.hid hTW5
                clear hTW5 hc5 hF5 HT
                go_wp2_with (fail)
                refine hc6.mono ?_
                rintro e6 w6 ⟨a6, c6, o6, rfl, hO6, hF6, -⟩
                have hO56 := hO5.fr hF6 (fun _ _ h => h)
                have hTW6 := HT5.out.fr0 hF6
                have hfl := farL_len R k j
                generalize farL R k j = fl at *
                have hc7 := ints_any' fl fl a5 a6 c5 c6 w6 (by show Rd _ _ _ _ _; rw [hfl]; exact hO56.rd) (by show Rd _ _ _ _ _; rw [hfl]; exact hO6.rd) (by omega) (by omega) hfl.symm hfl.symm
                rw [decide_eq_true rfl] at hc7
                clear hc6 hO5 hO56 hO6 hF6 HT5
                go_wp2_with (fail)
                refine hc7.mono ?_
                intro e8 w8 R8
                obtain ⟨rfl, hF8⟩ := R8.v
                have hTW8 := hTW6.fr0 hF8
                clear hc7 R8 hF8 hTW6
                go_wp2
                go_roundw
                case rel => exact ⟨j + 1, by omega, by go_num, hTW8⟩
                case measure => simp [intOf]; omega
              · obtain rfl : j = k := by omega
                have hFe := hTW.fr
                go_wp2
                go_ret
                exact RetV.mk rfl rfl hFe
end Go.Proofs.YtbmeeglehbaggaaDoor
