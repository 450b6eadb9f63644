import Derived.Test.YtgfbkebbnfcgkaaQRt14
import Derived.Test.YtgfbkebbnfcgkaaInsLib
import Derived.Test.YtgfbkebbnfcgkaaQRt17
section
namespace Go.Proofs.Ytgfbkebbnfcgkaa
open Go.RowKit

theorem own_in {H : Array Obj} {E : TypeId} {sz n c B : Nat} {a : Option Addr} {xs : List Value} {ob : Option Nat} (h : Ownd H E sz a n c xs ob) (hN : ∀ g, ob = some g → B ≤ g) : ∀ b off, a = some ⟨b, off, none⟩ → B ≤ b ∧ b < H.size := fun b off e => by
  rcases h.is with ⟨q, _⟩ | ⟨g, _, q, q2, _⟩
  · rw [q] at e; cases e
  · rw [q] at e; cases e; exact ⟨hN _ q2, h.lt _ q2⟩
theorem dnewE_near {costs : List Int} {own : List Nt} {k : Int} (h : nearE costs = some k) : dnewE costs own = some k := by unfold dnewE; rw [h]
theorem dnewE_own {costs : List Int} {own : List Nt} {k : Int} (h : nearE costs = none) (h2 : ownErr [] own = some k) : dnewE costs own = some k := by unfold dnewE; rw [h]; simp only [h2]
theorem dnewE_full {costs : List Int} {own : List Nt} (h : nearE costs = none) (h2 : ownErr [] own = none) (h3 : 25 < own.length) : dnewE costs own = some 4 := by unfold dnewE; rw [h]; simp only [h2]; rw [if_pos h3]
theorem dnewE_none {costs : List Int} {own : List Nt} (h : nearE costs = none) (h2 : ownErr [] own = none) (h3 : ¬ 25 < own.length) : dnewE costs own = none := by unfold dnewE; rw [h]; simp only [h2]; rw [if_neg h3]
theorem ownErr_step {own : List Nt} {i : Nat} (hi : i < own.length) (h : ownErr [] own = ownErr (own.take i) (own.drop i)) : ownErr [] own = match netErr (nth own i).a (nth own i).n with
    | some k => some k
    | none => if nth own i ∈ own.take i then some 5 else ownErr (own.take (i + 1)) (own.drop (i + 1)) := by
  rw [h, drop_nth own i hi, take_succ_nth own i hi]
  rfl

set_option maxRecDepth 100000 in
set_option maxHeartbeats 4000000 in
theorem dnew_any {N M : Nat} (costs : List Int) (ac : Option Addr) (cc : Nat) (own : List Nt) (ao : Option Addr) (co : Nat) (w : World) (hC : Ints w.heap ac costs) (hcl : costs.length * 8 ≤ 140737488351232) (hcn : ac = none → costs = [])
    (hO : Recs w.heap ao 2 Nt.cells own) (how : ∀ x ∈ own, 0 ≤ x.a ∧ x.a < 4294967296) (hol : own.length * 16 ≤ 140737488351232) (hon : ao = none → own = []) (hcap : own.length ≤ co) (hN : N = costs.length) (hM : M = own.length) :
    Calls Try.prog 5 #[.slice ac N cc, .slice ao M co] w (RetDNew w costs own (dnewE costs own)) := by
  subst hN
  subst hM
  obtain ⟨E, hE⟩ : ∃ E, E = dnewE costs own := ⟨_, rfl⟩
  rw [← hE]
  have HE := Lib.hid hE
  have HC := Lib.hid hC
  have HO := Lib.hid hO
  have HOW := Lib.hid how
  have HCN := Lib.hid hcn
  have HON := Lib.hid hon
  clear hC hO how hE hcn hon
  go_enter Try.func5, Try.ntmps5
  go_wp2_with (fail)
  refine (engNew_any costs ac cc w HC.out (by omega) rfl).mono ?_
  intro e1 w1 R1
  cases hne : nearE costs with
  | some q =>
    obtain ⟨rfl, hF1⟩ := R1.errE hne
    have HX := Lib.hid (HE.out.trans (dnewE_near hne))
    clear R1 hne
    go_wp2
    go_ret2
    exact RetDNew.err HX.out rfl hF1
  | none =>
    obtain ⟨be, bn, ae, ce, rfl, -, hF1⟩ := R1.okE hne
    have HNE := Lib.hid hne
    clear R1 hne
    go_wp2
    go_loopw [21] (fun s21 wr => ∃ i : Nat, i ≤ own.length ∧ s21 = .int .i64 i ∧ Fr (fun _ => False) w wr ∧ Hid (ownErr [] own = ownErr (own.take i) (own.drop i))) (fun s _ => own.length - (intOf s).toNat)
    case atStart => exact ⟨0, by omega, rfl, hF1, Lib.hid rfl⟩
    case round =>
      clear hF1
      obtain ⟨i, hi, rfl, hF, hS⟩ := hrel
      by_cases hik : i < own.length
      · obtain ⟨g, o, rfl, hgl, hgc⟩ := Recs.pos HO.out Nt.cells_len (by omega) (by omega)
        have d0 := (hF.cell (p := ⟨g, o + (i * 2 + 0), none⟩) hgl (fun h => h)).trans (hgc w rfl i 0 hik (by omega))
        have d1 := (hF.cell (p := ⟨g, o + (i * 2 + 1), none⟩) hgl (fun h => h)).trans (hgc w rfl i 1 hik (by omega))
        have hst := ownErr_step hik hS.out
        have hxw := HOW.out _ (nth_mem own i hik)
        obtain ⟨y, hy⟩ : ∃ y, y = nth own i := ⟨_, rfl⟩
        rw [← hy] at d0 d1 hst hxw
        obtain ⟨ya, yn⟩ := y
        simp only [Nt.cells, List.getElem?_cons_zero, List.getElem?_cons_succ, ← Nat.add_assoc, Nat.add_zero] at d0 d1
        simp only at hst hxw
        have hB := Blk.made wr 34 [.int .u32 ya, .int .i64 yn]
        have hFb := hF.alloc (.cells #[.int .u32 ya, .int .i64 yn] 34)
        have hrt := (HO.out.takeK i (by omega)).fr hFb (fun _ _ _ h => h)
        rw [flat_take Nt.cells 2 Nt.cells_len] at hrt
        have hlt := List.length_take_of_le hi
        have HRT := Lib.hid (show Recs (wr.alloc (.cells #[.int .u32 ya, .int .i64 yn] 34)).heap (some ⟨g, o, none⟩) 2 Nt.cells (own.take i) by unfold Recs; rw [hlt]; exact hrt)
        have HLT := Lib.hid hlt
        clear hgc hy hS hrt hlt
        go_wp2_with (fail)
        refine (pcheck_any ya yn _ hxw).mono ?_
        rintro e2 w2 ⟨rfl, hF2⟩
        have hB2 := hB.fr hF2 (fun h => h)
        have hF02 := hFb.trans hF2
        have b0 := hB2.cell 0
        have b1 := hB2.cell 1
        have bl := hB2.lt
        simp only [List.getElem?_cons_succ, List.getElem?_cons_zero] at b0 b1
        clear d0 d1 hB
        cases hn : netErr ya yn with
        | some q =>
          rw [hn] at hst
          have HX := Lib.hid (HE.out.trans (dnewE_own HNE.out hst))
          rw [show errO (some q) = errv q from rfl]
          clear hst hn
          go_wp2
          go_ret2
          exact RetDNew.err HX.out rfl hF02
        | none =>
          rw [hn] at hst
          rw [show errO none = .nilIface from rfl]
          have hico : i ≤ co := by omega
          have HST := Lib.hid hst
          clear hst hn
          go_wp2
          (refine wp_region_mix (fun _ => True) 4 (by kernel_rfl) (by kernel_rfl) (trivial) ?_; simp only [List.take_succ_cons, List.take_zero, List.drop_succ_cons, List.drop_zero])
          (refine wpMix_earlyN 4 (by kernel_rfl) (by kernel_rfl) ?_; simp only [List.take_succ_cons, List.take_zero, List.drop_succ_cons, List.drop_zero]; (repeat (go_big_quiet_step (fail))); refine wpQuiet_nil ?_)
          refine wpMix_nil ?_
          go_wp2_with (fail)
          refine (netIn_any (own.take i) ⟨ya, yn⟩ (some ⟨g, o, none⟩) co _ (HRT.out.fr (S := fun _ => False) (hF2.drew) (fun _ _ _ h => h)) (by have := HLT.out; omega) HLT.out.symm).mono ?_
          rintro e3 w3 ⟨rfl, hF3⟩
          have hF03 := hF02.drew.trans hF3
          by_cases hm : (⟨ya, yn⟩ : Nt) ∈ own.take i
          · have HX := Lib.hid (HE.out.trans (dnewE_own HNE.out (HST.out.trans (if_pos hm))))
            rw [decide_eq_true hm]
            clear hm
            go_wp2
            go_ret2
            exact RetDNew.err HX.out rfl hF03
          · have HX := Lib.hid (HST.out.trans (if_neg hm))
            rw [decide_eq_false hm]
            clear hm
            go_wp2
            go_roundw
            case rel => exact ⟨i + 1, by omega, by go_num, hF03, HX⟩
            case measure => simp [intOf]; omega
      · have hie : i = own.length := by omega
        have HOE := Lib.hid (show ownErr [] own = none by rw [hS.out, hie, List.drop_length]; rfl)
        clear hS hie
        by_cases h25 : 25 < own.length
        · have HX := Lib.hid (HE.out.trans (dnewE_full HNE.out HOE.out h25))
          have g1 : decide (25 < own.length) = true := by simpa using h25
          go_wp2
          go_ret2
          exact RetDNew.err HX.out rfl hF
        · have hX := HE.out.trans (dnewE_none HNE.out HOE.out h25)
          have HX := Lib.hid hX
          have HOK := Lib.hid (dnewE_ok (HE.out.symm.trans hX))
          have g1 : decide (25 < own.length) = false := by simpa using h25
          clear hX
          go_wp2_with (fail)
          refine (ribNew_any wr).mono ?_
          rintro e2 w2 ⟨rfl, hw2⟩
          have hR := fun (b : Nat) (hb : wr.heap.size < b) => IsRib.new' wr b hb
          have hF2 : Fr (fun _ => False) wr w2 := by rw [hw2]; exact (Fr.refl _ _).alloc _
          have hs2 : w2.heap.size = wr.heap.size + 1 := by rw [hw2]; simp
          rw [← hw2] at hR
          have HR := Lib.hid hR
          have hF02 := hF.trans hF2
          clear hw2 hR
          go_wp2_with (fail)
          refine (clone_int ac costs cc w2 hcl (HC.out.fr0 hF02 (fun _ _ h => h)) HCN.out).mono ?_
          rintro e3 w3 ⟨a3, c3, ob3, rfl, hO3, hF3, hN3⟩
          have hF03 := hF02.trans hF3
          simp only [id]
          go_wp2_with (fail)
          refine (clone_net own ao co w3 (HO.out.fr0 hF03 (fun _ _ h => h)) rfl hol HON.out).mono ?_
          rintro e4 w4 ⟨a4, c4, ob4, rfl, hO4, hF4, hN4⟩
          simp only [id]
          have hF04 := hF03.trans hF4
          have hs3 := hF3.size
          have hs4 := hF4.size
          have hfin := hF04.alloc (.cells #[.pointer (some ⟨wr.heap.size, 0, none⟩), .slice a3 costs.length c3, .slice a4 own.length c4, .int .i64 0] 66)
          have hsz : (w4.alloc (.cells #[.pointer (some ⟨wr.heap.size, 0, none⟩), .slice a3 costs.length c3, .slice a4 own.length c4, .int .i64 0] 66)).heap.size = w4.heap.size + 1 := by simp
          have i3 := own_in hO3 hN3
          have i4 := own_in hO4 hN4
          have hD : ∀ base, (w4.alloc (.cells #[.pointer (some ⟨wr.heap.size, 0, none⟩), .slice a3 costs.length c3, .slice a4 own.length c4, .int .i64 0] 66)).heap.size ≤ base →
              Dmn (w4.alloc (.cells #[.pointer (some ⟨wr.heap.size, 0, none⟩), .slice a3 costs.length c3, .slice a4 own.length c4, .int .i64 0] 66)) base ⟨wr.heap.size, w4.heap.size + 1, w4.heap.size, wr.heap.size, costs, own, a3, a4, c3, c4⟩ 0 [] 0 := fun base hb => by
            rw [hsz] at hb
            obtain ⟨q1, q2, q3, q4⟩ := HOK.out
            refine ⟨Blk.made _ _ _, ((HR.out base (by omega)).fr0 (hF3.trans hF4)).fr0 ((Fr.refl _ _).alloc _), ribOk_nil, ((hO3.fr hF4 (fun _ _ h => h)).alloc _).rd, (hO4.alloc _).rd, q1, fun x hx => ⟨q2 x hx, HOW.out x hx⟩, q3, q4, (fun _ h => nomatch h), (fun _ h => nomatch h),
              ⟨by simp only; omega, by simp only; omega⟩, ⟨by simp only; omega, by simp only; omega⟩, fun b off e => ?_, fun b off e => ?_, by simp only; omega, by simp only; omega⟩
            · have := i3 b off e
              simp only
              omega
            · have := i4 b off e
              simp only
              omega
          have HD := Lib.hid hD
          have HFIN := Lib.hid hfin
          have HSZ := Lib.hid hsz
          clear hD hfin hsz i3 i4 hO3 hO4 hF04 hF03 hF02 hF2 hF3 hF4
          have hws := hF.size
          go_wp2
          go_ret2
          exact RetDNew.ok (D := ⟨wr.heap.size, w4.heap.size + 1, w4.heap.size, wr.heap.size, costs, own, a3, a4, c3, c4⟩) HX.out rfl rfl rfl hws HSZ.out.symm HD.out HFIN.out
end Go.Proofs.Ytgfbkebbnfcgkaa
end
