import Derived.Test.YtbmeeglehbaggaaDoorWireRef
import Derived.Test.YtbmeeglehbaggaaDoorTold
namespace Go.Proofs.YtbmeeglehbaggaaDoor
open Go.RowKit
def decN (r : Except Int (Bool × List En)) : Nat := match r with | .error _ => 0 | .ok (_, l) => l.length
def decE (r : Except Int (Bool × List En)) : Option Int := match r with | .error k => some k | .ok _ => none
theorem RetDec.flat {w w' : World} {r : Except Int (Bool × List En)} {e : Ending} {n : Nat} {E : Option Int} (h : RetDec w r e w') (hn : n = decN r) (hE : E = decE r) :
    ∃ (q : Bool) (a : Option Addr) (c : Nat) (ob : Option Nat) (xs : List Value), e = .returned (.tuple #[.agg #[.bool q, .slice a n c], errT E]) ∧ Own w'.heap 66 5 a n c xs ob ∧ Fr (fun _ => False) w w' ∧ (∀ g, ob = some g → w.heap.size ≤ g) ∧ n ≤ 25 := by
  subst hn
  subst hE
  cases r with
  | error k => obtain ⟨h1, h2⟩ := h; exact ⟨false, none, 0, none, [], h1, Own.nil _ _ _, h2, (fun g h => nomatch h), Nat.zero_le _⟩
  | ok p => obtain ⟨ask, l⟩ := p; obtain ⟨a, c, ob, h1, h2, h3, h4, h5, h6⟩ := h; exact ⟨ask, a, c, ob, _, h1, h2, h3, h4, h6⟩
def encX (r : Option Int) (bs : List Int) : List Int := match r with | some _ => [] | none => bs
theorem RetEnc.flat {w w' : World} {r : Option Int} {bs X : List Int} {e : Ending} {n : Nat} {E : Option Int} (h : RetEnc w r bs e w') (hX : X = encX r bs) (hn : n = X.length) (hE : E = r) :
    ∃ (a : Option Addr) (c : Nat) (ob : Option Nat), e = .returned (.tuple #[.slice a n c, errT E]) ∧ Own w'.heap 5 1 a n c (ivals .u8 X) ob ∧ Fr (fun _ => False) w w' ∧ ∀ g, ob = some g → w.heap.size ≤ g := by
  subst hn
  subst hX
  subst hE
  cases E with
  | some k => obtain ⟨h1, h2⟩ := h; exact ⟨none, 0, none, h1, Own.nil _ _ _, h2, (fun g h => nomatch h)⟩
  | none => exact h
theorem RetEnc.four {w w' : World} {e : Ending} (h : RetEnc w (msgErr []) (encD false []) e w') : ∃ (a : Option Addr) (c : Nat), e = .returned (.tuple #[.slice a 4 c, .nilIface]) ∧ Fr (fun _ => False) w w' := by
  obtain ⟨a, c, ob, h1, -, h3, -⟩ := h.okE rfl
  exact ⟨a, c, h1, h3⟩
set_option maxRecDepth 100000 in
set_option maxHeartbeats 8000000 in
theorem wireOwn_any {M N : Nat} (ask : Bool) (l : List En) (al : Option Addr) (cl : Nat) (b : List Int) (ab : Option Addr) (cb : Nat) (x : Int) (w : World) (hg : Hd w) (hL : Recs w.heap al 5 En.cells l) (hlw : ∀ e ∈ l, En.wf e) (hll : l.length ≤ 9223372036854775806) (hR : Rd w.heap ab N 1 (ivals .u8 b)) (hbd : ∀ x ∈ b, 0 ≤ x ∧ x < 256) (hbc : b.length ≤ cb) (hbl : b.length ≤ 140737488351232) (hM : M = l.length) (hN : N = b.length) (hx : 0 ≤ x ∧ x < 256) :
    Calls Tryd.prog 7 #[.agg #[.bool ask, .slice al M cl], .slice ab N cb, .int .u8 x] w (RetV w (.bool true)) := by
  subst hM
  subst hN
  obtain ⟨nD, hnD⟩ : ∃ n, n = decN (decD b) := ⟨_, rfl⟩
  obtain ⟨eD, heD⟩ : ∃ E, E = decE (decD b) := ⟨_, rfl⟩
  obtain ⟨E, hE⟩ : ∃ E, E = msgErr l := ⟨_, rfl⟩
  obtain ⟨X, hX⟩ : ∃ X, X = encX (msgErr l) (encD ask l) := ⟨_, rfl⟩
  obtain ⟨nX, hnX⟩ : ∃ n, n = X.length := ⟨_, rfl⟩
  have HnD := Lib.hid hnD
  have HeD := Lib.hid heD
  have HE := Lib.hid hE
  have HX := Lib.hid hX
  have HnX := Lib.hid hnX
  have HBD := Lib.hid hbd
  have HLW := Lib.hid hlw
  have HL := Lib.hid hL
  have HR := Lib.hid hR
  have HXL : X.length ≤ 504 := by
    rw [hX]
    unfold encX
    split
    · simp
    · rw [encD_len]
      rename_i h
      unfold msgErr at h
      split at h
      · cases h
      · omega
  have hX4 : nX ≤ 504 := by rw [hnX]; exact HXL
  clear hnD heD hE hX hnX HXL hbd hlw hL hR
  have hB0 := Blk.made w 59 [.bool ask, .slice al l.length cl]
  have hO0 : Own ((w.alloc (.cells #[.bool ask, .slice al l.length cl] 59)).alloc (.cells #[] 5)).heap 5 1 (some ⟨w.heap.size + 1, 0, none⟩) 0 0 [] (some (w.heap.size + 1)) := by
    have := Own.made (w.alloc (.cells #[.bool ask, .slice al l.length cl] 59)) 5 1 0 [] rfl (by decide)
    rwa [show (w.alloc (.cells #[.bool ask, .slice al l.length cl] 59)).heap.size = w.heap.size + 1 by simp] at this
  have hF00 := (((Fr.refl (fun _ => False) w).alloc (.cells #[.bool ask, .slice al l.length cl] 59)).alloc (.cells #[] 5))
  have hR0 := HR.out.fr hF00 (fun _ _ _ h => h)
  have hB1 := hB0.alloc (.cells #[] 5)
  clear hB0
  go_enter Tryd.func7, Tryd.ntmps7
  go_wp2_with (at_builtin; refine wpList_app rfl _ _ 60 rfl Tryd.underlying60 infoU8 rfl (by decide) rfl rfl hO0 hR0 (ivals_one .u8 b) (by omega) (by omega) ?_)
  intro a1 c1 w1 ob1 v1 v2 v3
  have hO1 : Own w1.heap 5 1 a1 b.length c1 (ivals .u8 b) ob1 := by simpa using v1
  have hN1 : ∀ g, ob1 = some g → w.heap.size < g := fun g hg => by
    rcases v3 with h | ⟨g', h, h'⟩ <;> (rw [hg] at h; cases h; first | omega | (simp at h'; omega))
  have hF1 : Fr (fun _ => False) w w1 := hF00.trans' v2 (fun i hi e => by
    have h2 : w.heap.size + 1 = i := by first | exact Option.some.inj e | exact e
    omega)
  have hM1 : Blk w1.heap w.heap.size 59 [.bool ask, .slice al l.length cl] := hB1.fr v2 (fun e => by
    have h2 : w.heap.size + 1 = w.heap.size := by first | exact Option.some.inj e | exact e
    omega)
  have hc1 := hO1.cap
  have hM1l := hM1.lt
  clear v1 v2 v3 hO0 hR0 hB1 hF00
  try simp only [Nat.zero_add]
  go_wp2_with (fail)
  refine (decode_any b a1 c1 _ hO1.rd HBD.out hc1 (by omega) rfl).mono ?_
  intro e2 w2 R2
  obtain ⟨qD, aD, cD, obD, xsD, rfl, hOD, hF2, hND, hn25⟩ := R2.flat HnD.out HeD.out
  have hs2 := hF2.size
  have hobD := hOD.lt
  have hF2a := hF2.alloc (.cells #[.bool qD, .slice aD nD cD] 59)
  have hM2 := (hM1.fr hF2 (fun h => h)).alloc (.cells #[.bool qD, .slice aD nD cD] 59)
  have hO1b := hO1.fr hF2a (fun _ _ h => h)
  have hBD := Blk.made w2 59 [.bool qD, .slice aD nD cD]
  have hOD2 := hOD.alloc (.cells #[.bool qD, .slice aD nD cD] 59)
  have hF02 := hF1.trans hF2a
  have m0 := hM2.cell 0
  have m1 := hM2.cell 1
  have ml := hM2.lt
  simp only [List.getElem?_cons_succ, List.getElem?_cons_zero] at m0 m1
  clear R2 hOD hM1
  go_wp2_with (fail)
  refine (encode_any ask l al cl _ (HL.out.fr hF02 (fun _ _ _ h => h)) HLW.out hll rfl).mono ?_
  intro e3 w3 R3
  obtain ⟨a3, c3, ob3, rfl, hO3, hF3, hN3⟩ := R3.flat HX.out HnX.out HE.out
  have hs3 := hF3.size
  have hob3 := hO3.lt
  have hsa : (w2.alloc (.cells #[.bool qD, .slice aD nD cD] 59)).heap.size = w2.heap.size + 1 := by simp
  rw [hsa] at hs3 hN3
  clear R3 m0 m1 ml
  go_wp2_with (fail)
  refine (encode_any false [] none 0 _ (Rd.nil _ _ _) (fun _ h => nomatch h) (by simp) rfl).mono ?_
  intro e4 w4 R4
  obtain ⟨a4, c4, rfl, hF4⟩ := R4.four
  have hF34 := hF3.trans hF4
  have hs4 := hF4.size
  have hM4 := hM2.fr hF34 (fun h => h)
  have hBD4 := hBD.fr hF34 (fun h => h)
  have hO14 := hO1b.fr hF34 (fun _ _ h => h)
  have hOD4 := hOD2.fr hF34 (fun _ _ h => h)
  have hO34 := hO3.fr hF4 (fun _ _ h => h)
  have hF04 := hF02.trans hF34
  have hob1 := hO1.lt
  clear R4 hM2 hBD hO1b hOD2 hO3 hF34 hF3 hF4 hF2a hF2 hO1
  have HM4 := Lib.hid hM4
  have HO14 := Lib.hid hO14
  have HO34 := Lib.hid hO34
  clear hM4 hO14 hO34
  -- the blocks differ
  have h1D : ∀ g, ob1 = some g → ¬ obD = some g := fun g h h' => by have := hob1 g h; have := hND g h'; omega
  have h3D : ∀ g, ob3 = some g → ¬ obD = some g := fun g h h' => by have := hobD g h'; have := hN3 g h; omega
  have h31 : ∀ g, ob3 = some g → ¬ ob1 = some g := fun g h h' => by have := hob1 g h'; have := hN3 g h; omega
  have hs1 := hF1.size
  go_wp2
  go_loopw [14] (fun s14 wr => ∃ (i : Nat) (ys : List Value), s14 = .int .i64 i ∧ i ≤ nD ∧ Own wr.heap 66 5 aD nD cD ys obD ∧ Fr (fun k => obD = some k) w4 wr) (fun s _ => nD - (intOf s).toNat)
  case atStart => exact ⟨0, xsD, rfl, by omega, hOD4, Fr.refl _ _⟩
  case round =>
    clear hOD4
    obtain ⟨i, ys, rfl, hi, hO, hF⟩ := hrel
    have hBr := hBD4.fr hF (fun e => by have := hobD _ e; omega)
    have b1 := hBr.cell 1
    have bl := hBr.lt
    simp only [List.getElem?_cons_succ, List.getElem?_cons_zero] at b1
    by_cases him : i < nD
    · obtain ⟨g, rfl, rfl, hgl, hgc, hgf⟩ := hO.pos (by omega)
      have hyl := hO.len
      have d := (hgc (i * 5 + 2) (by omega)).trans (List.getElem?_eq_getElem (show i * 5 + 2 < ys.length by omega))
      have f := hgf (i * 5 + 2)
      generalize ys[i * 5 + 2]'(by omega) = y at d
      have hset := hO.set rfl (i * 5 + 2) (.int .i64 x)
      have hFz := hF.setCell (p := ⟨g, i * 5 + 2, none⟩) (fun _ => rfl) (.int .i64 x)
      clear hgc hgf
      go_wp2
      go_roundw
      case rel => exact ⟨i + 1, _, by go_num, by omega, hset, hFz⟩
      case measure => simp [intOf]; omega
    · obtain ⟨wA, hA⟩ : ∃ z, z = wr := ⟨_, rfl⟩
      subst hA
      have hF0A : Fr (fun _ => False) w wA := hF04.trans' hF (fun k hk h => by have := hND k h; omega)
      have hMA := Lib.hid (HM4.out.fr hF (fun e => by have := hND _ e; omega))
      have hO1A := HO14.out.fr hF (fun g h h' => h1D g h h')
      have hO3A := Lib.hid (HO34.out.fr hF (fun g h h' => h3D g h h'))
      have hBDA := Lib.hid hBr
      have hRA := HR.out.fr hF0A (fun _ _ _ h => h)
      clear hF hO hBr HM4 HO14 HO34 hBD4 hF04
      go_wp2_with (fail)
      refine (u8s_any b b a1 ab c1 cb _ hO1A.rd hRA (by omega) (by omega) rfl rfl).mono ?_
      rintro e5 w5 ⟨rfl, n5, rfl⟩
      have hdl : decide (b = b) = true := by simp
      rw [hdl]
      have hO1B := hO1A.fr ((Fr.refl (fun _ => False) wA).drewN n5) (fun _ _ h => h)
      clear hdl hO1A hRA b1 bl
      go_wp2
      go_loopw [16] (fun s16 wr => ∃ (i : Nat) (ys : List Value), s16 = .int .i64 i ∧ i ≤ b.length ∧ Own wr.heap 5 1 a1 b.length c1 ys ob1 ∧ Fr (fun k => ob1 = some k) (wA.drewN n5) wr) (fun s _ => b.length - (intOf s).toNat)
      case atStart => exact ⟨0, _, rfl, by omega, hO1B, Fr.refl _ _⟩
      case round =>
        clear hO1B
        obtain ⟨i, ys, rfl, hi, hO, hF⟩ := hrel
        by_cases him : i < b.length
        · obtain ⟨g, rfl, rfl, hgl, hgc, hgf⟩ := hO.pos (by omega)
          have hyl := hO.len
          have d := (hgc i (by omega)).trans (List.getElem?_eq_getElem (show i < ys.length by omega))
          have f := hgf i
          generalize ys[i]'(by omega) = y at d
          have hset := hO.set rfl i (.int .u8 x)
          have hFz := hF.setCell (p := ⟨g, i, none⟩) (fun _ => rfl) (.int .u8 x)
          clear hgc hgf
          go_wp2
          go_roundw
          case rel => exact ⟨i + 1, _, by go_num, by omega, hset, hFz⟩
          case measure => simp [intOf]; omega
        · obtain ⟨wB, hB⟩ : ∃ z, z = wr := ⟨_, rfl⟩
          subst hB
          have hie : i = b.length := by omega
          have hF0B : Fr (fun _ => False) w wB := (hF0A.drewN n5).trans' hF (fun k hk h => by have := hN1 k h; omega)
          have hMB := Lib.hid (((hMA.out.fr ((Fr.refl (fun _ => False) wA).drewN n5) (fun h => h))).fr hF (fun e => by have := hN1 _ e; omega))
          have hO3B := (hO3A.out.fr ((Fr.refl (fun _ => False) wA).drewN n5) (fun _ _ h => h)).fr hF (fun g h h' => h31 g h h')
          have hBDB := Lib.hid ((hBDA.out.fr ((Fr.refl (fun _ => False) wA).drewN n5) (fun h => h)).fr hF (fun e => by have := hob1 _ e; omega))
          clear hF hO hMA hO3A hBDA hF0A
          go_wp2
          go_loopw [17] (fun s17 wr => ∃ (i : Nat) (ys : List Value), s17 = .int .i64 i ∧ i ≤ nX ∧ Own wr.heap 5 1 a3 nX c3 ys ob3 ∧ Fr (fun k => ob3 = some k) wB wr) (fun s _ => nX - (intOf s).toNat)
          case atStart => exact ⟨0, _, rfl, by omega, hO3B, Fr.refl _ _⟩
          case round =>
            clear hO3B hie him
            obtain ⟨i, ys, rfl, hi, hO, hF⟩ := hrel
            by_cases him : i < nX
            · obtain ⟨g, rfl, rfl, hgl, hgc, hgf⟩ := hO.pos (by omega)
              have hyl := hO.len
              have d := (hgc i (by omega)).trans (List.getElem?_eq_getElem (show i < ys.length by omega))
              have f := hgf i
              generalize ys[i]'(by omega) = y at d
              have hset := hO.set rfl i (.int .u8 x)
              have hFz := hF.setCell (p := ⟨g, i, none⟩) (fun _ => rfl) (.int .u8 x)
              clear hgc hgf
              go_wp2
              go_roundw
              case rel => exact ⟨i + 1, _, by go_num, by omega, hset, hFz⟩
              case measure => simp [intOf]; omega
            · obtain ⟨wC, hC⟩ : ∃ z, z = wr := ⟨_, rfl⟩
              subst hC
              have hF0C : Fr (fun _ => False) w wC := hF0B.trans' hF (fun k hk h => by have := hN3 k h; omega)
              have hMC := hMB.out.fr hF (fun e => by have := hN3 _ e; omega)
              have hBDC := hBDB.out.fr hF (fun e => by have := hN3 _ e; omega)
              have m0 := hMC.cell 0
              have m1 := hMC.cell 1
              have ml := hMC.lt
              simp only [List.getElem?_cons_succ, List.getElem?_cons_zero] at m0 m1
              clear hF hO hMB hBDB hF0B
              go_wp2_with (fail)
              refine (encode_any ask l al cl _ (HL.out.fr hF0C (fun _ _ _ h => h)) HLW.out hll rfl).mono ?_
              intro e6 w6 R6
              obtain ⟨a6, c6, ob6, rfl, hO6, hF6, -⟩ := R6.flat HX.out HnX.out HE.out
              have hF06 := hF0C.trans hF6
              clear R6 m0 m1 ml
              go_wp2_with (fail)
              refine (decode_any b ab cb _ (HR.out.fr hF06 (fun _ _ _ h => h)) HBD.out hbc (by omega) rfl).mono ?_
              intro e7 w7 R7
              obtain ⟨q7, a7, c7, ob7, xs7, rfl, -, hF7, -, -⟩ := R7.flat HnD.out HeD.out
              have hF7a := hF7.alloc (.cells #[.bool q7, .slice a7 nD c7] 59)
              have hF67 := hF6.trans hF7a
              have hF07 := hF0C.trans hF67
              have hM7 := hMC.fr hF67 (fun h => h)
              have hBD7 := hBDC.fr hF67 (fun h => h)
              have hB7 := Blk.made w7 59 [.bool q7, .slice a7 nD c7]
              have hO67 := hO6.fr hF7a (fun _ _ h => h)
              clear R7 hF7 hF7a hF6 hMC hBDC hO6 hF06 hF67
              go_wp2_with (fail)
              refine (told2_any E E _ (hg.none hF07)).mono ?_
              rintro e8 w8 ⟨rfl, hF8⟩
              have hdg : (errN E == errN E) = true := by simp
              rw [hdg]
              clear hdg
              have hF08 := hF07.trans hF8
              go_wp2_with (fail)
              refine (told2_any eD eD _ (hg.none hF08)).mono ?_
              rintro e9 w9 ⟨rfl, hF9⟩
              have hdg : (errN eD == errN eD) = true := by simp
              rw [hdg]
              clear hdg
              have hF89 := hF8.trans hF9
              have hF09 := hF07.trans hF89
              have hM9 := hM7.fr hF89 (fun h => h)
              have hBD9 := hBD7.fr hF89 (fun h => h)
              have hB9 := hB7.fr hF89 (fun h => h)
              have hO69 := hO67.fr hF89 (fun _ _ h => h)
              have p1 := hBD9.cell 1
              have pl := hBD9.lt
              have q1 := hB9.cell 1
              have ql := hB9.lt
              have m0 := hM9.cell 0
              have m1 := hM9.cell 1
              have ml := hM9.lt
              simp only [List.getElem?_cons_succ, List.getElem?_cons_zero] at p1 q1 m0 m1
              have hnx : ((nX : Int) == (nX : Int)) = true := by simp
              have hnd : ((nD : Int) == (nD : Int)) = true := by simp
              clear hF8 hF9 hF08 hF07 hM7 hBD7 hB7 hO67 hBD9 hB9 hM9 hF0C
              cases E with
              | some k =>
                rw [show errT (some k) = errv k from rfl]
                go_wp2
                go_ret
                exact RetV.mk rfl rfl hF09
              | none =>
                rw [show errT none = .nilIface from rfl]
                have HXX := Lib.hid (show X = encD ask l by rw [HX.out, ← HE.out]; rfl)
                go_wp2_with (go_at_call 29; refine (bytesOf_any ask l al cl _ (HL.out.fr hF09 (fun _ _ _ h => h)) HLW.out HE.out.symm rfl).mono ?_)
                rintro e10 w10 ⟨a10, c10, ob10, rfl, hO10, hF10⟩
                have hO6X := hO69.fr hF10 (fun _ _ h => h)
                have hXl : (encD ask l).length ≤ 504 := by rw [← HXX.out]; have := HnX.out; omega
                go_wp2_with (go_at_call 28; refine (u8s_any X (encD ask l) a6 a10 c6 c10 _ hO6X.rd hO10.rd (by have := HnX.out; omega) (by omega) HnX.out rfl).mono ?_)
                rintro e11 w11 ⟨rfl, n11, rfl⟩
                have hdl : decide (X = encD ask l) = true := by rw [HXX.out]; simp
                rw [hdl]
                clear hdl
                go_wp2
                go_ret
                exact RetV.mk rfl rfl ((hF09.trans hF10).drewN n11)
end Go.Proofs.YtbmeeglehbaggaaDoor
