import Derived.Test.YtbmeeglehbaggaaGaoW
import Derived.Test.YtbmeeglehbaggaaArgRecs
import Derived.BigQuiet
namespace Go.Proofs.Ytbmeeglehbaggaa
open Go.RowKit

set_option maxRecDepth 100000 in
set_option maxHeartbeats 2000000 in
/-- Of the same two nodes? -/
theorem chk1_any (x y : Lk) (b6 : Nat) (w : World) (hB : Blk w.heap b6 132 (Lk.cells x)) : Calls Try.prog 68 #[.agg #[.int .i64 y.a, .int .i64 y.b, .int .i64 y.c], .pointer (some ⟨b6, 0, none⟩)] w (RetV w (.bool (twinB x y))) := by
  obtain ⟨xa, xb, xc⟩ := x
  obtain ⟨ya, yb, yc⟩ := y
  have c0 := hB.cell 0
  have c1 := hB.cell 1
  have hlt := hB.lt
  simp only [Lk.cells, List.getElem?_cons_zero, List.getElem?_cons_succ] at c0 c1
  have HV := Lib.hid (show twinB ⟨xa, xb, xc⟩ ⟨ya, yb, yc⟩ = ((decide (ya = xa) && decide (yb = xb)) || (decide (ya = xb) && decide (yb = xa))) from rfl)
  generalize twinB ⟨xa, xb, xc⟩ ⟨ya, yb, yc⟩ = v at *
  clear hB
  go_enter Try.func68, Try.ntmps68
  by_cases h1 : ya = xa
  · have e1 : (ya == xa) = true := by simp [h1]
    by_cases h2 : yb = xb
    · have e2 : (yb == xb) = true := by simp [h2]
      have HV2 := Lib.hid (show v = true by rw [HV.out]; simp [h1, h2])
      clear h1 h2 HV
      go_wp2
      go_ret
      exact RetV.mk (x := .bool true) (by rw [HV2.out]) rfl ((Fr.refl _ _).alloc _)
    · have e2 : (yb == xb) = false := by simp [h2]
      by_cases h3 : ya = xb
      · have e3 : (ya == xb) = true := by simp [h3]
        have HV2 := Lib.hid (show v = (yb == xa) by rw [HV.out]; simp [h1, h2, h3]; by_cases q : yb = xa <;> simp_all)
        clear h1 h2 h3 HV
        go_wp2
        go_ret
        exact RetV.mk (x := .bool (yb == xa)) (by rw [HV2.out]) rfl ((Fr.refl _ _).alloc _)
      · have e3 : (ya == xb) = false := by simp [h3]
        have HV2 := Lib.hid (show v = false by rw [HV.out]; simp [h2, h3])
        clear h1 h2 h3 HV
        go_wp2
        go_ret
        exact RetV.mk (x := .bool false) (by rw [HV2.out]) rfl ((Fr.refl _ _).alloc _)
  · have e1 : (ya == xa) = false := by simp [h1]
    by_cases h3 : ya = xb
    · have e3 : (ya == xb) = true := by simp [h3]
      have HV2 := Lib.hid (show v = (yb == xa) by rw [HV.out]; simp [h1, h3]; by_cases q : yb = xa <;> simp_all)
      clear h1 h3 HV
      go_wp2
      go_ret
      exact RetV.mk (x := .bool (yb == xa)) (by rw [HV2.out]) rfl ((Fr.refl _ _).alloc _)
    · have e3 : (ya == xb) = false := by simp [h3]
      have HV2 := Lib.hid (show v = false by rw [HV.out]; simp [h1, h3])
      clear h1 h3 HV
      go_wp2
      go_ret
      exact RetV.mk (x := .bool false) (by rw [HV2.out]) rfl ((Fr.refl _ _).alloc _)

/-- Truths that can be read. -/
abbrev bvals (l : List Bool) : List Value := l.map Value.bool
theorem bvals_get (l : List Bool) (i : Nat) (h : i < l.length) : (bvals l)[i]? = some (.bool (nth l i)) := by simp [nth_get? l i h]
/-- Is a provider that is not done? -/
def openB (W : Nat → Nat → Int) (D : List Bool) (i k : Nat) : Bool := decide (W i k = 3) && !nth D k
set_option maxRecDepth 100000 in
set_option maxHeartbeats 2000000 in
theorem chk2_any {base n i k : Nat} {T : List (List Int)} {aw : Option Addr} {cw : Nat} {obw : Option Nat} {G C : Nat → Nat} {D : List Bool} {gd cd bw bi bd : Nat} (w : World) (hw : Blk w.heap bw 96 [.slice aw n cw]) (hi : Blk w.heap bi 3 [.int .i64 i]) (hd : Blk w.heap bd 135 [.slice (some ⟨gd, 0, none⟩) n cd])
    (hM : OMat w.heap base 22 3 aw cw obw T G C) (hT : Sq n T) (hD : Blk w.heap gd 4 (bvals D)) (hDl : D.length = n) (hin : i < n) (hkn : k < n) (hn : n ≤ 8) :
    Calls Try.prog 69 #[.int .i64 k, .pointer (some ⟨bw, 0, none⟩), .pointer (some ⟨bi, 0, none⟩), .pointer (some ⟨bd, 0, none⟩)] w (RetS w (.bool (openB (at2 T) D i k))) := by
  have w0 := hw.cell 0
  have i0 := hi.cell 0
  have d0 := hd.cell 0
  have k0 := (hD.cell k).trans (bvals_get D k (by omega))
  simp only [List.getElem?_cons_zero] at w0 i0 d0
  obtain ⟨bt, ot, rfl, x1, x2, -⟩ := OMat.cells hM hT.len hT.rows i k hin hkn
  have HV := Lib.hid (show openB (at2 T) D i k = (decide (nth (nth T i) k = 3) && !nth D k) from rfl)
  generalize openB (at2 T) D i k = v at *
  generalize nth (nth T i) k = t at *
  generalize nth D k = z at *
  have q1 := hw.lt
  have q2 := hi.lt
  have q3 := hd.lt
  have q4 := hD.lt
  clear hw hi hd hM hT hD hDl
  go_enter Try.func69, Try.ntmps69
  by_cases h1 : t = 3
  · have e1 : (t == 3) = true := by simp [h1]
    have HV2 := Lib.hid (show v = !z by rw [HV.out]; simp [h1])
    clear h1 HV
    go_wp2
    go_ret
    exact RetS.mk (x := .bool (!z)) (by rw [HV2.out]) rfl rfl
  · have e1 : (t == 3) = false := by simp [h1]
    have HV2 := Lib.hid (show v = false by rw [HV.out]; simp [h1])
    clear h1 HV
    go_wp2
    go_ret
    exact RetS.mk (x := .bool false) (by rw [HV2.out]) rfl rfl
end Go.Proofs.Ytbmeeglehbaggaa
