/- CoverOwn's walk: nets that are handed in stay, and a cover is the asker's, at every list of nets. -/
import Derived.Test.YtbmeeglehbaggaaCover2
import Derived.Test.YtbmeeglehbaggaaNetsOwn
import Derived.Test.YtbmeeglehbaggaaNetSame
import Derived.BigQuiet
namespace Go.Proofs.Ytbmeeglehbaggaa
open Go.RowKit

theorem cov_one : coverE [⟨0, 0⟩] = none := by decide +kernel
theorem cov_one2 {S : List Nt} (h : S.Perm [⟨0, 0⟩]) : (coverO S).length = 1 := by
  rw [List.perm_singleton.1 h]; decide +kernel
/-- How many are told. -/
theorem RetCov.n {w w' w2 w2' : World} {l S S2 : List Nt} {n n2 : Nat} (h1 : coverE l = none → S.Pairwise (fun x y => ¬ ntLt y x) ∧ S.Perm l) (h2 : coverE l = none → S2.Pairwise (fun x y => ¬ ntLt y x) ∧ S2.Perm l)
    (e1 : n = if coverE l = none then (coverO S).length else 0) (e2 : n2 = if coverE l = none then (coverO S2).length else 0) : n = n2 := by
  by_cases h : coverE l = none
  · have : S = S2 := sorted_one ((h1 h).2.trans (h2 h).2.symm) (h1 h).1 (h2 h).1
    rw [e1, e2, this]
  · rw [e1, e2, if_neg h, if_neg h]

set_option maxRecDepth 100000 in
set_option maxHeartbeats 4000000 in
theorem coverOwn_any (l : List Nt) (al : Option Addr) (cl : Nat) (x : Int) (w : World) (hL : Recs w.heap al 2 Nt.cells l) (hw : WfN l) (hll : l.length * 16 ≤ 140737488351232) :
    Calls Try.prog 9 #[.slice al l.length cl, .int .i64 x] w (RetV w (.bool true)) := by
  obtain ⟨N, hN⟩ : ∃ N, N = l.length := ⟨_, rfl⟩
  rw [← hN]
  have HN := Lib.hid hN
  have HL := Lib.hid hL
  have HW := Lib.hid hw
  have hNN : N * 16 ≤ 140737488351232 := by omega
  have hf := netsCopy_any l al cl w hL hN (by omega)
  clear hL hw hll hN
  go_enter Try.func9, Try.ntmps9
  go_wp2_with (fail)
  refine hf.mono ?_
  rintro e1 w1 ⟨a1, c1, ob1, rfl, hO1, hF1, hN1⟩
  have h2 := cover_any l a1 c1 w1 (by show Rd _ _ _ _ _; rw [← HN.out]; exact hO1.rd) HW.out HN.out (by have := HN.out; omega)
  clear hf
  go_wp2_with (fail)
  refine h2.mono ?_
  rintro e2 w2 ⟨S2, a2, n2, c2, ob2, rfl, hS2, hn2, h64, ⟨L2, hL2, hO2⟩, hF2, hN2⟩
  have hF02 := hF1.trans hF2
  have hO12 := hO1.fr hF2 (fun _ _ h => h)
  have hlt1 := hO1.lt
  have hs1 := hF1.size
  have h3 := cover_any (n := 1) [⟨0, 0⟩] (some ⟨w2.heap.size, 0, none⟩) 1 (w2.alloc (.cells #[.int .u32 0, .int .i64 0] 26)) (rd_lit w2 26 [.int .u32 0, .int .i64 0]) (fun y hy => by rw [List.mem_singleton] at hy; subst hy; simp) rfl (by simp)
  have HS2 := Lib.hid hS2
  have HN2 := Lib.hid hn2
  have HL2 := Lib.hid hL2
  clear h2 hO1 hF1 hF2 hS2 hn2 hL2
  go_wp2_with (fail)
  refine h3.mono ?_
  rintro e3 w3 ⟨S3, a3, n3, c3, ob3, rfl, hS3, hn3, -, -, hF3, -⟩
  rw [cov_one] at hn3
  rw [if_pos rfl, cov_one2 (hS3 cov_one).2] at hn3
  subst hn3
  rw [cov_one, show errO none = .nilIface from rfl]
  have hFa := ((Fr.refl (fun _ => False) w2).alloc (.cells #[.int .u32 0, .int .i64 0] 26)).trans hF3
  have hF03 := hF02.trans hFa
  have hO13 := hO12.fr hFa (fun _ _ h => h)
  have hO23 := hO2.fr hFa (fun _ _ h => h)
  have h4 := snets_any l l a1 al c1 cl w3 (by show Rd _ _ _ _ _; rw [← HN.out]; exact hO13.rd) (HL.out.fr hF03 (fun _ _ _ h => h)) (by have := HN.out; omega) (by have := HN.out; omega) HN.out HN.out
  rw [decide_eq_true rfl] at h4
  clear h3 hS3 hF3 hFa hF02 hO12 hO2
  go_wp2_with (fail)
  refine h4.mono ?_
  intro e4 w4 R4
  obtain ⟨rfl, hF4⟩ := R4.v
  have hF04 := hF03.trans hF4
  have hO14 := hO13.fr hF4 (fun _ _ h => h)
  have hO24 := hO23.fr hF4 (fun _ _ h => h)
  have h5 := netsSpoil_any ob2 a2 c2 L2 x w4 HL2.out hO24
  clear h4 R4 hF4 hF03 hO13 hO23
  go_wp2_with (fail)
  refine h5.mono ?_
  rintro e5 w5 ⟨rfl, hF5⟩
  have hO15 := hO14.fr hF5 (fun g hg hs => by have h1 := hN2 g hs; have h2 := hlt1 g hg; omega)
  have hF05 := hF04.trans' hF5 (fun i hi hs => by have h1 := hN2 i hs; omega)
  have h6 := snets_any l l a1 al c1 cl w5 (by show Rd _ _ _ _ _; rw [← HN.out]; exact hO15.rd) (HL.out.fr hF05 (fun _ _ _ h => h)) (by have := HN.out; omega) (by have := HN.out; omega) HN.out HN.out
  rw [decide_eq_true rfl] at h6
  clear h5 hF5 hF04 hO14 hO24
  go_wp2_with (fail)
  refine h6.mono ?_
  intro e6 w6 R6
  obtain ⟨rfl, hF6⟩ := R6.v
  have hF06 := hF05.trans hF6
  have h7 := cover_any l al cl w6 (HL.out.fr hF06 (fun _ _ _ h => h)) HW.out HN.out (by have := HN.out; omega)
  clear h6 R6 hF6 hF05 hO15
  go_wp2_with (fail)
  refine h7.mono ?_
  rintro e7 w7 ⟨S7, a7, n7, c7, ob7, rfl, hS7, hn7, -, -, hF7, -⟩
  obtain rfl := RetCov.n (w := w) (w' := w) (w2 := w) (w2' := w) HS2.out hS7 HN2.out hn7
  have hF07 := hF06.trans hF7
  clear h7 hS7 hn7 hF7 hF06 HS2 HN2
  cases coverE l with
  | none =>
    rw [show errO none = .nilIface from rfl]
    go_wp2
    go_quiet (fail)
    go_wp2
    go_ret
    exact RetV.mk (x := .bool true) rfl rfl (hF07.drewN nq)
  | some q =>
    rw [show errO (some q) = errv q from rfl]
    go_wp2
    go_quiet (fail)
    go_wp2
    go_ret
    exact RetV.mk (x := .bool true) rfl rfl (hF07.drewN nq)
end Go.Proofs.Ytbmeeglehbaggaa
