/- PickOwn's walk: hops that are handed in stay, in their order, and what is told is the asker's, at every list of hops. -/
import Derived.Test.YtbmeeglehbaggaaDoorPickW
import Derived.Test.YtbmeeglehbaggaaDoorIntsOwn
import Derived.Test.YtbmeeglehbaggaaDoorSame
import Derived.Test.YtbmeeglehbaggaaDoorTold
namespace Go.Proofs.YtbmeeglehbaggaaDoor
open Go.RowKit

theorem errO_T (x : Option Int) : errO x = errT x := by cases x <;> rfl
set_option maxRecDepth 100000 in
set_option maxHeartbeats 4000000 in
theorem pickOwn_any (f : Int) (l : List Int) (al : Option Addr) (cl : Nat) (x : Int) (w : World) (hg : Hd w) (hL : Ints w.heap al l) (hc : l.length ≤ cl) (hll : l.length * 8 ≤ 140737488351232) :
    Calls Tryd.prog 5 #[.int .i64 f, .slice al l.length cl, .int .i64 x] w (RetV w (.bool true)) := by
  obtain ⟨N, hN⟩ : ∃ N, N = l.length := ⟨_, rfl⟩
  rw [← hN] at hc hll ⊢
  have HN := Lib.hid hN
  have HL := Lib.hid hL
  have HG := Lib.hid hg
  have hf := intsCopy_any l al cl w hL hN (by omega)
  clear hL hN hg
  go_enter Tryd.func5, Tryd.ntmps5
  go_wp2_with (fail)
  refine hf.mono ?_
  rintro e1 w1 ⟨a1, c1, ob1, rfl, hO1, hF1, hN1⟩
  have h2 := pickOrder_any f l a1 c1 w1 (by show Rd _ _ _ _ _; rw [← HN.out]; exact hO1.rd) HN.out hO1.cap (by omega)
  clear hf
  go_wp2_with (fail)
  refine h2.mono ?_
  rintro e2 w2 ⟨a2, k2, c2, ob2, rfl, hk2, hO2, hF2, hN2⟩
  have hF02 := hF1.trans hF2
  have hO12 := hO1.fr hF2 (fun _ _ h => h)
  have hlt1 := hO1.lt
  have hs1 := hF1.size
  have h3 := pickOrder_any (n := 1) 1 [5] (some ⟨w2.heap.size, 0, none⟩) 1 (w2.alloc (.cells #[.int .i64 5] 3)) (rd_lit w2 3 [.int .i64 5]) rfl (by omega) (by omega)
  have hk2N : k2 ≤ N := by rw [hk2]; split <;> omega
  obtain ⟨R, hR⟩ : ∃ R : List Int, R = if l.Nodup then sortP f l else [] := ⟨_, rfl⟩
  have HR : Hid (k2 = R.length) := Lib.hid (by
    rw [hR, hk2]; split
    · rw [sortP_len]; exact HN.out
    · rfl)
  rw [← hR] at hO2
  have HR2 := Lib.hid hR
  have HK2 := Lib.hid hk2
  clear h2 hO1 hF1 hF2 hk2 hR
  rw [errO_T]
  obtain ⟨er, her⟩ : ∃ er : Option Int, er = if l.Nodup then none else some 5 := ⟨_, rfl⟩
  rw [← her]
  have HER := Lib.hid her
  clear her
  go_wp2_with (fail)
  refine h3.mono ?_
  rintro e3 w3 ⟨a3, k3, c3, ob3, rfl, hk3, -, hF3, -⟩
  rw [if_pos (by simp)] at hk3
  subst hk3
  rw [if_pos (by simp), show errO none = .nilIface from rfl]
  have hFa := ((Fr.refl (fun _ => False) w2).alloc (.cells #[.int .i64 5] 3)).trans hF3
  have hF03 := hF02.trans hFa
  have hO13 := hO12.fr hFa (fun _ _ h => h)
  have hO23 := hO2.fr hFa (fun _ _ h => h)
  have hlt2 := hO2.lt
  have hs3 := hFa.size
  have h4 := intsCopy_any R a2 c2 w3 (by show Rd _ _ _ _ _; rw [← HR.out]; exact hO23.rd) HR.out (by omega)
  clear h3 hF3 hFa hF02 hO12 hO2
  go_wp2_with (fail)
  refine h4.mono ?_
  rintro e4 w4 ⟨a4, c4, ob4, rfl, hO4, hF4, hN4⟩
  have hF04 := hF03.trans hF4
  have hO14 := hO13.fr hF4 (fun _ _ h => h)
  have hO24 := hO23.fr hF4 (fun _ _ h => h)
  have h5 := intsSpoil_any ob2 a2 c2 R x w4 HR.out.symm hO24
  clear h4 hF4 hF03 hO13 hO23
  go_wp2_with (fail)
  refine h5.mono ?_
  rintro e5 w5 ⟨rfl, hF5⟩
  have hO15 := hO14.fr hF5 (fun g hg hs => by have h1 := hN2 g hs; have h2 := hlt1 g hg; omega)
  have hO45 := hO4.fr hF5 (fun g hg hs => by have h1 := hN4 g hg; have h2 := hlt2 g hs; omega)
  have hF05 := hF04.trans' hF5 (fun i hi hs => by have h1 := hN2 i hs; omega)
  have h6 := ints_any' l l a1 al c1 cl w5 (by show Rd _ _ _ _ _; rw [← HN.out]; exact hO15.rd) (HL.out.fr hF05 (fun _ _ _ h => h)) (by have := HN.out; omega) (by have := HN.out; omega) HN.out HN.out
  rw [decide_eq_true rfl] at h6
  clear h5 hF5 hF04 hO14 hO24 hO4
  go_wp2_with (fail)
  refine h6.mono ?_
  intro e6 w6 R6
  obtain ⟨rfl, hF6⟩ := R6.v
  have hF06 := hF05.trans hF6
  have hO46 := hO45.fr hF6 (fun _ _ h => h)
  have h7 := pickOrder_any f l al cl w6 (HL.out.fr hF06 (fun _ _ _ h => h)) HN.out hc (by omega)
  clear h6 R6 hF6 hF05 hO15 hO45
  go_wp2_with (fail)
  refine h7.mono ?_
  rintro e7 w7 ⟨a7, k7, c7, ob7, rfl, hk7, hO7, hF7, -⟩
  rw [← HK2.out] at hk7
  subst hk7
  rw [← HR2.out] at hO7
  rw [← HER.out, errO_T]
  have hF07 := hF06.trans hF7
  have hO47 := hO46.fr hF7 (fun _ _ h => h)
  have h8 := ints_any' R R a7 a4 c7 c4 w7 (by show Rd _ _ _ _ _; rw [← HR.out]; exact hO7.rd) (by show Rd _ _ _ _ _; rw [← HR.out]; exact hO47.rd) (by have := HR.out; omega) (by have := HR.out; omega) HR.out HR.out
  rw [decide_eq_true rfl] at h8
  clear h7 hF7 hF06 hO46
  go_wp2_with (fail)
  refine h8.mono ?_
  intro e8 w8 R8
  obtain ⟨rfl, hF8⟩ := R8.v
  have hF08 := hF07.trans hF8
  have h9 := told2_any er er w8 (HG.out.none hF08)
  rw [beq_self_eq_true] at h9
  clear h8 R8 hF07 hF8 hO47 hO7
  go_wp2_with (fail)
  refine h9.mono ?_
  rintro e9 w9 ⟨rfl, hF9⟩
  have hF09 := hF08.trans hF9
  clear h9 hF08 hF9
  go_wp2
  go_ret
  exact RetV.mk (x := .bool true) rfl rfl hF09
end Go.Proofs.YtbmeeglehbaggaaDoor
