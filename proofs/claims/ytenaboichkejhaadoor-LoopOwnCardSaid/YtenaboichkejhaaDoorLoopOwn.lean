import Derived.Test.YtenaboichkejhaaDoorLoops2
import Derived.Test.YtenaboichkejhaaDoorTold
namespace Go.Proofs.YtenaboichkejhaaDoor
open Go.RowKit

def unL : Except Int (List Int) → List Int × Option Int
  | .error k => ([], some k)
  | .ok o => (o, none)
theorem RetL.out {w w' : World} {r : Except Int (List Int)} {e : Ending} (h : RetL w r e w') :
    ∃ out er a c ob, unL r = (out, er) ∧ e = .returned (.tuple #[.slice a out.length c, errT er]) ∧ Own w'.heap 3 1 a out.length c (ivals .i64 out) ob ∧ Fr (fun _ => False) w w' ∧ ∀ g, ob = some g → w.heap.size ≤ g := by
  cases r with
  | error k => obtain ⟨rfl, hF⟩ := h; exact ⟨[], some k, none, 0, none, rfl, rfl, Own.nil _ _ _, hF, fun g h => nomatch h⟩
  | ok o => obtain ⟨a, c, ob, rfl, hO, hF, hN⟩ := h; exact ⟨o, none, a, c, ob, rfl, rfl, hO, hF, hN⟩
theorem loops_len {nx out : List Int} {er : Option Int} (h : unL (loopsE nx) = (out, er)) : out.length ≤ nx.length := by
  unfold loopsE at h
  split at h
  · cases h; simp
  · cases h; exact onL_le

set_option maxRecDepth 100000 in
set_option maxHeartbeats 4000000 in
theorem loopOwn_any (v : List Int) (av : Option Addr) (cv : Nat) (x : Int) (w : World) (hg : Hd w) (hV : Ints w.heap av v) (hv : v.length * 8 ≤ 140737488351232) :
    Calls Tryd.prog 3 #[.slice av v.length cv, .int .i64 x] w (RetV w (.bool true)) := by
  go_enter Tryd.func3, Tryd.ntmps3
  go_wp2_with (fail)
  refine (copy_any av v cv _ rfl hv hV).mono ?_
  rintro e1 w1 ⟨g1, c1, rfl, hO1, hF1, hN1⟩
  go_wp2_with (fail)
  refine (loops_any v _ c1 _ rfl hO1.rd hv).mono ?_
  intro e2 w2 R2
  obtain ⟨out, er, a2, c2, ob2, hu, rfl, hO2, hF2, hN2⟩ := R2.out
  have hF02 := hF1.trans hF2
  have hol := loops_len hu
  have HU := Lib.hid hu
  have hO12 := hO1.fr hF2 (fun _ _ h => h)
  clear R2 hu
  have hlit := (Own.made w2 3 1 1 [.int .i64 0] rfl (by decide)).rd
  go_wp2_with (fail)
  refine (loops_any [0] _ 1 _ rfl hlit (by decide)).mono ?_
  intro e3 w3 R3
  rw [show loopsE [0] = .ok [0] from rfl] at R3
  obtain ⟨_, _, a3, c3, ob3, hu3, rfl, -, hF3, -⟩ := R3.out
  cases hu3
  rw [show ([(0 : Int)]).length = 1 from rfl, show errT none = .nilIface from rfl]
  have hF23 := ((Fr.refl (fun _ => False) w2).alloc (.cells #[.int .i64 0] 3)).trans hF3
  have hF03 := hF02.trans hF23
  have hO13 := hO12.fr hF23 (fun _ _ h => h)
  have hO23 := hO2.fr hF23 (fun _ _ h => h)
  clear R3 hF3 hlit
  go_wp2_with (fail)
  refine (copy_any a2 out c2 _ rfl (by omega) hO23.rd).mono ?_
  rintro e4 w4 ⟨g4, c4, rfl, hO4, hF4, hN4⟩
  have hF04 := hF03.trans hF4
  have hO14 := hO13.fr hF4 (fun _ _ h => h)
  have hO24 := hO23.fr hF4 (fun _ _ h => h)
  go_wp2_with (fail)
  refine (spoil_own a2 c2 ob2 out x _ hO24).mono ?_
  rintro e5 w5 ⟨rfl, hF5⟩
  have hlt2 := hO23.lt
  have hlt1 := hO1.lt g1 rfl
  have hF05 : Fr (fun _ => False) w w5 := hF04.trans' hF5 (fun i hi h => by have := hN2 i h; have := hF1.size; omega)
  have hO15 := hO14.fr hF5 (fun g h h' => by cases h; have := hN2 _ h'; omega)
  have hO45 := hO4.fr hF5 (fun g h h' => by cases h; have := hlt2 _ h'; omega)
  go_wp2_with (fail)
  refine (ints_any v v _ av c1 cv _ hO15.rd (hV.fr0 hF05 (fun _ _ h => h)) (by omega) (by omega)).mono ?_
  rintro e6 w6 ⟨rfl, n6, rfl⟩
  have hF06 := hF05.drewN n6
  go_wp2_with (fail)
  refine (loops_any v av cv _ rfl (hV.fr0 hF06 (fun _ _ h => h)) hv).mono ?_
  intro e7 w7 R7
  obtain ⟨out7, er7, a7, c7, ob7, hu7, rfl, hO7, hF7, -⟩ := R7.out
  obtain ⟨rfl, rfl⟩ : out = out7 ∧ er = er7 := by have := HU.out.symm.trans hu7; cases this; exact ⟨rfl, rfl⟩
  clear R7 hu7
  have hF07 := hF06.trans hF7
  go_wp2_with (fail)
  refine (ints_any out out a7 _ c7 c4 _ hO7.rd (hO45.fr (((Fr.refl (fun _ => False) w5).drewN n6).trans hF7) (fun _ _ h => h)).rd (by omega) (by omega)).mono ?_
  rintro e8 w8 ⟨rfl, n8, rfl⟩
  have hF08 := hF07.drewN n8
  go_wp2_with (fail)
  refine (told2_any er er _ (hg.none hF08)).mono ?_
  rintro e9 w9 ⟨rfl, hF9⟩
  go_wp2
  go_ret
  exact RetV.mk rfl rfl (hF08.trans hF9)
end Go.Proofs.YtenaboichkejhaaDoor
