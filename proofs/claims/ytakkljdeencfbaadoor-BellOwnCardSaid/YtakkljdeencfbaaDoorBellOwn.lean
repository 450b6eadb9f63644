import Derived.Test.YtakkljdeencfbaaDoorBell2
import Derived.Test.YtakkljdeencfbaaDoorTold
import Derived.Handy
namespace Go.Proofs.YtakkljdeencfbaaDoor
open Go.RowKit

theorem one_any (w : World) : Calls Tryd.prog 17 #[] w (fun e w' => e = .returned (.slice (some ⟨w.heap.size, 0, none⟩) 1 1) ∧ w' = w.alloc (.cells #[.int .i64 0, .int .i64 1, .int .i64 3] 32)) := by
  go_enter Tryd.func17, Tryd.ntmps17
  go_wp2
  go_ret
  exact ⟨rfl, rfl⟩
abbrev oneL : List Lk := [⟨0, 1, 3⟩]
theorem one_links (w : World) : Links (w.alloc (.cells #[.int .i64 0, .int .i64 1, .int .i64 3] 32)).heap (some ⟨w.heap.size, 0, none⟩) oneL :=
  (Own.made w 32 3 1 [.int .i64 0, .int .i64 1, .int .i64 3] rfl (by decide)).rd
theorem one_wf : ∀ x ∈ oneL, (Lit.int .i64 x.a).wf = true ∧ (Lit.int .i64 x.b).wf = true ∧ (Lit.int .i64 x.c).wf = true := fun x hx => by
  rw [List.mem_singleton.1 hx]
  exact ⟨rfl, rfl, rfl⟩
theorem one_graph : graphErr 2 oneL = none := by rfl

set_option maxRecDepth 100000 in
set_option maxHeartbeats 1000000 in
theorem run_two (a : Option Addr) (c : Nat) (w : World) (hL : Links w.heap a oneL) :
    Calls Tryd.prog 16 #[.int .i64 2, .slice a 1 c, .int .i64 0] w (fun e w' => ∃ v, e = .returned (.tuple #[v, .int .i64 1, .nilIface]) ∧ Fr (fun _ => False) w w') := by
  go_enter Tryd.func16, Tryd.ntmps16
  go_wp2_with (go_at_call 26; refine (gcheck_any 2 oneL a c _ hL (by simp) one_wf).mono ?_)
  intro e1 w1 R1
  rw [one_graph] at R1
  obtain ⟨rfl, hF1⟩ := R1
  rw [show errO none = .nilIface from rfl]
  go_wp2_with (go_at_call 33; refine (start_any 2 0 _).mono ?_)
  intro e2 w2 R2
  rw [show startE 2 0 = .ok [0, 16] from rfl] at R2
  obtain ⟨a2, c2, ob2, rfl, hO2, hF2, hN2⟩ := R2
  have hF02 := hF1.trans hF2
  rw [show (2 : Int).toNat = 2 from rfl] at hO2 ⊢
  clear hN2 hF1 hF2
  go_wp2
  go_loopw [12, 10] (fun s12 s10 wr => ∃ (m : Nat) (ao : Option Addr) (co : Nat) (ob : Option Nat) (dl : List Int), s12 = .int .i64 m ∧ s10 = .slice ao 2 co ∧ Own wr.heap 3 1 ao 2 co (ivals .i64 dl) ob ∧ Fr (fun _ => False) w wr ∧ Hid ((m = 0 ∧ dl = [0, 16]) ∨ (m = 1 ∧ dl = [0, 3]))) (fun s _ _ => 2 - (intOf s).toNat)
  case atStart => exact ⟨0, a2, c2, ob2, [0, 16], rfl, rfl, hO2, hF02, .inl ⟨rfl, rfl⟩⟩
  case round =>
    clear hO2 hF02
    obtain ⟨m, ao, co, ob, dl, rfl, rfl, hO, hF, hM⟩ := hrel
    rcases hM.out with ⟨rfl, rfl⟩ | ⟨rfl, rfl⟩
    · go_wp2_with (go_at_call 15; refine (round_any 2 oneL a c 0 [0, 16] ao co _ (hL.fr0 hF (fun _ _ h => h)) (by simp) one_wf hO.rd (by simp)).mono ?_)
      intro e3 w3 R3
      rw [show roundE 2 oneL 0 [0, 16] = .ok [0, 3] from rfl] at R3
      obtain ⟨a3, c3, ob3, rfl, hO3, hF3, hN3⟩ := R3
      have hF03 := hF.trans hF3
      go_wp2_with (go_at_call 35; refine (equal_any [0, 3] [0, 16] a3 ao c3 co _ hO3.rd (hO.rd.fr0 hF3 (fun _ _ h => h)) (by simp) (by simp)).mono ?_)
      intro e4 w4 R4
      obtain ⟨rfl, n4, rfl⟩ := R4
      go_wp2
      go_roundw
      case rel => exact ⟨1, a3, c3, ob3, [0, 3], rfl, rfl, hO3, hF03.drewN n4, .inr ⟨rfl, rfl⟩⟩
      case measure => simp [intOf]
    · go_wp2_with (go_at_call 15; refine (round_any 2 oneL a c 0 [0, 3] ao co _ (hL.fr0 hF (fun _ _ h => h)) (by simp) one_wf hO.rd (by simp)).mono ?_)
      intro e3 w3 R3
      rw [show roundE 2 oneL 0 [0, 3] = .ok [0, 3] from rfl] at R3
      obtain ⟨a3, c3, ob3, rfl, hO3, hF3, hN3⟩ := R3
      have hF03 := hF.trans hF3
      go_wp2_with (go_at_call 35; refine (equal_any [0, 3] [0, 3] a3 ao c3 co _ hO3.rd (hO.rd.fr0 hF3 (fun _ _ h => h)) (by simp) (by simp)).mono ?_)
      intro e4 w4 R4
      obtain ⟨rfl, n4, rfl⟩ := R4
      go_wp2
      go_returns
      exact ⟨_, rfl, hF03.drewN n4⟩

set_option maxRecDepth 100000 in
set_option maxHeartbeats 2000000 in
theorem bellOwn_any (n : Int) (l : List Lk) (a : Option Addr) (c : Nat) (to : Int) (d : List Int) (da : Option Addr) (dc : Nat) (x : Int) (w : World) (hg : Hd w) (hL : Links w.heap a l) (hl : l.length ≤ 9223372036854775807) (hw : ∀ x ∈ l, (Lit.int .i64 x.a).wf = true ∧ (Lit.int .i64 x.b).wf = true ∧ (Lit.int .i64 x.c).wf = true) (hD : Ints w.heap da d) (hdl : d.length * 8 ≤ 140737488351232) :
    Calls Tryd.prog 4 #[.int .i64 n, .slice a l.length c, .int .i64 to, .slice da d.length dc, .int .i64 x] w (RetV w (.bool true)) := by
  go_enter Tryd.func4, Tryd.ntmps4
  go_wp2_with (go_at_call 14; refine (copy_any da d dc _ rfl hdl hD).mono ?_)
  intro e1 w1 R1
  obtain ⟨g1, c1, rfl, hO1, hF1, hN1⟩ := R1
  go_wp2_with (go_at_call 15; refine (round_any n l a c to d _ c1 _ (hL.fr0 hF1 (fun _ _ h => h)) hl hw hO1.rd (by omega)).mono ?_)
  intro e2 w2 R2
  cases hR : roundE n l to d with
  | error k =>
    rw [hR] at R2
    obtain ⟨rfl, hF2⟩ := R2
    have hF02 := hF1.trans hF2
    go_wp2_with (go_at_call 17; refine (one_any _).mono ?_)
    rintro e3 w3 ⟨rfl, rfl⟩
    go_wp2_with (go_at_call 16; refine (run_two _ 1 _ (one_links w2)).mono ?_)
    intro e4 w4 R4
    obtain ⟨v4, rfl, hF4⟩ := R4
    have hF24 := ((Fr.refl (fun _ => False) w2).alloc (.cells #[.int .i64 0, .int .i64 1, .int .i64 3] 32)).trans hF4
    have hO4 := (hO1.fr hF2 (fun _ _ h => h)).fr hF24 (fun _ _ h => h)
    have hF04 := hF02.trans hF24
    have hD4 := hD.fr0 hF04 (fun _ _ h => h)
    go_wp2_with (go_at_call 18; refine (ints_any d d _ da c1 dc _ hO4.rd hD4 (by omega) (by omega)).mono ?_)
    intro e5 w5 R5
    obtain ⟨rfl, n5, rfl⟩ := R5
    have hF05 := hF04.drewN n5
    go_wp2_with (go_at_call 19; refine (spoil_nil none 0 x _).mono ?_)
    rintro e6 w6 ⟨rfl, hF6⟩
    have hO6 := hO4.fr ((Fr.refl (fun _ => False) w4).drewN n5 |>.trans hF6) (fun _ _ h => h)
    have hF06 := hF05.trans hF6
    go_wp2_with (go_at_call 18; refine (ints_any d d _ da c1 dc _ hO6.rd (hD.fr0 hF06 (fun _ _ h => h)) (by omega) (by omega)).mono ?_)
    intro e7 w7 R7
    obtain ⟨rfl, n7, rfl⟩ := R7
    have hF07 := hF06.drewN n7
    go_wp2_with (go_at_call 15; refine (round_any n l a c to d da dc _ (hL.fr0 hF07 (fun _ _ h => h)) hl hw (hD.fr0 hF07 (fun _ _ h => h)) (by omega)).mono ?_)
    intro e8 w8 R8
    rw [hR] at R8
    obtain ⟨rfl, hF8⟩ := R8
    have hF08 := hF07.trans hF8
    go_wp2_with (go_at_call 11; refine (told2_any (some k) (some k) _ (hg.none hF08)).mono ?_)
    rintro e9 w9 ⟨rfl, hF9⟩
    go_wp2
    go_ret
    exact RetV.mk rfl rfl (hF08.trans hF9)
  | ok out =>
    rw [hR] at R2
    obtain ⟨a2, c2, ob2, rfl, hO2, hF2, hN2⟩ := R2
    have hF02 := hF1.trans hF2
    go_wp2_with (go_at_call 17; refine (one_any _).mono ?_)
    rintro e3 w3 ⟨rfl, rfl⟩
    go_wp2_with (go_at_call 16; refine (run_two _ 1 _ (one_links w2)).mono ?_)
    intro e4 w4 R4
    obtain ⟨v4, rfl, hF4⟩ := R4
    have hF24 := ((Fr.refl (fun _ => False) w2).alloc (.cells #[.int .i64 0, .int .i64 1, .int .i64 3] 32)).trans hF4
    have hO4 := (hO1.fr hF2 (fun _ _ h => h)).fr hF24 (fun _ _ h => h)
    have hF04 := hF02.trans hF24
    have hD4 := hD.fr0 hF04 (fun _ _ h => h)
    go_wp2_with (go_at_call 18; refine (ints_any d d _ da c1 dc _ hO4.rd hD4 (by omega) (by omega)).mono ?_)
    intro e5 w5 R5
    obtain ⟨rfl, n5, rfl⟩ := R5
    have hF05 := hF04.drewN n5
    go_wp2_with (go_at_call 19; refine (spoil_own a2 c2 ob2 out x _ ((hO2.fr hF24 (fun _ _ h => h)).fr ((Fr.refl (fun _ => False) w4).drewN n5) (fun _ _ h => h))).mono ?_)
    rintro e6 w6 ⟨rfl, hF6⟩
    have hO6 : Own w6.heap 3 1 (some ⟨g1, 0, none⟩) d.length c1 (ivals .i64 d) (some g1) := (hO4.fr ((Fr.refl (fun _ => False) w4).drewN n5) (fun _ _ h => h)).fr hF6 (fun g h h' => by cases h; have := hN2 _ h'; have := hO1.lt _ rfl; omega)
    have hF06 : Fr (fun _ => False) w w6 := hF05.trans' hF6 (fun i hi h => by have := hN2 _ h; have := hF1.size; omega)
    go_wp2_with (go_at_call 18; refine (ints_any d d _ da c1 dc _ hO6.rd (hD.fr0 hF06 (fun _ _ h => h)) (by omega) (by omega)).mono ?_)
    intro e7 w7 R7
    obtain ⟨rfl, n7, rfl⟩ := R7
    have hF07 := hF06.drewN n7
    go_wp2_with (go_at_call 15; refine (round_any n l a c to d da dc _ (hL.fr0 hF07 (fun _ _ h => h)) hl hw (hD.fr0 hF07 (fun _ _ h => h)) (by omega)).mono ?_)
    intro e8 w8 R8
    rw [hR] at R8
    obtain ⟨a8, c8, ob8, rfl, hO8, hF8, hN8⟩ := R8
    have hF08 := hF07.trans hF8
    go_wp2_with (go_at_call 11; refine (told2_any none none _ (hg.none hF08)).mono ?_)
    rintro e9 w9 ⟨rfl, hF9⟩
    go_wp2
    go_ret
    exact RetV.mk rfl rfl (hF08.trans hF9)
end Go.Proofs.YtakkljdeencfbaaDoor
