/- PlanOwn's walk: lengths that are handed in stay, and a plan told is the asker's, at every list of lengths. -/
import Derived.Test.YtbmeeglehbaggaaDoorPlanLaw
import Derived.Test.YtbmeeglehbaggaaDoorNetsOwn
import Derived.Test.YtbmeeglehbaggaaDoorNetSame
import Derived.Test.YtbmeeglehbaggaaDoorIntsOwn
import Derived.Test.YtbmeeglehbaggaaDoorSame
import Derived.Test.YtbmeeglehbaggaaDoorTold
namespace Go.Proofs.YtbmeeglehbaggaaDoor
open Go.RowKit

theorem RetFit.yes2 {w w' : World} {a n : Int} {l : List Int} {e : Ending} (h : fitE a n l = none) (hr : RetFit w a n l e w') : RetNew w 38 2 l.length ((fitO a l).flatMap Nt.cells) (fun v => .tuple #[v, .nilIface]) e w' := by
  unfold RetFit at hr; rwa [h] at hr
theorem RetFit.no2 {w w' : World} {a n : Int} {l : List Int} {e : Ending} {er : Int} (h : fitE a n l = some er) (hr : RetFit w a n l e w') : RetV w (.tuple #[.slice none 0 0, errv er]) e w' := by
  unfold RetFit at hr; rwa [h] at hr
/-- What a plan tells, be it one or none. -/
def fitR (a n : Int) (l : List Int) : List Nt := match fitE a n l with
  | some _ => []
  | none => fitO a l
theorem fitR_len (a n : Int) (l : List Int) : (fitR a n l).length ≤ 64 := by
  unfold fitR
  cases h : fitE a n l with
  | some _ => simp
  | none =>
    obtain ⟨hr, -⟩ := fitE_parts h
    obtain ⟨-, h2, -⟩ := roomE_parts hr
    show (fitO a l).length ≤ 64
    rw [fitO, fitL_len]; exact h2
/-- Its parts, in one form. -/
def RetPlan (w : World) (a n : Int) (l : List Int) (K : Nat) (e : Ending) (w' : World) : Prop :=
  ∃ x c ob, e = .returned (.tuple #[.slice x K c, errT (fitE a n l)]) ∧ Ownd w'.heap 38 2 x K c ((fitR a n l).flatMap Nt.cells) ob ∧ Fr (fun _ => False) w w' ∧ ∀ g, ob = some g → w.heap.size ≤ g
theorem RetFit.both {w w' : World} {a n : Int} {l : List Int} {e : Ending} {K : Nat} (hK : K = (fitR a n l).length) (hr : RetFit w a n l e w') : RetPlan w a n l K e w' := by
  cases h : fitE a n l with
  | none =>
    obtain ⟨x, c, ob, rfl, hO, hF, hN⟩ := hr.yes2 h
    have e1 : fitR a n l = fitO a l := by unfold fitR; rw [h]
    have e2 : K = l.length := by rw [hK, e1, fitO, fitL_len]
    exact ⟨x, c, ob, by rw [h, e2]; rfl, by rw [e1, e2]; exact hO, hF, hN⟩
  | some q =>
    obtain ⟨rfl, hF⟩ := hr.no2 h
    have e1 : fitR a n l = [] := by unfold fitR; rw [h]
    have e2 : K = 0 := by rw [hK, e1]; rfl
    exact ⟨none, 0, none, by rw [h, e2]; rfl, by rw [e1, e2]; exact Ownd.nil _ _ _, hF, fun _ h => nomatch h⟩
theorem fit_one2 : fitE 0 0 [0] = none := by decide +kernel

set_option maxRecDepth 100000 in
set_option maxHeartbeats 4000000 in
theorem planOwn_any (a n : Int) (l : List Int) (al : Option Addr) (cl : Nat) (x : Int) (w : World) (hg : Hd w) (ha : 0 ≤ a ∧ a < 4294967296) (hL : Ints w.heap al l) (hl : l.length * 8 ≤ 140737488351232) :
    Calls Tryd.prog 4 #[.agg #[.int .u32 a, .int .i64 n], .slice al l.length cl, .int .i64 x] w (RetV w (.bool true)) := by
  obtain ⟨w0, hw0⟩ : ∃ x : World, x = w.alloc (.cells #[.int .u32 a, .int .i64 n] 38) := ⟨_, rfl⟩
  have hF0 : Fr (fun _ => False) w w0 := hw0 ▸ ((Fr.refl (fun _ => False) w).alloc _)
  have hB0 : Blk w0.heap w.heap.size 38 [.int .u32 a, .int .i64 n] := by rw [hw0]; exact Blk.made w 38 [.int .u32 a, .int .i64 n]
  have hf := intsCopy_any l al cl w0 (hL.fr hF0 (fun _ _ _ h => h)) rfl hl
  obtain ⟨K, hK⟩ : ∃ K, K = (fitR a n l).length := ⟨_, rfl⟩
  have hK64 : K ≤ 64 := hK ▸ fitR_len a n l
  have HK := Lib.hid hK
  have HL := Lib.hid hL
  have HG := Lib.hid hg
  have HF0 := Lib.hid hF0
  have HB0 := Lib.hid hB0
  have hg0 := hF0.size
  clear hL hg hF0 hB0 hK
  go_enter Tryd.func4, Tryd.ntmps4
  go_wp2_with (fail)
  rw [← hw0]
  clear hw0
  refine hf.mono ?_
  rintro e1 w1 ⟨a1, c1, ob1, rfl, hO1, hF1, hN1⟩
  have hF01 := HF0.out.trans hF1
  have hB1 := HB0.out.fr hF1 (fun h => h)
  have hc1 := hB1.cell 0
  have hc1' := hB1.cell 1
  simp only [List.getElem?_cons_zero, List.getElem?_cons_succ] at hc1 hc1'
  have hf := fit_any a n l a1 c1 w1 ha hO1.rd (by omega)
  clear HF0 HB0 hF1
  go_wp2_with (fail)
  refine hf.mono ?_
  intro e2 w2 R2
  obtain ⟨a2, c2, ob2, rfl, hO2, hF2, hN2⟩ := R2.both HK.out
  have hs1 := hF01.size
  have hlB := hB1.lt
  have hF02 := hF01.trans hF2
  have hO12 := hO1.fr hF2 (fun _ _ h => h)
  have hB2 := hB1.fr hF2 (fun h => h)
  have hs2 := hF2.size
  have hlit := rd_lit1 w2 (.cells #[.int .u32 0, .int .i64 0] 38) 3 [.int .i64 0]
  have hf := fit_any 0 0 [0] (some ⟨w2.heap.size, 0, none⟩) 1 (w2.alloc (.cells #[.int .i64 0] 3)) (by omega) (rd_lit w2 3 [.int .i64 0]) (by simp)
  have hF2a := hF02.alloc (.cells #[.int .i64 0] 3)
  have hlt1 := hO1.lt
  clear R2 hF01 hO1 hF2 hB1 hc1 hc1' hlit hF02
  go_wp2_with (fail)
  refine hf.mono ?_
  intro e3 w3 R3
  obtain ⟨x3, c3, ob3, rfl, -, hF3, -⟩ := R3.yes2 fit_one2
  have hFa := ((Fr.refl (fun _ => False) w2).alloc (.cells #[.int .i64 0] 3)).trans hF3
  have hF03 := hF2a.trans hF3
  have hO13 := hO12.fr hFa (fun _ _ h => h)
  have hO23 := hO2.fr hFa (fun _ _ h => h)
  have hB3 := hB2.fr hFa (fun h => h)
  have hlt2 := hO2.lt
  have hs3 := hFa.size
  have h4 := netsCopy_any (fitR a n l) a2 c2 w3 (by show Rd _ _ _ _ _; rw [← HK.out]; exact hO23.rd) HK.out (by omega)
  clear R3 hf hF3 hFa hF2a hO12 hO2 hB2
  go_wp2_with (fail)
  refine h4.mono ?_
  rintro e4 w4 ⟨a4, c4, ob4, rfl, hO4, hF4, hN4⟩
  have hF04 := hF03.trans hF4
  have hO14 := hO13.fr hF4 (fun _ _ h => h)
  have hO24 := hO23.fr hF4 (fun _ _ h => h)
  have hB4 := hB3.fr hF4 (fun h => h)
  have h5 := netsSpoil_any ob2 a2 c2 (fitR a n l) x w4 HK.out.symm hO24
  clear h4 hF03 hF4 hO13 hO23 hB3
  go_wp2_with (fail)
  refine h5.mono ?_
  rintro e5 w5 ⟨rfl, hF5⟩
  have hO15 := hO14.fr hF5 (fun g hg hs => by have h1 := hN2 g hs; have h2 := hlt1 g hg; omega)
  have hO45 := hO4.fr hF5 (fun g hg hs => by have h1 := hN4 g hg; have h2 := hlt2 g hs; omega)
  have hB5 := hB4.fr hF5 (fun hs => by have h1 := hN2 _ hs; omega)
  have hF05 := hF04.trans' hF5 (fun i hi hs => by have h1 := hN2 i hs; omega)
  have h6 := ints_any' l l a1 al c1 cl w5 hO15.rd (HL.out.fr hF05 (fun _ _ _ h => h)) (by omega) (by omega) rfl rfl
  rw [decide_eq_true rfl] at h6
  clear h5 hF04 hF5 hO14 hO24 hO4 hB4
  go_wp2_with (fail)
  refine h6.mono ?_
  intro e6 w6 R6
  obtain ⟨rfl, hF6⟩ := R6.v
  have hF06 := hF05.trans hF6
  have hO46 := hO45.fr hF6 (fun _ _ h => h)
  have hB6 := hB5.fr hF6 (fun h => h)
  have hc6 := hB6.cell 0
  have hc6' := hB6.cell 1
  simp only [List.getElem?_cons_zero, List.getElem?_cons_succ] at hc6 hc6'
  have h7 := fit_any a n l al cl w6 ha (HL.out.fr hF06 (fun _ _ _ h => h)) (by omega)
  clear h6 R6 hF05 hF6 hO15 hO45 hB5
  go_wp2_with (fail)
  refine h7.mono ?_
  intro e7 w7 R7
  obtain ⟨a7, c7, ob7, rfl, hO7, hF7, -⟩ := R7.both HK.out
  have hF07 := hF06.trans hF7
  have hO47 := hO46.fr hF7 (fun _ _ h => h)
  have h8 := snets_any (fitR a n l) (fitR a n l) a7 a4 c7 c4 w7 (by show Rd _ _ _ _ _; rw [← HK.out]; exact hO7.rd) (by show Rd _ _ _ _ _; rw [← HK.out]; exact hO47.rd) (by rw [← HK.out]; omega) (by rw [← HK.out]; omega) HK.out HK.out
  rw [decide_eq_true rfl] at h8
  clear h7 R7 hF06 hF7 hO46 hB6 hc6 hc6'
  go_wp2_with (fail)
  refine h8.mono ?_
  intro e8 w8 R8
  obtain ⟨rfl, hF8⟩ := R8.v
  have hF08 := hF07.trans hF8
  have h9 := told2_any (fitE a n l) (fitE a n l) w8 (HG.out.none hF08)
  rw [beq_self_eq_true] at h9
  clear h8 R8 hF07 hF8 hO47 hO7
  go_wp2_with (fail)
  refine h9.mono ?_
  intro e9 w9 R9
  obtain ⟨rfl, hF9⟩ := R9
  have hF09 := hF08.trans hF9
  clear h9 hF08 hF9
  go_wp2
  go_ret
  exact RetV.mk (x := .bool true) rfl rfl hF09
end Go.Proofs.YtbmeeglehbaggaaDoor
