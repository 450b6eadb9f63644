import Derived.Test.YtakkljdeencfbaaDoorFirst
import Derived.Test.YtakkljdeencfbaaDoorLength
import Derived.Test.YtakkljdeencfbaaDoorOwn1
import Derived.Test.YtakkljdeencfbaaDoorTold
import Derived.Test.YtakkljdeencfbaaDoorOne
namespace Go.Proofs.YtakkljdeencfbaaDoor
open Go.RowKit

def unL : Except Int (List Int) → List Int × Option Int
  | .error k => ([], some k)
  | .ok o => (o, none)
/-- A list and an error, one way or the other. -/
theorem RetL.out {w w' : World} {r : Except Int (List Int)} {e : Ending} (h : RetL w r e w') :
    ∃ out er a c ob, unL r = (out, er) ∧ e = .returned (.tuple #[.slice a out.length c, errT er]) ∧ Own w'.heap 3 1 a out.length c (ivals .i64 out) ob ∧ Fr (fun _ => False) w w' ∧ ∀ g, ob = some g → w.heap.size ≤ g := by
  cases r with
  | error k => obtain ⟨rfl, hF⟩ := h; exact ⟨[], some k, none, 0, none, rfl, rfl, Own.nil _ _ _, hF, fun g h => nomatch h⟩
  | ok o => obtain ⟨a, c, ob, rfl, hO, hF, hN⟩ := h; exact ⟨o, none, a, c, ob, rfl, rfl, hO, hF, hN⟩
def unI : Except Int Int → Int × Option Int
  | .error k => (0, some k)
  | .ok o => (o, none)
theorem RetInt.out {w w' : World} {r : Except Int Int} {e : Ending} (h : RetInt w r e w') : ∃ v er, unI r = (v, er) ∧ e = .returned (.tuple #[.int .i64 v, errT er]) ∧ Fr (fun _ => False) w w' := by
  cases r with
  | error k => exact ⟨0, some k, rfl, h⟩
  | ok o => exact ⟨o, none, rfl, h⟩
theorem firstGo_len {n : Nat} {C : Nat → Nat → Int} {far : List Int} {b : Nat} : ∀ (f cur : Nat) (acc : List Int) (out : List Int), firstGo n C far b f cur acc = .ok out → out.length ≤ acc.length + f
  | 0, _, _, _, h => by simp [firstGo] at h
  | f + 1, cur, acc, out, h => by
    unfold firstGo at h
    split at h
    · cases h; omega
    · split at h
      · cases h
      · have := firstGo_len f _ _ _ h
        simp at this; omega
theorem FirstRes.len {n : Int} {l : List Lk} {a b : Int} {r : Except Int (List Int)} (h : FirstRes n l a b r) : (unL r).1.length ≤ 21 := by
  cases hr : r with
  | error k => simp [unL]
  | ok out =>
    rw [hr] at h
    unfold FirstRes at h
    split at h
    · cases h
    · split at h
      · cases h
      · obtain ⟨far, _, h⟩ := h
        have := firstGo_len _ _ _ _ h.symm
        simpa [unL] using this
theorem first_one {r : Except Int (List Int)} (h : FirstRes 2 oneL 0 1 r) : r = .ok [0, 1] := by
  refine h.eq ?_
  unfold FirstRes
  rw [show farErr 2 oneL 1 = none from rfl]
  simp only
  rw [if_neg (by decide)]
  refine ⟨[3, 0], ⟨rfl, rfl, fun v hv => ?_, fun u k hu hk => ?_, fun v hv _ => ?_⟩, rfl⟩
  · rcases (by omega : v = 0 ∨ v = 1) with rfl | rfl <;> decide
  · rcases (by omega : u = 0 ∨ u = 1) with rfl | rfl <;> rcases (by omega : k = 0 ∨ k = 1) with rfl | rfl <;> decide
  · rcases (by omega : v = 0 ∨ v = 1) with rfl | rfl
    · exact Come.step (u := 1) Come.here (by omega) (by omega)
    · exact Come.here

set_option maxRecDepth 100000 in
set_option maxHeartbeats 4000000 in
theorem waysOwn_any (n : Int) (l : List Lk) (al : Option Addr) (c : Nat) (a b : Int) (v : List Int) (av : Option Addr) (cv : Nat) (x : Int) (w : World) (hg : Hd w) (hL : Links w.heap al l) (hl : l.length ≤ 9223372036854775807) (hw : ∀ x ∈ l, (Lit.int .i64 x.a).wf = true ∧ (Lit.int .i64 x.b).wf = true ∧ (Lit.int .i64 x.c).wf = true) (hV : Ints w.heap av v) (hv : v.length * 8 ≤ 140737488351232) :
    Calls Tryd.prog 7 #[.int .i64 n, .slice al l.length c, .int .i64 a, .int .i64 b, .slice av v.length cv, .int .i64 x] w (RetV w (.bool true)) := by
  go_enter Tryd.func7, Tryd.ntmps7
  go_wp2_with (fail)
  refine (copy_any av v cv _ rfl hv hV).mono ?_
  rintro e1 w1 ⟨g1, c1, rfl, hO1, hF1, hN1⟩
  go_wp2_with (fail)
  refine (length_any n l al c v _ c1 _ (hL.fr0 hF1 (fun _ _ h => h)) hl hw hO1.rd (by omega)).mono ?_
  intro e2 w2 R2
  obtain ⟨lv, ler, hi1, rfl, hF2⟩ := R2.out
  have HI1 := Lib.hid hi1
  clear hi1 R2
  have hF02 := hF1.trans hF2
  go_wp2_with (fail)
  refine (first_any n l al c a b _ (hL.fr0 hF02 (fun _ _ h => h)) hl hw).mono ?_
  rintro e3 w3 ⟨r, hr, R3⟩
  have hrl := hr.len
  obtain ⟨out, er, a3, c3, ob3, hu, rfl, hO3, hF3, hN3⟩ := R3.out
  have hF03 := hF02.trans hF3
  rw [hu] at hrl
  simp only at hrl
  have HU := Lib.hid hu
  have HR := Lib.hid hr
  clear hu hr R3
  go_wp2_with (fail)
  refine (one_any _).mono ?_
  rintro e4 w4 ⟨rfl, rfl⟩
  go_wp2_with (fail)
  refine (first_any 2 oneL _ 1 0 1 _ (one_links w3) (by simp) one_wf).mono ?_
  rintro e5 w5 ⟨r5, hr5, R5⟩
  obtain rfl := first_one hr5
  obtain ⟨_, _, a5, c5, ob5, hu5, rfl, -, hF5, -⟩ := R5.out
  cases hu5
  rw [show ([(0 : Int), 1]).length = 2 from rfl, show errT none = .nilIface from rfl]
  have hF35 := ((Fr.refl (fun _ => False) w3).alloc (.cells #[.int .i64 0, .int .i64 1, .int .i64 3] 32)).trans hF5
  have hF05 := hF03.trans hF35
  clear R5 hr5
  go_wp2_with (fail)
  refine (ints_any v v _ av c1 cv _ (hO1.fr (hF2.trans (hF3.trans hF35)) (fun _ _ h => h)).rd (hV.fr0 hF05 (fun _ _ h => h)) (by omega) (by omega)).mono ?_
  rintro e6 w6 ⟨rfl, n6, rfl⟩
  have hF06 := hF05.drewN n6
  have hO36 := (hO3.fr hF35 (fun _ _ h => h)).fr ((Fr.refl (fun _ => False) w5).drewN n6) (fun _ _ h => h)
  go_wp2_with (fail)
  refine (copy_any a3 out c3 _ rfl (by omega) hO36.rd).mono ?_
  rintro e7 w7 ⟨g7, c7, rfl, hO7, hF7, hN7⟩
  have hO37 := hO36.fr hF7 (fun _ _ h => h)
  have hF07 := hF06.trans hF7
  go_wp2_with (fail)
  refine (spoil_own a3 c3 ob3 out x _ hO37).mono ?_
  rintro e8 w8 ⟨rfl, hF8⟩
  have hlt3 := hO36.lt
  have hO78 := hO7.fr hF8 (fun g h h' => by cases h; have := hlt3 _ h'; omega)
  have hF08 : Fr (fun _ => False) w w8 := hF07.trans' hF8 (fun i hi h => by have := hN3 _ h; have := hF02.size; omega)
  go_wp2_with (fail)
  refine (first_any n l al c a b _ (hL.fr0 hF08 (fun _ _ h => h)) hl hw).mono ?_
  rintro e9 w9 ⟨r9, hr9, R9⟩
  obtain rfl := hr9.eq HR.out
  obtain ⟨out9, er9, a9, c9, ob9, hu9, rfl, hO9, hF9, -⟩ := R9.out
  obtain ⟨rfl, rfl⟩ : out = out9 ∧ er = er9 := by have := HU.out.symm.trans hu9; cases this; exact ⟨rfl, rfl⟩
  have hF09 := hF08.trans hF9
  clear R9 hr9 hu9
  go_wp2_with (fail)
  refine (ints_any out out a9 _ c9 c7 _ hO9.rd (hO78.fr hF9 (fun _ _ h => h)).rd (by omega) (by omega)).mono ?_
  rintro e10 w10 ⟨rfl, n10, rfl⟩
  have hF10 := hF09.drewN n10
  go_wp2_with (fail)
  refine (told2_any er er _ (hg.none hF10)).mono ?_
  rintro e11 w11 ⟨rfl, hF11⟩
  have hF011 := hF10.trans hF11
  go_wp2_with (fail)
  refine (length_any n l al c v av cv _ (hL.fr0 hF011 (fun _ _ h => h)) hl hw (hV.fr0 hF011 (fun _ _ h => h)) (by omega)).mono ?_
  intro e12 w12 R12
  obtain ⟨lv', ler', hi2, rfl, hF12⟩ := R12.out
  obtain ⟨rfl, rfl⟩ : lv = lv' ∧ ler = ler' := by have := HI1.out.symm.trans hi2; cases this; exact ⟨rfl, rfl⟩
  clear R12 hi2
  have hF012 := hF011.trans hF12
  go_wp2_with (fail)
  refine (told2_any ler ler _ (hg.none hF012)).mono ?_
  rintro e13 w13 ⟨rfl, hF13⟩
  go_wp2
  go_ret
  exact RetV.mk rfl rfl (hF012.trans hF13)
end Go.Proofs.YtakkljdeencfbaaDoor
