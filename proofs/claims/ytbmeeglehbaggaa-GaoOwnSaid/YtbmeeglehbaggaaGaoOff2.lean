import Derived.Test.YtbmeeglehbaggaaGaoOff
import Derived.Deep.CutBlock
import Derived.Deep.CutRange
import Derived.Deep.DeepCutAuto
namespace Go
open Go.RowKit
theorem Ownd.ne_type {H : Array Obj} {E1 E2 : TypeId} {s1 s2 : Nat} {a1 a2 : Option Addr} {n1 n2 c1 c2 : Nat} {x1 x2 : List Value} {o1 o2 : Option Nat} (h1 : Ownd H E1 s1 a1 n1 c1 x1 o1) (h2 : Ownd H E2 s2 a2 n2 c2 x2 o2) (hE : E1 ≠ E2) {g : Nat} (e1 : o1 = some g) : o2 ≠ some g := fun e2 => by
  rcases h1.is with ⟨_, _, _, h⟩ | ⟨g1, cur1, _, h, k1, _⟩
  · rw [h] at e1; cases e1
  · rw [h] at e1; cases e1
    rcases h2.is with ⟨_, _, _, h'⟩ | ⟨g2, cur2, _, h', k2, _⟩
    · rw [h'] at e2; cases e2
    · rw [h'] at e2; cases e2
      rw [k1] at k2
      exact hE (by cases k2; rfl)
/-- A literal of two rows. -/
theorem Mat.two (w : World) (r0 r1 : List Int) (a0 a1 : Option Addr) (c0 c1 n0 n1 : Nat) (U : TypeId) (h0 : Ints w.heap a0 r0) (h1 : Ints w.heap a1 r1) (e0 : n0 = r0.length) (e1 : n1 = r1.length) (l0 : r0.length ≤ 9223372036854775807) (l1 : r1.length ≤ 9223372036854775807) :
    Mat (w.alloc (.cells #[.slice a0 n0 c0, .slice a1 n1 c1] U)).heap (some ⟨w.heap.size, 0, none⟩) [r0, r1] (fun i => if i = 0 then a0 else a1) (fun i => if i = 0 then c0 else c1) := by
  subst e0; subst e1
  have h2 := Blk.made w U [.slice a0 r0.length c0, .slice a1 r1.length c1]
  have f := (Fr.refl (fun _ => False) w).alloc (.cells #[.slice a0 r0.length c0, .slice a1 r1.length c1] U)
  refine ⟨?_, ?_, ?_⟩
  · have := h2.rd (sz := 1) (n := 2) (off := 0) (by simp)
    have e : (List.range [r0, r1].length).map (fun i => Value.slice (if i = 0 then a0 else a1) (nth [r0, r1] i).length (if i = 0 then c0 else c1)) = [.slice a0 r0.length c0, .slice a1 r1.length c1] := by
      simp [List.range_succ, nth]
    rw [e]
    simpa using this
  · intro i hi
    have hi' : i < 2 := hi
    rcases Nat.lt_succ_iff_lt_or_eq.1 hi' with h | h
    · obtain rfl : i = 0 := by omega
      exact h0.fr f (fun _ _ _ h => h)
    · subst h
      exact h1.fr f (fun _ _ _ h => h)
  · intro i hi
    have hi' : i < 2 := hi
    rcases Nat.lt_succ_iff_lt_or_eq.1 hi' with h | h
    · obtain rfl : i = 0 := by omega
      exact l0
    · subst h; exact l1
end Go
namespace Go.Proofs.Ytbmeeglehbaggaa
open Go.RowKit

theorem offersT_succ (W : Nat → Nat → Int) (l : List Wy) (i k : Nat) : offersT W l i (k + 1) = offersT W l i k ++ (offer W i k (nth l k)).toList := by
  unfold offersT
  rw [List.range_succ, List.filterMap_append, List.filterMap_cons, List.filterMap_nil]
  cases offer W i k (nth l k) <;> rfl
/-- A list of ways that can be read. -/
structure WRd (H : Array Obj) (a : Option Addr) (R : List WyR) : Prop where
  top : Recs H a 2 WyR.cells R
  row : ∀ x ∈ R, Ints H x.A x.p ∧ x.p.length ≤ 100
theorem WRd.fr {w w' : World} {a : Option Addr} {R : List WyR} (h : WRd w.heap a R) (f : Fr (fun _ => False) w w') : WRd w'.heap a R :=
  ⟨h.top.fr f (fun _ _ _ h => h), fun x hx => ⟨(h.row x hx).1.fr f (fun _ _ _ h => h), (h.row x hx).2⟩⟩
/-- Each way's list in a block of its own, from 'base' on. -/
def WRow (base : Nat) (H : Array Obj) (x : WyR) : Prop := ∃ g, x.A = some ⟨g, 0, none⟩ ∧ Ownd H 3 1 x.A x.p.length x.C (ivals .i64 x.p) (some g) ∧ base ≤ g
theorem WRow.fr {w w' : World} {S : Nat → Prop} {base : Nat} {x : WyR} (h : WRow base w.heap x) (f : Fr S w w') (hs : ∀ g, x.A = some ⟨g, 0, none⟩ → ¬ S g) : WRow base w'.heap x := by
  obtain ⟨g, h1, h2, h3⟩ := h
  exact ⟨g, h1, h2.fr f (fun g' e => by cases e; exact hs g h1), h3⟩
theorem WRow.fr0 {w w' : World} {base : Nat} {x : WyR} (h : WRow base w.heap x) (f : Fr (fun _ => False) w w') : WRow base w'.heap x := h.fr f (fun _ _ h => h)
/-- What is offered. -/
def RetOff (w : World) (L : List Wy) (e : Ending) (w' : World) : Prop :=
  ∃ (R : List WyR) (a : Option Addr) (n c : Nat) (ob : Option Nat), e = .returned (.slice a n c) ∧ n = R.length ∧ R.map WyR.wy = L ∧ Ownd w'.heap 65 2 a n c (R.flatMap WyR.cells) ob ∧ (∀ x ∈ R, WRow w.heap.size w'.heap x) ∧ Fr (fun _ => False) w w' ∧ ∀ g, ob = some g → w.heap.size ≤ g

set_option maxRecDepth 100000 in
set_option maxHeartbeats 8000000 in
theorem offers_any {base N i : Nat} {T : List (List Int)} {at' : Option Addr} {ct : Nat} {obt : Option Nat} {G C : Nat → Nat} (R : List WyR) (aw : Option Addr) (cw : Nat) (w : World) (hM : OMat w.heap base 22 3 at' ct obt T G C) (hT : Sq N T) (hR : WRd w.heap aw R) (hl : R.length = N) (hi : i < N) (hN : N ≤ 8) :
    Calls Try.prog 52 #[.slice at' N ct, .slice aw N cw, .int .i64 i] w (RetOff w (offersL (at2 T) (R.map WyR.wy) i)) := by
  have HM := Lib.hid hM
  have HT := Lib.hid hT
  have HR := Lib.hid hR
  have HL := Lib.hid hl
  have HV : Hid (offersL (at2 T) (R.map WyR.wy) i = offersT (at2 T) (R.map WyR.wy) i N) := Lib.hid (by unfold offersL; rw [List.length_map, hl])
  clear hM hT hR hl
  go_enter Try.func52, Try.ntmps52
  go_wp2
  go_loopw [12, 7] (fun s12 s7 wr => ∃ (k : Nat) (R' : List WyR) (a' : Option Addr) (m c' : Nat) (ob' : Option Nat), k ≤ N ∧ s12 = .int .i64 k ∧ s7 = .slice a' m c' ∧ Hid (m = R'.length) ∧ m ≤ k ∧ Hid (R'.map WyR.wy = offersT (at2 T) (R.map WyR.wy) i k) ∧ Ownd wr.heap 65 2 a' m c' (R'.flatMap WyR.cells) ob' ∧ (∀ x ∈ R', WRow w.heap.size wr.heap x) ∧ Fr (fun _ => False) w wr ∧ (∀ g, ob' = some g → w.heap.size ≤ g)) (fun s12 _ _ => N - (intOf s12).toNat)
  case atStart => exact ⟨0, [], none, 0, 0, none, by omega, rfl, rfl, Lib.hid rfl, Nat.le_refl _, Lib.hid rfl, Ownd.nil _ _ _, (fun _ h => nomatch h), Fr.refl _ _, (fun _ h => nomatch h)⟩
  case round =>
    obtain ⟨k, R', a', m, c', ob', hk, rfl, rfl, hm, hmk, hW, hO, hRows, hF, hNob⟩ := hrel
    have HRows := Lib.hid hRows
    clear hRows
    by_cases hkN : k < N
    · have hkR : k < R.length := by rw [HL.out]; exact hkN
      obtain ⟨b, off, rfl, hbb, hcs⟩ := Recs.pos HR.out.top WyR.cells_len (by omega) (by omega)
      have d0 := (hF.cell (p := ⟨b, off + (k * 2 + 0), none⟩) hbb (fun h => h)).trans (hcs w rfl k 0 hkR (by omega))
      have d1 := (hF.cell (p := ⟨b, off + (k * 2 + 1), none⟩) hbb (fun h => h)).trans (hcs w rfl k 1 hkR (by omega))
      have hbw := Nat.lt_of_lt_of_le hbb hF.size
      obtain ⟨hIx, hxl⟩ := HR.out.row _ (nth_mem R k hkR)
      obtain ⟨bt, ot, rfl, x1, x2, -⟩ := OMat.cells (HM.out.fr hF (fun _ _ _ h => h)) HT.out.len HT.out.rows i k hi hkN
      obtain ⟨_, _, hh, y1, y2, -⟩ := OMat.cells (HM.out.fr hF (fun _ _ _ h => h)) HT.out.len HT.out.rows k i hkN hi
      cases hh
      have hbt : bt < wr.heap.size := by
        obtain ⟨_, _, h1, h2, _⟩ := (HM.out.fr hF (fun _ _ _ h => h)).mat.pos (by rw [HT.out.len]; omega)
        cases h1; exact h2
      have hGi : G i < wr.heap.size := ((HM.out.fr hF (fun _ _ _ h => h)).row i (by rw [HT.out.len]; exact hi)).lt _ rfl
      have hGk : G k < wr.heap.size := ((HM.out.fr hF (fun _ _ _ h => h)).row k (by rw [HT.out.len]; exact hkN)).lt _ rfl
      have HOF : Hid (∀ y, nth R k = y → offersT (at2 T) (R.map WyR.wy) i (k + 1) = offersT (at2 T) (R.map WyR.wy) i k ++ (offer (at2 T) i k y.wy).toList) := Lib.hid (fun y hy => by rw [offersT_succ, nth_map _ _ _ hkR, hy])
      obtain ⟨x, hx⟩ : ∃ x, x = nth R k := ⟨_, rfl⟩
      have HOF2 := Lib.hid (HOF.out x hx.symm)
      rw [← hx] at d0 d1 hIx hxl
      obtain ⟨xt, xp, xA, xC⟩ := x
      simp only [WyR.cells, List.getElem?_cons_zero, List.getElem?_cons_succ, ← Nat.add_assoc, Nat.add_zero] at d0 d1 hIx hxl
      have HFD : Hid (offer (at2 T) i k ⟨xt, xp⟩ = if at2 T i k = 0 ∨ xp = [] ∨ (i : Int) ∈ xp then none else if xt = 0 ∨ xt = 1 ∨ at2 T k i = 1 then some ⟨at2 T i k, (i : Int) :: xp⟩ else none) := Lib.hid rfl
      obtain ⟨p, hp⟩ : ∃ p, p = nth (nth T i) k := ⟨_, rfl⟩
      obtain ⟨q, hq⟩ : ∃ q, q = nth (nth T k) i := ⟨_, rfl⟩
      rw [show at2 T i k = p from hp.symm, show at2 T k i = q from hq.symm] at HFD
      rw [← hp] at x2
      rw [← hq] at y2
      clear hcs hx HOF hp hq
      obtain ⟨X, hX⟩ : ∃ X, X = xp.length := ⟨_, rfl⟩
      rw [← hX] at d1 hxl
      have HX := Lib.hid hX
      have HIX := Lib.hid hIx
      clear hX hIx hkR
      by_cases hp0 : p = 0
      · have HN2 : Hid (R'.map WyR.wy = offersT (at2 T) (R.map WyR.wy) i (k + 1)) := Lib.hid (by rw [HOF2.out, HFD.out, if_pos (.inl hp0), hW.out]; simp)
        subst hp0
        have hF1 := hF.alloc (.cells #[.int .i64 xt, .slice xA X xC] 65)
        have HRn := Lib.hid (fun y hy => (HRows.out y hy).fr0 ((Fr.refl _ _).alloc (.cells #[.int .i64 xt, .slice xA X xC] 65)))
        have hOn := hO.alloc (.cells #[.int .i64 xt, .slice xA X xC] 65)
        clear hO HFD HOF2 hF HRows
        go_wp2
        go_roundw
        case rel => exact ⟨k + 1, R', a', m, c', ob', by omega, by go_num, rfl, hm, by omega, HN2, hOn, HRn.out, hF1, hNob⟩
        case measure => simp [intOf]; omega
      · have e1 : (p == 0) = false := by simp [hp0]
        by_cases hX0 : X = 0
        · have HN2 : Hid (R'.map WyR.wy = offersT (at2 T) (R.map WyR.wy) i (k + 1)) := Lib.hid (by rw [HOF2.out, HFD.out, if_pos (.inr (.inl (List.eq_nil_of_length_eq_zero (by rw [← HX.out]; exact hX0)))), hW.out]; simp)
          subst hX0
          have hF1 := hF.alloc (.cells #[.int .i64 xt, .slice xA 0 xC] 65)
          have HRn := Lib.hid (fun y hy => (HRows.out y hy).fr0 ((Fr.refl _ _).alloc (.cells #[.int .i64 xt, .slice xA 0 xC] 65)))
          have hOn := hO.alloc (.cells #[.int .i64 xt, .slice xA 0 xC] 65)
          clear hO HFD HOF2 hF HRows
          go_wp2
          go_roundw
          case rel => exact ⟨k + 1, R', a', m, c', ob', by omega, by go_num, rfl, hm, by omega, HN2, hOn, HRn.out, hF1, hNob⟩
          case measure => simp [intOf]; omega
        · have e2 : ((X : Int) == 0) = false := by simp; omega
          have hF1 := hF.alloc (.cells #[.int .i64 xt, .slice xA X xC] 65)
          have HRn := Lib.hid (fun y hy => (HRows.out y hy).fr0 ((Fr.refl _ _).alloc (.cells #[.int .i64 xt, .slice xA X xC] 65)))
          have hOn := hO.alloc (.cells #[.int .i64 xt, .slice xA X xC] 65)
          have hI1 := HIX.out.fr hF1 (fun _ _ _ h => h)
          have hct := contains_int xp xA xC (i : Int) (wr.alloc (.cells #[.int .i64 xt, .slice xA X xC] 65)) hI1 HX.out (by omega)
          have hBx := Blk.made wr 65 [.int .i64 xt, .slice xA X xC]
          obtain ⟨Q, hQ⟩ : ∃ Q, Q = decide ((i : Int) ∈ xp) := ⟨_, rfl⟩
          rw [← hQ] at hct
          have HQ := Lib.hid hQ
          have HP0 := Lib.hid hp0
          have HXN : Hid (xp ≠ []) := Lib.hid (fun h => hX0 (by rw [HX.out, h]; rfl))
          clear hO hF HRows hQ hp0 HIX
          go_wp2_with (fail)
          refine hct.mono ?_
          rintro e3 w3 ⟨rfl, rfl⟩
          clear hct
          cases Q with
          | true =>
            have HN2 : Hid (R'.map WyR.wy = offersT (at2 T) (R.map WyR.wy) i (k + 1)) := Lib.hid (by rw [HOF2.out, HFD.out, if_pos (.inr (.inr (of_decide_eq_true HQ.out.symm))), hW.out]; simp)
            clear HFD HOF2 hBx
            go_wp2
            go_roundw
            case rel => exact ⟨k + 1, R', a', m, c', ob', by omega, by go_num, rfl, hm, by omega, HN2, hOn, HRn.out, hF1, hNob⟩
            case measure => simp [intOf]; omega
          | false =>
            have HFE := Lib.hid (show offer (at2 T) i k ⟨xt, xp⟩ = if xt = 0 ∨ xt = 1 ∨ q = 1 then some ⟨p, (i : Int) :: xp⟩ else none by
              rw [HFD.out, if_neg (fun h => by
                rcases h with h | h | h
                · exact HP0.out h
                · exact HXN.out h
                · exact of_decide_eq_false HQ.out.symm h)])
            obtain ⟨wb, hwb⟩ : ∃ y, y = wr.alloc (.cells #[.int .i64 xt, .slice xA X xC] 65) := ⟨_, rfl⟩
            rw [← hwb] at hF1 hOn hI1 hBx
            have HRw : Hid (∀ y, y ∈ R' → WRow w.heap.size wb.heap y) := Lib.hid (by rw [hwb]; exact HRn.out)
            have hFb : Fr (fun _ => False) wr wb := hwb ▸ ((Fr.refl (fun _ => False) wr).alloc _)
            have bx0 := hBx.cell 0
            have bx1 := hBx.cell 1
            simp only [List.getElem?_cons_zero, List.getElem?_cons_succ] at bx0 bx1
            have z1 := (hFb.cell (p := ⟨bt, ot + i, none⟩) hbt (fun h => h)).trans x1
            have z2 := (hFb.cell (p := ⟨G i, k, none⟩) hGi (fun h => h)).trans x2
            have z3 := (hFb.cell (p := ⟨bt, ot + k, none⟩) hbt (fun h => h)).trans y1
            have z4 := (hFb.cell (p := ⟨G k, i, none⟩) hGk (fun h => h)).trans y2
            have l1 := Nat.lt_of_lt_of_le hbt hFb.size
            have l2 := Nat.lt_of_lt_of_le hGi hFb.size
            have l3 := Nat.lt_of_lt_of_le hGk hFb.size
            have l4 := hBx.lt
            clear HFD HRn x1 x2 y1 y2 d0 d1
            by_cases hD : xt = 0 ∨ xt = 1 ∨ q = 1
            · have HN3 : Hid ((R' ++ [(⟨p, (i : Int) :: xp, none, 0⟩ : WyR)]).map WyR.wy = offersT (at2 T) (R.map WyR.wy) i (k + 1)) := Lib.hid (by rw [HOF2.out, HFE.out, if_pos hD, List.map_append, hW.out]; rfl)
              clear HFE HOF2
              go_upto_region 6 with (fail)
              rw [← hwb]
              clear hwb
              go_cut [54] (fun s54 wx => s54 = .bool true ∧ wx = wb)
              case first =>
                by_cases g1 : xt = 0
                · have f1 : (xt == 0) = true := by simp [g1]
                  clear hD
                  go_wp2
                  go_meet
                  case rel => exact ⟨rfl, rfl⟩
                · have f1 : (xt == 0) = false := by simp [g1]
                  by_cases g2 : xt = 1
                  · have f2 : (xt == 1) = true := by simp [g2]
                    clear hD
                    go_wp2
                    go_meet
                    case rel => exact ⟨rfl, rfl⟩
                  · have f2 : (xt == 1) = false := by simp [g2]
                    have f3 : (q == 1) = true := by simp; omega
                    clear hD
                    go_wp2
                    go_meet
                    case rel => exact ⟨rfl, rfl⟩
              case rest =>
                obtain ⟨rfl, rfl⟩ := hcut
                generalize wc = wb at *
                have c1 := fun c : Cls (fun _ => False) wb => (c.fr.cell (p := ⟨bt, ot + i, none⟩) l1 (fun h => h)).trans z1
                have c2 := fun c : Cls (fun _ => False) wb => (c.fr.cell (p := ⟨G i, k, none⟩) l2 (fun h => h)).trans z2
                have c3 := fun c : Cls (fun _ => False) wb => (c.fr.cell (p := ⟨wr.heap.size, 1, none⟩) l4 (fun h => h)).trans bx1
                clear hD bx0 bx1 z1 z2 z3 z4 hBx
                go_wp2
                (refine wp_region_mix (fun w' => ∃ c : Cls (fun _ => False) wb, w' = c.wo) 16 (by kernel_rfl) (by kernel_rfl) (⟨⟨_, (Fr.refl _ _).drew⟩, rfl⟩) ?_; simp only [List.take_succ_cons, List.take_zero, List.drop_succ_cons, List.drop_zero])
                (refine wpMix_lateN 8 (⟨⟨_, (Fr.refl _ _).drew⟩, rfl⟩) (by kernel_rfl) ?_; simp only [List.take_succ_cons, List.take_zero, List.drop_succ_cons, List.drop_zero]; (repeat (go_big_quiet_step (fail))); refine wpQuiet_nil ?_)
                (refine wpMix_earlyN 1 (by kernel_rfl) (by kernel_rfl) ?_; simp only [List.take_succ_cons, List.take_zero, List.drop_succ_cons, List.drop_zero]; (repeat (go_big_quiet_step (fail))); refine wpQuiet_nil ?_)
                refine wpMix_eff (by kernel_rfl) ?_
                go_wp2
                refine ⟨⟨⟨_, ((Fr.refl _ _).drew).alloc _⟩, rfl⟩, ?_⟩
                (refine wpMix_lateN 2 (⟨⟨_, (Fr.refl _ _).drew⟩, rfl⟩) (by kernel_rfl) ?_; simp only [List.take_succ_cons, List.take_zero, List.drop_succ_cons, List.drop_zero]; (repeat (go_big_quiet_step (fail))); refine wpQuiet_nil ?_)
                refine wpMix_eff (by kernel_rfl) ?_
                go_wp2
                refine ⟨⟨⟨_, (((Fr.refl _ _).drew).alloc _).alloc _⟩, rfl⟩, ?_⟩
                have hF2 : Fr (fun _ => False) wb (wb.alloc (.cells #[.int .i64 i] 3)) := (Fr.refl _ _).alloc _
                have hM2 := Mat.two (wb.alloc (.cells #[.int .i64 i] 3)) [(i : Int)] xp (some ⟨wb.heap.size, 0, none⟩) xA 1 xC 1 X 22 (rd_lit wb 3 [.int .i64 (i : Int)]) (hI1.fr hF2 (fun _ _ _ h => h)) rfl HX.out (by simp) (by rw [← HX.out]; omega)
                rw [World.size_alloc] at hM2
                have hcc := concat_any [[(i : Int)], xp] _ 2 _ _ ((wb.alloc (.cells #[.int .i64 i] 3)).alloc (.cells #[.slice (some ⟨wb.heap.size, 0, none⟩) 1 1, .slice xA X xC] 22)).drew hM2 (by simp only [lens]; rw [← HX.out]; simp; omega) (by simp)
                have hF3 : Fr (fun _ => False) wb ((wb.alloc (.cells #[.int .i64 i] 3)).alloc (.cells #[.slice (some ⟨wb.heap.size, 0, none⟩) 1 1, .slice xA X xC] 22)).drew := (hF2.alloc _).drew
                have hs3 := hF3.size
                have efl : [[(i : Int)], xp].flatten = (i : Int) :: xp := by simp
                rw [efl] at hcc
                obtain ⟨Y, hY⟩ : ∃ Y, Y = ((i : Int) :: xp).length := ⟨_, rfl⟩
                rw [← hY] at hcc
                have HY := Lib.hid hY
                have hY100 : Y ≤ 101 := by rw [hY, List.length_cons, ← HX.out]; omega
                have hYpos : 0 < Y := by rw [hY]; simp
                clear hY efl hM2 hF2
                generalize ((wb.alloc (.cells #[.int .i64 i] 3)).alloc (.cells #[.slice (some ⟨wb.heap.size, 0, none⟩) 1 1, .slice xA X xC] 22)).drew = w5 at *
                refine wpMix_eff (by kernel_rfl) ?_
                go_wp2_with (fail)
                refine hcc.mono ?_
                rintro e6 w6 ⟨a6, c6, ob6, rfl, hO6, hF6, hN6⟩
                have hF36 := hF3.trans hF6
                clear hcc hF6
                go_wp2
                refine ⟨⟨⟨_, hF36⟩, rfl⟩, ?_⟩
                (refine wpMix_lateN 1 (⟨⟨_, (Fr.refl _ _).drew⟩, rfl⟩) (by kernel_rfl) ?_; simp only [List.take_succ_cons, List.take_zero, List.drop_succ_cons, List.drop_zero]; (repeat (go_big_quiet_step (fail))); refine wpQuiet_nil ?_)
                refine wpMix_eff (by kernel_rfl) ?_
                go_wp2
                refine ⟨⟨⟨_, hF36.alloc _⟩, rfl⟩, ?_⟩
                refine wpMix_nil ?_
                have hO6' := (hOn.fr hF36 (fun _ _ h => h)).alloc (.cells #[.int .i64 p, .slice a6 Y c6] 65)
                have hrd := (Ownd.made w6 65 2 1 [.int .i64 p, .slice a6 Y c6] rfl (by decide)).rd
                refine wpList_app rfl _ _ 60 rfl Try.underlying60 infoWy rfl (by decide) rfl rfl hO6' hrd (by simp [Value.oneCell']) (by omega) (by omega) ?_
                intro a7 c7 w7 ob7 z1 z2 z3
                have e7 : R'.flatMap WyR.cells ++ [.int .i64 p, .slice a6 Y c6] = (R' ++ [(⟨p, (i : Int) :: xp, a6, c6⟩ : WyR)]).flatMap WyR.cells := by
                  rw [List.flatMap_append, HY.out]; simp
                rw [e7] at z1
                have hF67 : Fr (fun k => ob' = some k) w6 w7 := (((Fr.refl _ w6).alloc (.cells #[.int .i64 p, .slice a6 Y c6] 65))).trans z2
                have hF7 : Fr (fun _ => False) w w7 := (hF1.trans hF36).trans' hF67 (fun j hj h => by have := hNob j h; omega)
                have hsw := (hF1.trans hF36).size
                have hN7 : ∀ g, ob7 = some g → w.heap.size ≤ g := fun g hg => by
                  rcases z3 with h | ⟨g', h, h'⟩
                  · exact hNob g (by rw [← h, hg])
                  · rw [hg] at h; cases h; simp at h'; omega
                have hswb := hF1.size
                have HRows7 : Hid (∀ y ∈ R' ++ [(⟨p, (i : Int) :: xp, a6, c6⟩ : WyR)], WRow w.heap.size w7.heap y) := Lib.hid (fun y hy => by
                  rcases List.mem_append.1 hy with hy | hy
                  · refine ((HRw.out y hy).fr0 hF36).fr hF67 (fun g hg e => ?_)
                    obtain ⟨g', h1, h2, -⟩ := (HRw.out y hy).fr0 hF36
                    rw [h1] at hg; cases hg
                    exact (hO6'.ne_type (h2.alloc (.cells #[.int .i64 p, .slice a6 Y c6] 65)) (by decide) e) rfl
                  · rw [List.mem_singleton] at hy; subst hy
                    obtain ⟨g, h1, h2, h3, -⟩ := hO6.pos (by omega)
                    subst h2
                    refine ⟨g, h1, ?_, by have := hN6 g rfl; omega⟩
                    show Ownd _ _ _ a6 ((i : Int) :: xp).length c6 _ _
                    rw [← HY.out]
                    exact hO6.fr hF67 (fun g' e e2 => (hO6'.ne_type (hO6.alloc (.cells #[.int .i64 p, .slice a6 Y c6] 65)) (by decide) e2) e))
                have HM7 : Hid (m + 1 = (R' ++ [(⟨p, (i : Int) :: xp, a6, c6⟩ : WyR)]).length) := Lib.hid (by have := hm.out; simp; omega)
                have HW7 : Hid ((R' ++ [(⟨p, (i : Int) :: xp, a6, c6⟩ : WyR)]).map WyR.wy = offersT (at2 T) (R.map WyR.wy) i (k + 1)) := Lib.hid (by rw [← HN3.out]; simp)
                generalize R' ++ [(⟨p, (i : Int) :: xp, a6, c6⟩ : WyR)] = R7 at *
                clear z2 z3 e7 hrd hO6' hO6 hF36 hF67 hOn hI1 c1 c2 c3 hN6
                go_wp2
                go_roundw
                case rel => exact ⟨k + 1, R7, a7, m + 1, c7, ob7, by omega, by go_num, rfl, HM7, by omega, HW7, z1, HRows7.out, hF7, hN7⟩
                case measure => simp [intOf]; omega
            · have HN2 : Hid (R'.map WyR.wy = offersT (at2 T) (R.map WyR.wy) i (k + 1)) := Lib.hid (by rw [HOF2.out, HFE.out, if_neg hD, hW.out]; simp)
              have f1 : (xt == 0) = false := by simp; omega
              have f2 : (xt == 1) = false := by simp; omega
              have f3 : (q == 1) = false := by simp; omega
              clear HFE HOF2 hD
              go_upto_region 6 with (fail)
              rw [← hwb]
              clear hwb
              go_wp2
              go_roundw
              case rel => exact ⟨k + 1, R', a', m, c', ob', by omega, by go_num, rfl, hm, by omega, HN2, hOn, HRw.out, hF1, hNob⟩
              case measure => simp [intOf]; omega
    · obtain rfl : k = N := by omega
      go_wp2
      go_ret
      exact ⟨R', a', m, c', ob', rfl, hm.out, by rw [HV.out]; exact hW.out, hO, HRows.out, hF, hNob⟩
end Go.Proofs.Ytbmeeglehbaggaa
