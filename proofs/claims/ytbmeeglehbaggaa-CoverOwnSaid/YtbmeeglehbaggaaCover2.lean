import Derived.Test.YtbmeeglehbaggaaCover
import Derived.Test.YtbmeeglehbaggaaSortCov
import Derived.Deep.CutBlock
import Derived.Deep.CutRange
import Derived.Deep.DeepCutAuto
namespace Go.Proofs.Ytbmeeglehbaggaa
open Go.RowKit

theorem cell_new1 (w : World) (v : Value) (t : TypeId) : (w.alloc (.cells #[v] t)).cell? ⟨w.heap.size, 0, none⟩ = some v := by
  have := (Blk.made w t [v]).cell 0
  exact this
def lastN (l : List Nt) : Nt := nth l (l.length - 1)
def skipB (out : List Nt) (x : Nt) : Bool := decide (0 < out.length) && inB x.a x.n (lastN out).a (lastN out).n
def stepC (out : List Nt) (x : Nt) : List Nt := if skipB out x = true then out else joinM (out ++ [x])
def coverO (S : List Nt) : List Nt := S.foldl stepC []
def firstErr (l : List Nt) : Option Int := l.findSome? fun x => netErr x.a x.n
def coverE (l : List Nt) : Option Int := match firstErr l with
  | some e => some e
  | none => if 64 < l.length then some 4 else none
theorem firstErr_at {l : List Nt} {k : Nat} {e : Int} (hk : k < l.length) (h : firstErr (l.take k) = none) (he : netErr (nth l k).a (nth l k).n = some e) : firstErr l = some e := by
  have e1 : l = l.take k ++ nth l k :: l.drop (k + 1) := by rw [← drop_nth l k hk, List.take_append_drop]
  unfold firstErr at *
  rw [e1, List.findSome?_append, h]
  simp [he]
theorem firstErr_snoc {l : List Nt} {k : Nat} (hk : k < l.length) (h : firstErr (l.take k) = none) (he : netErr (nth l k).a (nth l k).n = none) : firstErr (l.take (k + 1)) = none := by
  unfold firstErr at *
  rw [take_succ_nth l k hk, List.findSome?_append, h]
  simp [he]
theorem cov_len (S : List Nt) : ∀ (out : List Nt), (S.foldl stepC out).length ≤ out.length + S.length := by
  induction S with
  | nil => intro out; simp
  | cons x S ih =>
    intro out
    rw [List.foldl_cons]
    refine Nat.le_trans (ih _) ?_
    have : (stepC out x).length ≤ out.length + 1 := by
      unfold stepC
      split
      · omega
      · refine Nat.le_trans (joinL_len _ _) ?_; simp
    simp; omega
theorem cov_wf {S out : List Nt} (hS : WfN S) (ho : WfN out) : WfN (S.foldl stepC out) := by
  induction S generalizing out with
  | nil => exact ho
  | cons x S ih =>
    rw [List.foldl_cons]
    refine ih (fun y hy => hS y (List.mem_cons_of_mem _ hy)) ?_
    unfold stepC
    split
    · exact ho
    · refine WfN.join (fun y hy => ?_)
      rcases List.mem_append.1 hy with hy | hy
      · exact ho y hy
      · rw [List.mem_singleton] at hy; subst hy; exact hS _ List.mem_cons_self
/-- What a cover tells. -/
def RetCov (w : World) (l : List Nt) (e : Ending) (w' : World) : Prop :=
  ∃ (S : List Nt) (a : Option Addr) (n c : Nat) (ob : Option Nat), e = .returned (.tuple #[.slice a n c, errO (coverE l)]) ∧ (coverE l = none → S.Pairwise (fun x y => ¬ ntLt y x) ∧ S.Perm l) ∧
    n = (if coverE l = none then (coverO S).length else 0) ∧ n ≤ 64 ∧ (∃ L : List Nt, L.length = n ∧ Ownd w'.heap 26 2 a n c (L.flatMap Nt.cells) ob) ∧ Fr (fun _ => False) w w' ∧ ∀ g, ob = some g → w.heap.size ≤ g
theorem RetCov.bad {w w' : World} {l : List Nt} {er : Int} {e : Ending} (h : coverE l = some er) (he : e = .returned (.tuple #[.slice none 0 0, errv er])) (hF : Fr (fun _ => False) w w') : RetCov w l e w' :=
  ⟨[], none, 0, 0, none, by rw [he, h]; rfl, (fun q => by rw [h] at q; cases q), by rw [h]; simp, by omega, ⟨[], rfl, Ownd.nil _ _ _⟩, hF, fun _ q => nomatch q⟩
theorem RetCov.good {w w' : World} {l S : List Nt} {e : Ending} {a : Option Addr} {n c : Nat} {ob : Option Nat} (h : coverE l = none) (he : e = .returned (.tuple #[.slice a n c, .nilIface])) (hS : S.Pairwise (fun x y => ¬ ntLt y x)) (hp : S.Perm l) (hn : n = (coverO S).length) (h64 : n ≤ 64) (hO : Ownd w'.heap 26 2 a n c ((coverO S).flatMap Nt.cells) ob) (hF : Fr (fun _ => False) w w') (hN : ∀ g, ob = some g → w.heap.size ≤ g) : RetCov w l e w' :=
  ⟨S, a, n, c, ob, by rw [he, h]; rfl, (fun _ => ⟨hS, hp⟩), by rw [h]; simpa using hn, h64, ⟨_, hn.symm, hO⟩, hF, hN⟩

set_option maxRecDepth 100000 in
set_option maxHeartbeats 4000000 in
theorem cover_any {n : Nat} (l : List Nt) (al : Option Addr) (cl : Nat) (w : World) (hL : Recs w.heap al 2 Nt.cells l) (hw : WfN l) (hn : n = l.length) (hll : l.length ≤ 9223372036854775807) :
    Calls Try.prog 34 #[.slice al n cl] w (RetCov w l) := by
  have HL := Lib.hid hL
  have HW := Lib.hid hw
  have HN := Lib.hid hn
  have hnn : n ≤ 9223372036854775807 := by omega
  have H0 : Hid (firstErr (l.take 0) = none) := Lib.hid rfl
  clear hL hw hn hll
  go_enter Try.func34, Try.ntmps34
  go_wp2
  go_loopw [13] (fun s13 wr => ∃ k : Nat, k ≤ n ∧ s13 = .int .i64 k ∧ Fr (fun _ => False) w wr ∧ Hid (firstErr (l.take k) = none)) (fun s _ => n - (intOf s).toNat)
  case atStart => exact ⟨0, by omega, rfl, Fr.refl _ _, H0⟩
  case round =>
    clear H0
    obtain ⟨k, hk, rfl, hF, hE⟩ := hrel
    by_cases hkn : k < n
    · obtain ⟨b, o, rfl, hb, hcs⟩ := Recs.pos HL.out Nt.cells_len (by omega) (by have := HN.out; omega)
      have hkl : k < l.length := by have := HN.out; omega
      have d0 := (hF.cell (p := ⟨b, o + (k * 2 + 0), none⟩) hb (fun h => h)).trans (hcs w rfl k 0 hkl (by omega))
      have d1 := (hF.cell (p := ⟨b, o + (k * 2 + 1), none⟩) hb (fun h => h)).trans (hcs w rfl k 1 hkl (by omega))
      have hx := HW.out _ (nth_mem l k hkl)
      have HA := Lib.hid (fun e he => firstErr_at (e := e) hkl hE.out he)
      have HS := Lib.hid (firstErr_snoc hkl hE.out)
      generalize nth l k = y at *
      obtain ⟨ya, yn⟩ := y
      simp only [Nt.cells, List.getElem?_cons_zero, List.getElem?_cons_succ, ← Nat.add_assoc, Nat.add_zero] at d0 d1 hx HA HS
      have hbw := Nat.lt_of_lt_of_le hb hF.size
      have hp := pcheck_any ya yn (wr.alloc (.cells #[.int .u32 ya, .int .i64 yn] 26)) hx
      clear hcs hkl hE
      go_wp2_with (fail)
      refine hp.mono ?_
      rintro e1 w1 ⟨rfl, hF1⟩
      have hF01 := (hF.alloc (.cells #[.int .u32 ya, .int .i64 yn] 26)).trans hF1
      clear hp hF1 hF
      cases hne : netErr ya yn with
      | some er =>
        have HC := Lib.hid (show coverE l = some er by unfold coverE; rw [HA.out er hne])
        rw [show errO (some er) = errv er from rfl]
        clear HA HS hne
        go_wp2
        go_ret2
        exact RetCov.bad HC.out rfl hF01
      | none =>
        have HS2 := Lib.hid (HS.out hne)
        rw [show errO none = .nilIface from rfl]
        clear HA HS hne
        go_wp2
        go_roundw
        case rel => exact ⟨k + 1, by omega, by go_num, hF01, HS2⟩
        case measure => simp [intOf]; omega
    · obtain rfl : k = n := by omega
      have HE : Hid (firstErr l = none) := Lib.hid (by have := hE.out; rwa [HN.out, List.take_length] at this)
      clear hE
      by_cases h64 : 64 < k
      · have HC := Lib.hid (show coverE l = some 4 by unfold coverE; rw [HE.out]; exact if_pos (by rw [← HN.out]; exact h64))
        go_wp2
        go_ret2
        exact RetCov.bad HC.out rfl hF
      · have HC := Lib.hid (show coverE l = none by unfold coverE; rw [HE.out]; exact if_neg (by rw [← HN.out]; exact h64))
        have hc0 := cell_new1 wr (.slice al k cl) 36
        have hs0 := sortedCov_any wr.heap.size al cl l (by have := HN.out; omega) (wr.alloc (.cells #[.slice al k cl] 36)) (by simp) (by rw [← HN.out]; exact hc0) (HL.out.fr (hF.alloc _) (fun _ _ _ h => h))
        rw [← HN.out] at hs0
        have hF0 := hF.alloc (.cells #[.slice al k cl] 36)
        clear hF
        go_wp2_with (fail)
        refine (valuesN_any al k cl wr).mono ?_
        rintro e1 w1 ⟨rfl, rfl⟩
        go_wp2_with (fail)
        refine hs0.mono ?_
        rintro e2 w2 ⟨S, a2, c2, ob2, rfl, hPS, hSl, hO2, hF2, hN2⟩
        have hFS := hF0.trans hF2
        have HSL : Hid (S.length = k) := Lib.hid (by rw [hSl.length_eq, ← HN.out])
        have HWS : Hid (WfN S) := Lib.hid (fun y hy => HW.out y (hSl.mem_iff.1 hy))
        have HPS := Lib.hid hPS
        have HSP := Lib.hid hSl
        have hlt2 := hO2.lt
        clear hs0 hc0 hF2 hF0 hPS hSl hN2
        generalize decide ((64 : Int) < (k : Int)) = z at *
        have hsw := hFS.size
        go_wp2
        go_loopw [31, 7] (fun s31 s7 wr => ∃ (i : Nat) (o : List Nt) (a' : Option Addr) (m c' : Nat) (ob' : Option Nat), i ≤ k ∧ s31 = .int .i64 i ∧ s7 = .slice a' m c' ∧ Hid (o = coverO (S.take i)) ∧ Hid (m = o.length) ∧ m ≤ i ∧ Ownd wr.heap 26 2 a' m c' (o.flatMap Nt.cells) ob' ∧ Fr (fun _ => False) w2 wr ∧ (∀ g, ob' = some g → w2.heap.size ≤ g)) (fun s _ _ => k - (intOf s).toNat)
        case atStart => exact ⟨0, [], none, 0, 0, none, by omega, rfl, rfl, Lib.hid rfl, Lib.hid rfl, Nat.le_refl _, Ownd.nil _ _ _, Fr.refl _ _, fun _ h => nomatch h⟩
        case round =>
          obtain ⟨i, o, a', m, c', ob', hi, rfl, rfl, HO, HM, hmi, hO, hF, hN⟩ := hrel
          by_cases hik : i < k
          · obtain ⟨gS, rfl, rfl, hgS, hcS, -⟩ := hO2.pos (by omega)
            have hiS : i < S.length := by have := HSL.out; omega
            have d0 := (hF.cell (p := ⟨gS, i * 2 + 0, none⟩) hgS (fun h => h)).trans ((hcS (i * 2 + 0) (by omega)).trans (flat_get Nt.cells 2 Nt.cells_len S i 0 hiS (by omega)))
            have d1 := (hF.cell (p := ⟨gS, i * 2 + 1, none⟩) hgS (fun h => h)).trans ((hcS (i * 2 + 1) (by omega)).trans (flat_get Nt.cells 2 Nt.cells_len S i 1 hiS (by omega)))
            have hgr := Nat.lt_of_lt_of_le hgS hF.size
            have hwx := HWS.out _ (nth_mem S i hiS)
            have HST : Hid (coverO (S.take (i + 1)) = stepC o (nth S i)) := Lib.hid (by rw [take_succ_nth S i hiS]; unfold coverO; rw [List.foldl_append]; show stepC ((S.take i).foldl stepC []) _ = _; rw [HO.out]; rfl)
            have HWo : Hid (WfN o) := Lib.hid (by rw [HO.out]; exact cov_wf (fun y hy => HWS.out y (List.mem_of_mem_take hy)) (fun _ h => nomatch h))
            generalize nth S i = x at *
            obtain ⟨xa, xn⟩ := x
            simp only [Nt.cells, List.getElem?_cons_zero, List.getElem?_cons_succ, Nat.add_zero] at d0 d1 hwx
            obtain ⟨wb, hwb⟩ : ∃ y, y = wr.alloc (.cells #[.int .u32 xa, .int .i64 xn] 26) := ⟨_, rfl⟩
            have hFb : Fr (fun _ => False) wr wb := hwb ▸ ((Fr.refl (fun _ => False) wr).alloc _)
            have hBb : Blk wb.heap wr.heap.size 26 [.int .u32 xa, .int .i64 xn] := by rw [hwb]; exact Blk.made wr 26 [.int .u32 xa, .int .i64 xn]
            have b0 := hBb.cell 0
            have b1 := hBb.cell 1
            simp only [List.getElem?_cons_zero, List.getElem?_cons_succ] at b0 b1
            have hOb := hO.fr hFb (fun _ _ h => h)
            have hFwb := hF.trans hFb
            obtain ⟨B, hB⟩ : ∃ B, B = skipB o ⟨xa, xn⟩ := ⟨_, rfl⟩
            have HB := Lib.hid hB
            clear HO hcS hO hF hFb hB
            go_upto_region 15 with (fail)
            rw [← hwb]
            clear hwb
            go_cut [47] (fun s47 wx => s47 = .bool B ∧ Fr (fun _ => False) wb wx)
            case first =>
              by_cases hm0 : m = 0
              · subst hm0
                have HB2 : Hid (B = false) := Lib.hid (by rw [HB.out]; unfold skipB; rw [← HM.out]; rfl)
                (refine wp_region_mix (fun _ => True) 9 (by kernel_rfl) (by kernel_rfl) (trivial) ?_; simp only [List.take_succ_cons, List.take_zero, List.drop_succ_cons, List.drop_zero])
                (refine wpMix_earlyN 9 (by kernel_rfl) (by kernel_rfl) ?_; simp only [List.take_succ_cons, List.take_zero, List.drop_succ_cons, List.drop_zero]; (repeat (go_big_quiet_step (fail))); refine wpQuiet_nil ?_)
                refine wpMix_nil ?_
                go_wp2
                go_meet
                case rel => exact ⟨by rw [HB2.out], (Fr.refl _ _).drew⟩
              · obtain ⟨go, rfl, rfl, hgo, hco, -⟩ := hOb.pos (by omega)
                have hmo : m - 1 < o.length := by have := HM.out; omega
                have c0 := (hco ((m - 1) * 2 + 0) (by omega)).trans (flat_get Nt.cells 2 Nt.cells_len o (m - 1) 0 hmo (by omega))
                have c1 := (hco ((m - 1) * 2 + 1) (by omega)).trans (flat_get Nt.cells 2 Nt.cells_len o (m - 1) 1 hmo (by omega))
                have hwy := HWo.out _ (nth_mem o (m - 1) hmo)
                have HL2 : Hid (lastN o = nth o (m - 1)) := Lib.hid (by unfold lastN; rw [← HM.out])
                generalize nth o (m - 1) = y at *
                obtain ⟨ya, yn⟩ := y
                simp only [Nt.cells, List.getElem?_cons_zero, List.getElem?_cons_succ, Nat.add_zero] at c0 c1 hwy
                have HB2 : Hid (B = inB xa xn ya yn) := Lib.hid (by rw [HB.out]; unfold skipB; rw [HL2.out, decide_eq_true (by have := HM.out; omega), Bool.true_and])
                have hin := fun W => in_any xa xn ya yn W hwx hwy
                have hd : decide (0 < m) = true := decide_eq_true (by omega)
                clear hco hmo
                (refine wp_region_mix (fun _ => True) 9 (by kernel_rfl) (by kernel_rfl) (trivial) ?_; simp only [List.take_succ_cons, List.take_zero, List.drop_succ_cons, List.drop_zero])
                (refine wpMix_earlyN 9 (by kernel_rfl) (by kernel_rfl) ?_; simp only [List.take_succ_cons, List.take_zero, List.drop_succ_cons, List.drop_zero]; (repeat (go_big_quiet_step (fail))); refine wpQuiet_nil ?_)
                refine wpMix_nil ?_
                go_wp2_with (fail)
                refine (hin _).mono ?_
                rintro e3 w3 ⟨rfl, hF3⟩
                have hF3' : Fr (fun _ => False) wb w3 := (Fr.refl _ _).drew.trans hF3
                clear hin hF3
                go_wp2
                go_meet
                case rel => exact ⟨by rw [HB2.out], hF3'⟩
            case rest =>
              obtain ⟨rfl, hFc⟩ := hcut
              generalize wc = w4 at *
              have hO4 := hOb.fr hFc (fun _ _ h => h)
              have hB4 := hBb.fr hFc (fun h => h)
              have hF4 := hFwb.trans hFc
              clear hOb hBb b0 b1 hFc hFwb
              have hc0 := hB4.cell 0
              have hc1 := hB4.cell 1
              simp only [List.getElem?_cons_zero, List.getElem?_cons_succ] at hc0 hc1
              cases B with
              | true =>
                have HO5 : Hid (o = coverO (S.take (i + 1))) := Lib.hid (by rw [HST.out]; unfold stepC; rw [if_pos HB.out.symm])
                clear HST
                go_wp2
                go_roundw
                case rel => exact ⟨i + 1, o, a', m, c', ob', by omega, by go_num, rfl, HO5, HM, by omega, hO4, hF4, hN⟩
                case measure => simp [intOf]; omega
              | false =>
                have HO5 : Hid (joinM (o ++ [⟨xa, xn⟩]) = coverO (S.take (i + 1))) := Lib.hid (by rw [HST.out]; unfold stepC; rw [if_neg (by rw [← HB.out]; simp)])
                have hrd := (Ownd.made w4 26 2 1 [.int .u32 xa, .int .i64 xn] rfl (by decide)).rd
                clear HST
                go_wp2_with (at_builtin; refine wpList_app rfl _ _ 36 rfl Try.underlying36 infoNt rfl (by decide) rfl rfl (hO4.alloc _) hrd (by simp [Value.oneCell']) (by omega) (by omega) ?_)
                intro a7 c7 w7 ob7 z1 z2 z3
                have e7 : o.flatMap Nt.cells ++ [.int .u32 xa, .int .i64 xn] = (o ++ [(⟨xa, xn⟩ : Nt)]).flatMap Nt.cells := by simp
                rw [e7] at z1
                have hF7 : Fr (fun _ => False) w2 w7 := Fr.app (hF4.alloc (.cells #[.int .u32 xa, .int .i64 xn] 26)) z2 hN
                have hs4 := hF4.size
                have hN7 : ∀ g, ob7 = some g → w2.heap.size ≤ g := fun g hg => by
                  rcases z3 with h | ⟨g', h, h'⟩
                  · exact hN g (by rw [← h, hg])
                  · rw [hg] at h; cases h; omega
                have hj := joined_any (o ++ [(⟨xa, xn⟩ : Nt)]) a7 c7 ob7 w7 z1 (by have := HM.out; simp; omega) (fun q hq => by
                  rcases List.mem_append.1 hq with hq | hq
                  · exact HWo.out q hq
                  · rw [List.mem_singleton] at hq; subst hq; exact hwx) (by have := HM.out; simp; omega)
                have hjl : (joinM (o ++ [(⟨xa, xn⟩ : Nt)])).length ≤ m + 1 := by
                  refine Nat.le_trans (joinL_len _ _) ?_
                  have := HM.out; simp; omega
                have HJL := Lib.hid hjl
                clear z2 z3 e7 z1 hO4 hF4 hB4 hc0 hc1 hrd hjl
                go_wp2_with (fail)
                refine hj.mono ?_
                rintro e8 w8 ⟨a8, n8, c8, ob8, rfl, hn8, hO8, hF8, hN8⟩
                have hF28 := hF7.trans' hF8 (fun i hi h => by have := hN7 i h; omega)
                have hs7 := hF7.size
                have hNn : ∀ g, ob8 = some g → w2.heap.size ≤ g := fun g hg => by
                  rcases hN8 with h | ⟨g', h, h'⟩
                  · exact hN7 g (by rw [← h, hg])
                  · rw [hg] at h; cases h; omega
                have hn8' : n8 ≤ i + 1 := by have := HJL.out; omega
                have HM8 := Lib.hid hn8
                generalize joinM (o ++ [(⟨xa, xn⟩ : Nt)]) = o8 at *
                clear hj hF7 hF8 hn8 hN8
                go_wp2
                go_roundw
                case rel => exact ⟨i + 1, o8, a8, n8, c8, ob8, by omega, by go_num, rfl, HO5, HM8, hn8', hO8, hF28, hNn⟩
                case measure => simp [intOf]; omega
          · obtain rfl : i = k := by omega
            have HE2 : Hid (o = coverO S) := Lib.hid (by rw [HO.out, ← HSL.out, List.take_length])
            have hFe := hFS.trans hF
            clear HO hFS hF
            go_wp2
            go_ret2
            exact RetCov.good HC.out rfl HPS.out HSP.out (by rw [← HE2.out, HM.out]) (by omega) (by rw [← HE2.out]; exact hO) hFe (fun g hg => Nat.le_trans hsw (hN g hg))
end Go.Proofs.Ytbmeeglehbaggaa
