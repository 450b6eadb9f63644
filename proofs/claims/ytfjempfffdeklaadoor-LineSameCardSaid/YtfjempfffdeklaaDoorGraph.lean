import Derived.Test.YtfjempfffdeklaaDoorSl
import Derived.Test.YtfjempfffdeklaaDoorOMat
import Derived.Test.YtfjempfffdeklaaDoorGKey
namespace Go.Proofs.YtfjempfffdeklaaDoor
open Go.RowKit Go.Maps

def Lk.bad (n : Int) (x : Lk) : Prop := x.a < 0 ∨ n ≤ x.a ∨ x.b < 0 ∨ n ≤ x.b ∨ x.c < 1 ∨ 15 < x.c
instance (n : Int) (x : Lk) : Decidable (Lk.bad n x) := by unfold Lk.bad; infer_instance
def Lk.lo (x : Lk) : Int := if x.b < x.a then x.b else x.a
def Lk.hi (x : Lk) : Int := if x.a < x.b then x.b else x.a
def lkErr (n : Int) (seen : List (Int × Int)) : List Lk → Option Int
  | [] => none
  | x :: l => if Lk.bad n x then some 1 else if x.a = x.b then some 3 else if (Lk.lo x, Lk.hi x) ∈ seen then some 5 else lkErr n (seen ++ [(Lk.lo x, Lk.hi x)]) l
theorem lkErr_cons (n : Int) (seen : List (Int × Int)) (x : Lk) (l : List Lk) : lkErr n seen (x :: l) = if Lk.bad n x then some 1 else if x.a = x.b then some 3 else if (Lk.lo x, Lk.hi x) ∈ seen then some 5 else lkErr n (seen ++ [(Lk.lo x, Lk.hi x)]) l := rfl
def graphErr (n : Int) (l : List Lk) : Option Int := if n < 1 ∨ 8 < n then some 1 else lkErr n [] l
theorem zeroUnit {w : World} : (zeroValue 125).run Tryd.prog w = .ok (.agg #[]) w := by kernel_rfl
abbrev seenOf (seen : List (Int × Int)) : DataW Unit := setOf (.agg []) (seen.map fun p => kl2 p.1 p.2)

theorem has_seen {seen : List (Int × Int)} (h : ∀ p ∈ seen, (Lit.int .i64 p.1).wf = true ∧ (Lit.int .i64 p.2).wf = true) {x y : Int} (hx : (Lit.int .i64 x).wf = true) (hy : (Lit.int .i64 y).wf = true) : has (seenOf seen) (kl2 x y) = decide ((x, y) ∈ seen) := by
  unfold seenOf
  rw [has_setOf _ _ _ (fun l hl => by obtain ⟨p, _, rfl⟩ := List.mem_map.1 hl; trivial)]
  rw [List.any_map]
  by_cases hm : (x, y) ∈ seen
  · rw [decide_eq_true hm, List.any_eq_true]
    exact ⟨(x, y), hm, by simp [kl2, Lit.sameKey]⟩
  · rw [decide_eq_false hm, List.any_eq_false]
    intro p hp hc
    apply hm
    have hne : ¬ kl2 p.1 p.2 ≠ kl2 x y := fun hn => by rw [Function.comp, sameKey_ne hn] at hc; cases hc
    have he : kl2 p.1 p.2 = kl2 x y := Classical.not_not.1 hne
    obtain ⟨e1, e2⟩ := kl2_inj (h p hp).1 (h p hp).2 hx hy he
    have : p = (x, y) := Prod.ext e1 e2
    rw [← this]; exact hp

set_option maxRecDepth 100000 in
set_option maxHeartbeats 2000000 in
theorem gcheck_any (n : Int) (l : List Lk) (a : Option Addr) (c : Nat) (w : World) (hL : Links w.heap a l) (hl : l.length ≤ 9223372036854775807) (hw : ∀ x ∈ l, (Lit.int .i64 x.a).wf = true ∧ (Lit.int .i64 x.b).wf = true ∧ (Lit.int .i64 x.c).wf = true) :
    Calls Tryd.prog 86 #[.int .i64 n, .slice a l.length c] w (RetV w (errO (graphErr n l))) := by
  have hmm := @run_makeMap Tryd.prog
  go_enter Tryd.func86, Tryd.ntmps86
  by_cases hb : n < 1 ∨ 8 < n
  · have hX := Lib.hid (show graphErr n l = some 1 from if_pos hb)
    go_wp2
    all_goals go_ret
    all_goals exact RetV.mk (x := errv 1) (by rw [hX.out]; rfl) rfl (Fr.refl _ _)
  · have hX := Lib.hid (show graphErr n l = lkErr n [] l from if_neg hb)
    have n1 : 1 ≤ n := by omega
    have n8 : n ≤ 8 := by omega
    clear hb
    go_wp2
    go_loopw [21] (fun s wr => ∃ (k : Nat) (seen : List (Int × Int)), k ≤ l.length ∧ s = .int .i64 k ∧ wr.ownsMap Tryd.prog 207 unitElem w.heap.size seen.length (seenOf seen) ∧ seen.length ≤ k ∧ (∀ p ∈ seen, (Lit.int .i64 p.1).wf = true ∧ (Lit.int .i64 p.2).wf = true) ∧ Fr (fun _ => False) w wr ∧ Hid (graphErr n l = lkErr n seen (l.drop k))) (fun s _ => l.length - (intOf s).toNat)
    case atStart => exact ⟨0, [], by omega, rfl, World.ownsMap_made _ _ _ _, Nat.le_refl _, (fun p hp => nomatch hp), (Fr.refl _ _).alloc _, hX⟩
    case round =>
      obtain ⟨k, seen, hk, rfl, hown, hsk, hws, hF, hE⟩ := hrel
      have HWS := Lib.hid hws
      clear hws
      by_cases hlt : k < l.length
      · obtain ⟨b, off, rfl, hb, hc⟩ := Recs.pos hL Lk.cells_len (by omega) (by omega)
        obtain ⟨x, hx⟩ : ∃ x, x = nth l k := ⟨_, rfl⟩
        have c0 : wr.cell? ⟨b, off + k * 3, none⟩ = some (.int .i64 x.a) := by rw [hx]; exact (hF.cell (p := ⟨b, off + k * 3, none⟩) hb (fun h => h)).trans (hc w rfl k 0 hlt (by omega))
        have c1 : wr.cell? ⟨b, off + k * 3 + 1, none⟩ = some (.int .i64 x.b) := by rw [hx]; exact (hF.cell (p := ⟨b, off + k * 3 + 1, none⟩) hb (fun h => h)).trans (hc w rfl k 1 hlt (by omega))
        have c2 : wr.cell? ⟨b, off + k * 3 + 2, none⟩ = some (.int .i64 x.c) := by rw [hx]; exact (hF.cell (p := ⟨b, off + k * 3 + 2, none⟩) hb (fun h => h)).trans (hc w rfl k 2 hlt (by omega))
        clear hc
        have hd : l.drop k = x :: l.drop (k + 1) := by rw [hx]; exact drop_nth l k hlt
        have hwx := hw x (by rw [hx]; exact nth_mem l k hlt)
        obtain ⟨xa, xb, xc⟩ := x
        have HD := Lib.hid hd
        have HWX := Lib.hid hwx
        clear hd hx hwx
        simp only at c0 c1 c2
        by_cases hbad : Lk.bad n ⟨xa, xb, xc⟩
        · have hX := Lib.hid (show graphErr n l = some 1 by rw [hE.out, HD.out]; exact if_pos hbad)
          have hbad2 : xa < 0 ∨ n ≤ xa ∨ xb < 0 ∨ n ≤ xb ∨ xc < 1 ∨ 15 < xc := hbad
          clear hbad
          go_wp2
          all_goals go_ret
          all_goals exact RetV.mk (x := errv 1) (by rw [hX.out]; rfl) rfl (hF.alloc _)
        · have HB := Lib.hid hbad
          obtain ⟨b1, b2, b3, b4, b5, b6⟩ : 0 ≤ xa ∧ xa < n ∧ 0 ≤ xb ∧ xb < n ∧ 1 ≤ xc ∧ xc ≤ 15 := by
            have h : ¬ (xa < 0 ∨ n ≤ xa ∨ xb < 0 ∨ n ≤ xb ∨ xc < 1 ∨ 15 < xc) := hbad
            omega
          clear hbad
          by_cases hab : xa = xb
          · have hX := Lib.hid (show graphErr n l = some 3 by rw [hE.out, HD.out]; rw [lkErr_cons, if_neg HB.out]; exact if_pos hab)
            have heq : (xa == xb) = true := by simp [hab]
            clear hab
            go_wp2
            go_ret
            exact RetV.mk (x := errv 3) (by rw [hX.out]; rfl) rfl (hF.alloc _)
          · have heq : (xa == xb) = false := by simp [hab]
            have HAB := Lib.hid hab
            by_cases hlt2 : xa < xb
            · have hge : ¬ xb < xa := by omega
              have hkey := key2 xa xb HWX.out.1 HWX.out.2.1
              have hlh : (Lk.lo ⟨xa, xb, xc⟩, Lk.hi ⟨xa, xb, xc⟩) = (xa, xb) := by
                simp only [Lk.lo, Lk.hi, Prod.mk.injEq]
                constructor <;> split <;> omega
              have HK := Lib.hid hkey
              have HLH := Lib.hid hlh
              clear hlh
              by_cases hin : (xa, xb) ∈ seen
              · have hhas : Maps.has (seenOf seen) (kl2 xa xb) = true := by rw [has_seen HWS.out HWX.out.1 HWX.out.2.1]; exact decide_eq_true hin
                have hX := Lib.hid (show graphErr n l = some 5 by rw [hE.out, HD.out]; rw [lkErr_cons, if_neg HB.out, if_neg HAB.out, HLH.out, if_pos hin])
                clear hin hkey
                go_wp2_with (at_lookup; refine wpList_lookup_own_unit _ rfl _ _ 206 rfl 207 125 keyed2 Tryd.underlying206 zeroUnit w.heap.size seen.length (seenOf seen) rfl ((hown.alloc _).alloc _) _ (kl2 xa xb) rfl HK.out ?_)
                go_ret
                exact RetV.mk (x := errv 5) (by rw [hX.out]; rfl) rfl (((hF.alloc _).alloc _).alloc _)
              · have hhas : Maps.has (seenOf seen) (kl2 xa xb) = false := by rw [has_seen HWS.out HWX.out.1 HWX.out.2.1]; exact decide_eq_false hin
                have hX := Lib.hid (show graphErr n l = lkErr n (seen ++ [(xa, xb)]) (l.drop (k + 1)) by rw [hE.out, HD.out]; rw [lkErr_cons, if_neg HB.out, if_neg HAB.out, HLH.out, if_neg hin])
                clear hin hkey
                go_wp2_with (first | (at_lookup; refine wpList_lookup_own_unit _ rfl _ _ 206 rfl 207 125 keyed2 Tryd.underlying206 zeroUnit w.heap.size seen.length (seenOf seen) rfl ((hown.alloc _).alloc _) _ (kl2 xa xb) rfl HK.out ?_) | (at_mapUpdate; refine wpList_mapUpdate_own _ rfl _ _ _ 206 rfl 207 125 keyed2 Tryd.underlying206 unitElem w.heap.size seen.length (seenOf seen) rfl (((hown.alloc _).alloc _).alloc _) (by unfold maxLen; omega) _ _ (kl2 xa xb) rfl rfl HK.out _ [] unitElem_mk ?_))
                intro w7 hown7 hgrow7
                go_wp2
                have hown8 : w7.ownsMap Tryd.prog 207 unitElem w.heap.size (seen ++ [(xa, xb)]).length (seenOf (seen ++ [(xa, xb)])) := by
                  rw [List.length_append, seenOf, List.map_append]
                  show w7.ownsMap _ _ _ _ _ (setOf _ (_ ++ [kl2 xa xb]))
                  rw [setOf_snoc]
                  exact hown7
                have hF8 := Fr.grown (((hF.alloc _).alloc _).alloc _) hgrow7 (fun q hq h => by cases hq; omega)
                go_roundw
                case rel => exact ⟨k + 1, seen ++ [(xa, xb)], by omega, by go_num, hown8, by simp; omega, (fun p hp => by
                  rcases List.mem_append.1 hp with hp | hp
                  · exact HWS.out p hp
                  · simp at hp; subst hp; exact ⟨HWX.out.1, HWX.out.2.1⟩), hF8, hX⟩
                case measure => simp [intOf]; omega
            · have hlt3 : xb < xa := by omega
              have hkey := key2 xb xa HWX.out.2.1 HWX.out.1
              have hlh : (Lk.lo ⟨xa, xb, xc⟩, Lk.hi ⟨xa, xb, xc⟩) = (xb, xa) := by
                simp only [Lk.lo, Lk.hi, Prod.mk.injEq]
                constructor <;> split <;> omega
              have HK := Lib.hid hkey
              have HLH := Lib.hid hlh
              clear hlh
              by_cases hin : (xb, xa) ∈ seen
              · have hhas : Maps.has (seenOf seen) (kl2 xb xa) = true := by rw [has_seen HWS.out HWX.out.2.1 HWX.out.1]; exact decide_eq_true hin
                have hX := Lib.hid (show graphErr n l = some 5 by rw [hE.out, HD.out]; rw [lkErr_cons, if_neg HB.out, if_neg HAB.out, HLH.out, if_pos hin])
                clear hin hkey
                go_wp2_with (at_lookup; refine wpList_lookup_own_unit _ rfl _ _ 206 rfl 207 125 keyed2 Tryd.underlying206 zeroUnit w.heap.size seen.length (seenOf seen) rfl ((hown.alloc _).alloc _) _ (kl2 xb xa) rfl HK.out ?_)
                go_ret
                exact RetV.mk (x := errv 5) (by rw [hX.out]; rfl) rfl (((hF.alloc _).alloc _).alloc _)
              · have hhas : Maps.has (seenOf seen) (kl2 xb xa) = false := by rw [has_seen HWS.out HWX.out.2.1 HWX.out.1]; exact decide_eq_false hin
                have hX := Lib.hid (show graphErr n l = lkErr n (seen ++ [(xb, xa)]) (l.drop (k + 1)) by rw [hE.out, HD.out]; rw [lkErr_cons, if_neg HB.out, if_neg HAB.out, HLH.out, if_neg hin])
                clear hin hkey
                go_wp2_with (first | (at_lookup; refine wpList_lookup_own_unit _ rfl _ _ 206 rfl 207 125 keyed2 Tryd.underlying206 zeroUnit w.heap.size seen.length (seenOf seen) rfl ((hown.alloc _).alloc _) _ (kl2 xb xa) rfl HK.out ?_) | (at_mapUpdate; refine wpList_mapUpdate_own _ rfl _ _ _ 206 rfl 207 125 keyed2 Tryd.underlying206 unitElem w.heap.size seen.length (seenOf seen) rfl (((hown.alloc _).alloc _).alloc _) (by unfold maxLen; omega) _ _ (kl2 xb xa) rfl rfl HK.out _ [] unitElem_mk ?_))
                intro w7 hown7 hgrow7
                go_wp2
                have hown8 : w7.ownsMap Tryd.prog 207 unitElem w.heap.size (seen ++ [(xb, xa)]).length (seenOf (seen ++ [(xb, xa)])) := by
                  rw [List.length_append, seenOf, List.map_append]
                  show w7.ownsMap _ _ _ _ _ (setOf _ (_ ++ [kl2 xb xa]))
                  rw [setOf_snoc]
                  exact hown7
                have hF8 := Fr.grown (((hF.alloc _).alloc _).alloc _) hgrow7 (fun q hq h => by cases hq; omega)
                go_roundw
                case rel => exact ⟨k + 1, seen ++ [(xb, xa)], by omega, by go_num, hown8, by simp; omega, (fun p hp => by
                  rcases List.mem_append.1 hp with hp | hp
                  · exact HWS.out p hp
                  · simp at hp; subst hp; exact ⟨HWX.out.2.1, HWX.out.1⟩), hF8, hX⟩
                case measure => simp [intOf]; omega
      · obtain rfl : k = l.length := by omega
        have hX2 := Lib.hid (show graphErr n l = none by rw [hE.out, List.drop_length]; rfl)
        go_wp2
        go_ret
        exact RetV.mk (x := .nilIface) (by rw [hX2.out]; rfl) rfl hF
end Go.Proofs.YtfjempfffdeklaaDoor
