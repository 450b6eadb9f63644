import Derived.Test.YtgfbkebbnfcgkaaRecs
import Derived.Test.YtgfbkebbnfcgkaaRows
import Derived.Maps.OwnSet
import Derived.DeepKeys5
import Derived.Test.YtgfbkebbnfcgkaaQRt7
import Derived.Test.YtgfbkebbnfcgkaaQRt28
section
namespace Go
open Go.RowKit Go.Maps

/-- A pair of integers as a map's key. -/
def kl2 (x y : Int) : Lit := .string (keyBytes [.int .i64 x, .int .i64 y])
theorem key2_gen {P : Program} {t e : TypeId} (hk : P.keyType t = true) (hu : P.underlying t = some (.array 2 e)) (he : P.underlying e = some (.int .i64)) (ct : P.cellsOf t = 2) (ce : P.cellsOf e = 1) (hs : 0 < P.types.size)
    (x y : Int) (hx : (Lit.int .i64 x).wf = true) (hy : (Lit.int .i64 y).wf = true) : keyOf P t (.agg #[.int .i64 x, .int .i64 y]) = some (kl2 x y) := by
  obtain ⟨m, hm⟩ : ∃ m, P.types.size = m + 1 := ⟨P.types.size - 1, by omega⟩
  have h1 : ∀ z, (Lit.int .i64 z).wf = true → P.keyLits (m + 1) e [.int .i64 z] = some [.int .i64 z] := fun z hz => by
    simp only [Program.keyLits, he, hz, and_self, if_true]
  have hr : List.range 2 = [0, 1] := rfl
  have h2 : P.keyLits (m + 1 + 1) t [.int .i64 x, .int .i64 y] = some [.int .i64 x, .int .i64 y] := by
    unfold Program.keyLits
    simp only [hu, ct, ce, hr]
    simp [h1 x hx, h1 y hy]
  have hf : (Value.agg #[.int .i64 x, .int .i64 y]).formed P t = true := by simp [Value.formed, hu, ct]
  unfold keyOf
  simp only [hu, hk, hf, Bool.and_self, if_true, hm]
  have hc : (Value.agg #[.int .i64 x, .int .i64 y]).cells.toList = [.int .i64 x, .int .i64 y] := rfl
  rw [hc, h2]
  rfl
end Go
namespace Go.Proofs.Ytgfbkebbnfcgkaa
open Go.RowKit Go.Maps

theorem laidOutG : laidOutB Try.prog = true := by kernel_rfl
theorem und2 : Try.prog.underlying 91 = some (.array 2 3) := by kernel_rfl
theorem key2 (x y : Int) (hx : (Lit.int .i64 x).wf = true) (hy : (Lit.int .i64 y).wf = true) : keyOf Try.prog 91 (.agg #[.int .i64 x, .int .i64 y]) = some (kl2 x y) :=
  key2_gen (by kernel_rfl) und2 Try.underlying3 (by kernel_rfl) (by kernel_rfl) (of_decide_eq_true (by kernel_rfl)) x y hx hy
theorem keyed2 : Keyed Try.prog 91 := Keyed.of_law (deep_law_laid laidOutG (m := Try.prog.types.size + 1) (of_decide_eq_true (by kernel_rfl)) (of_decide_eq_true (by kernel_rfl)) (by kernel_rfl) (by kernel_rfl))
theorem kl2_inj {x y x' y' : Int} (hx : (Lit.int .i64 x).wf = true) (hy : (Lit.int .i64 y).wf = true) (hx' : (Lit.int .i64 x').wf = true) (hy' : (Lit.int .i64 y').wf = true) (h : kl2 x y = kl2 x' y') : x = x' ∧ y = y' := by
  have := keyed2.inj (key2 x y hx hy) (by rw [h]; exact key2 x' y' hx' hy')
  simp at this
  exact this
end Go.Proofs.Ytgfbkebbnfcgkaa
end

section
namespace Go.Proofs.Ytgfbkebbnfcgkaa
open Go.RowKit Go.Maps

def Lk.bad (n : Int) (x : Lk) : Prop := x.a < 0 ∨ n ≤ x.a ∨ x.b < 0 ∨ n ≤ x.b ∨ x.c < 1 ∨ 15 < x.c
instance (n : Int) (x : Lk) : Decidable (Lk.bad n x) := by unfold Lk.bad; infer_instance
def Lk.lo (x : Lk) : Int := if x.b < x.a then x.b else x.a
def Lk.hi (x : Lk) : Int := if x.a < x.b then x.b else x.a
def lkErr (n : Int) (seen : List (Int × Int)) : List Lk → Option Int
  | [] => none
  | x :: l => if Lk.bad n x then some 1 else if x.a = x.b then some 3 else if (Lk.lo x, Lk.hi x) ∈ seen then some 5 else lkErr n (seen ++ [(Lk.lo x, Lk.hi x)]) l
theorem lkErr_cons (n : Int) (seen : List (Int × Int)) (x : Lk) (l : List Lk) : lkErr n seen (x :: l) = if Lk.bad n x then some 1 else if x.a = x.b then some 3 else if (Lk.lo x, Lk.hi x) ∈ seen then some 5 else lkErr n (seen ++ [(Lk.lo x, Lk.hi x)]) l := rfl
def graphErr (n : Int) (l : List Lk) : Option Int := if n < 1 ∨ 8 < n then some 1 else lkErr n [] l
theorem zeroUnit {w : World} : (zeroValue 92).run Try.prog w = .ok (.agg #[]) w := by kernel_rfl
abbrev seenOf (seen : List (Int × Int)) : DataW Unit := setOf (.agg []) (seen.map fun p => kl2 p.1 p.2)

theorem has_seen {seen : List (Int × Int)} (h : ∀ p ∈ seen, (Lit.int .i64 p.1).wf = true ∧ (Lit.int .i64 p.2).wf = true) {x y : Int} (hx : (Lit.int .i64 x).wf = true) (hy : (Lit.int .i64 y).wf = true) : has (seenOf seen) (kl2 x y) = decide ((x, y) ∈ seen) := by
  unfold seenOf
  rw [has_setOf _ _ _ (fun l hl => by obtain ⟨p, _, rfl⟩ := List.mem_map.1 hl; trivial)]
  rw [List.any_map]
  by_cases hm : (x, y) ∈ seen
  · rw [decide_eq_true hm, List.any_eq_true]
    exact ⟨(x, y), hm, by simp [kl2, Lit.sameKey]⟩
  · rw [decide_eq_false hm, List.any_eq_false]
    intro p hp hc
    apply hm
    have hne : ¬ kl2 p.1 p.2 ≠ kl2 x y := fun hn => by rw [Function.comp, sameKey_ne hn] at hc; cases hc
    have he : kl2 p.1 p.2 = kl2 x y := Classical.not_not.1 hne
    obtain ⟨e1, e2⟩ := kl2_inj (h p hp).1 (h p hp).2 hx hy he
    have : p = (x, y) := Prod.ext e1 e2
    rw [← this]; exact hp

set_option maxRecDepth 100000 in
set_option maxHeartbeats 2000000 in
theorem gcheck_any (n : Int) (l : List Lk) (a : Option Addr) (c : Nat) (w : World) (hL : Links w.heap a l) (hl : l.length ≤ 9223372036854775807) (hw : ∀ x ∈ l, (Lit.int .i64 x.a).wf = true ∧ (Lit.int .i64 x.b).wf = true ∧ (Lit.int .i64 x.c).wf = true) :
    Calls Try.prog 12 #[.int .i64 n, .slice a l.length c] w (RetV w (errO (graphErr n l))) := by
  have hmm := @run_makeMap Try.prog
  go_enter Try.func12, Try.ntmps12
  by_cases hb : n < 1 ∨ 8 < n
  · have hX := Lib.hid (show graphErr n l = some 1 from if_pos hb)
    go_wp2
    all_goals go_ret
    all_goals exact RetV.mk (x := errv 1) (by rw [hX.out]; rfl) rfl (Fr.refl _ _)
  · have hX := Lib.hid (show graphErr n l = lkErr n [] l from if_neg hb)
    have n1 : 1 ≤ n := by omega
    have n8 : n ≤ 8 := by omega
    clear hb
    go_wp2
    go_loopw [21] (fun s wr => ∃ (k : Nat) (seen : List (Int × Int)), k ≤ l.length ∧ s = .int .i64 k ∧ wr.ownsMap Try.prog 91 unitElem w.heap.size seen.length (seenOf seen) ∧ seen.length ≤ k ∧ (∀ p ∈ seen, (Lit.int .i64 p.1).wf = true ∧ (Lit.int .i64 p.2).wf = true) ∧ Fr (fun _ => False) w wr ∧ Hid (graphErr n l = lkErr n seen (l.drop k))) (fun s _ => l.length - (intOf s).toNat)
    case atStart => exact ⟨0, [], by omega, rfl, World.ownsMap_made _ _ _ _, Nat.le_refl _, (fun p hp => nomatch hp), (Fr.refl _ _).alloc _, hX⟩
    case round =>
      obtain ⟨k, seen, hk, rfl, hown, hsk, hws, hF, hE⟩ := hrel
      have HWS := Lib.hid hws
      clear hws
      by_cases hlt : k < l.length
      · obtain ⟨b, off, rfl, hb, hc⟩ := Recs.pos hL Lk.cells_len (by omega) (by omega)
        obtain ⟨x, hx⟩ : ∃ x, x = nth l k := ⟨_, rfl⟩
        have c0 : wr.cell? ⟨b, off + k * 3, none⟩ = some (.int .i64 x.a) := by rw [hx]; exact (hF.cell (p := ⟨b, off + k * 3, none⟩) hb (fun h => h)).trans (hc w rfl k 0 hlt (by omega))
        have c1 : wr.cell? ⟨b, off + k * 3 + 1, none⟩ = some (.int .i64 x.b) := by rw [hx]; exact (hF.cell (p := ⟨b, off + k * 3 + 1, none⟩) hb (fun h => h)).trans (hc w rfl k 1 hlt (by omega))
        have c2 : wr.cell? ⟨b, off + k * 3 + 2, none⟩ = some (.int .i64 x.c) := by rw [hx]; exact (hF.cell (p := ⟨b, off + k * 3 + 2, none⟩) hb (fun h => h)).trans (hc w rfl k 2 hlt (by omega))
        clear hc
        have hd : l.drop k = x :: l.drop (k + 1) := by rw [hx]; exact drop_nth l k hlt
        have hwx := hw x (by rw [hx]; exact nth_mem l k hlt)
        obtain ⟨xa, xb, xc⟩ := x
        have HD := Lib.hid hd
        have HWX := Lib.hid hwx
        clear hd hx hwx
        simp only at c0 c1 c2
        by_cases hbad : Lk.bad n ⟨xa, xb, xc⟩
        · have hX := Lib.hid (show graphErr n l = some 1 by rw [hE.out, HD.out]; exact if_pos hbad)
          have hbad2 : xa < 0 ∨ n ≤ xa ∨ xb < 0 ∨ n ≤ xb ∨ xc < 1 ∨ 15 < xc := hbad
          clear hbad
          go_wp2
          all_goals go_ret
          all_goals exact RetV.mk (x := errv 1) (by rw [hX.out]; rfl) rfl (hF.alloc _)
        · have HB := Lib.hid hbad
          obtain ⟨b1, b2, b3, b4, b5, b6⟩ : 0 ≤ xa ∧ xa < n ∧ 0 ≤ xb ∧ xb < n ∧ 1 ≤ xc ∧ xc ≤ 15 := by
            have h : ¬ (xa < 0 ∨ n ≤ xa ∨ xb < 0 ∨ n ≤ xb ∨ xc < 1 ∨ 15 < xc) := hbad
            omega
          clear hbad
          by_cases hab : xa = xb
          · have hX := Lib.hid (show graphErr n l = some 3 by rw [hE.out, HD.out]; rw [lkErr_cons, if_neg HB.out]; exact if_pos hab)
            have heq : (xa == xb) = true := by simp [hab]
            clear hab
            go_wp2
            go_ret
            exact RetV.mk (x := errv 3) (by rw [hX.out]; rfl) rfl (hF.alloc _)
          · have heq : (xa == xb) = false := by simp [hab]
            have HAB := Lib.hid hab
            by_cases hlt2 : xa < xb
            · have hge : ¬ xb < xa := by omega
              have hkey := key2 xa xb HWX.out.1 HWX.out.2.1
              have hlh : (Lk.lo ⟨xa, xb, xc⟩, Lk.hi ⟨xa, xb, xc⟩) = (xa, xb) := by
                simp only [Lk.lo, Lk.hi, Prod.mk.injEq]
                constructor <;> split <;> omega
              have HK := Lib.hid hkey
              have HLH := Lib.hid hlh
              clear hlh
              by_cases hin : (xa, xb) ∈ seen
              · have hhas : Maps.has (seenOf seen) (kl2 xa xb) = true := by rw [has_seen HWS.out HWX.out.1 HWX.out.2.1]; exact decide_eq_true hin
                have hX := Lib.hid (show graphErr n l = some 5 by rw [hE.out, HD.out]; rw [lkErr_cons, if_neg HB.out, if_neg HAB.out, HLH.out, if_pos hin])
                clear hin hkey
                go_wp2_with (at_lookup; refine wpList_lookup_own_unit _ rfl _ _ 90 rfl 91 92 keyed2 Try.underlying90 zeroUnit w.heap.size seen.length (seenOf seen) rfl ((hown.alloc _).alloc _) _ (kl2 xa xb) rfl HK.out ?_)
                go_ret
                exact RetV.mk (x := errv 5) (by rw [hX.out]; rfl) rfl (((hF.alloc _).alloc _).alloc _)
              · have hhas : Maps.has (seenOf seen) (kl2 xa xb) = false := by rw [has_seen HWS.out HWX.out.1 HWX.out.2.1]; exact decide_eq_false hin
                have hX := Lib.hid (show graphErr n l = lkErr n (seen ++ [(xa, xb)]) (l.drop (k + 1)) by rw [hE.out, HD.out]; rw [lkErr_cons, if_neg HB.out, if_neg HAB.out, HLH.out, if_neg hin])
                clear hin hkey
                go_wp2_with (first | (at_lookup; refine wpList_lookup_own_unit _ rfl _ _ 90 rfl 91 92 keyed2 Try.underlying90 zeroUnit w.heap.size seen.length (seenOf seen) rfl ((hown.alloc _).alloc _) _ (kl2 xa xb) rfl HK.out ?_) | (at_mapUpdate; refine wpList_mapUpdate_own _ rfl _ _ _ 90 rfl 91 92 keyed2 Try.underlying90 unitElem w.heap.size seen.length (seenOf seen) rfl (((hown.alloc _).alloc _).alloc _) (by unfold maxLen; omega) _ _ (kl2 xa xb) rfl rfl HK.out _ [] unitElem_mk ?_))
                intro w7 hown7 hgrow7
                go_wp2
                have hown8 : w7.ownsMap Try.prog 91 unitElem w.heap.size (seen ++ [(xa, xb)]).length (seenOf (seen ++ [(xa, xb)])) := by
                  rw [List.length_append, seenOf, List.map_append]
                  show w7.ownsMap _ _ _ _ _ (setOf _ (_ ++ [kl2 xa xb]))
                  rw [setOf_snoc]
                  exact hown7
                have hF8 := Fr.grown (((hF.alloc _).alloc _).alloc _) hgrow7 (fun q hq h => by cases hq; omega)
                go_roundw
                case rel => exact ⟨k + 1, seen ++ [(xa, xb)], by omega, by go_num, hown8, by simp; omega, (fun p hp => by
                  rcases List.mem_append.1 hp with hp | hp
                  · exact HWS.out p hp
                  · simp at hp; subst hp; exact ⟨HWX.out.1, HWX.out.2.1⟩), hF8, hX⟩
                case measure => simp [intOf]; omega
            · have hlt3 : xb < xa := by omega
              have hkey := key2 xb xa HWX.out.2.1 HWX.out.1
              have hlh : (Lk.lo ⟨xa, xb, xc⟩, Lk.hi ⟨xa, xb, xc⟩) = (xb, xa) := by
                simp only [Lk.lo, Lk.hi, Prod.mk.injEq]
                constructor <;> split <;> omega
              have HK := Lib.hid hkey
              have HLH := Lib.hid hlh
              clear hlh
              by_cases hin : (xb, xa) ∈ seen
              · have hhas : Maps.has (seenOf seen) (kl2 xb xa) = true := by rw [has_seen HWS.out HWX.out.2.1 HWX.out.1]; exact decide_eq_true hin
                have hX := Lib.hid (show graphErr n l = some 5 by rw [hE.out, HD.out]; rw [lkErr_cons, if_neg HB.out, if_neg HAB.out, HLH.out, if_pos hin])
                clear hin hkey
                go_wp2_with (at_lookup; refine wpList_lookup_own_unit _ rfl _ _ 90 rfl 91 92 keyed2 Try.underlying90 zeroUnit w.heap.size seen.length (seenOf seen) rfl ((hown.alloc _).alloc _) _ (kl2 xb xa) rfl HK.out ?_)
                go_ret
                exact RetV.mk (x := errv 5) (by rw [hX.out]; rfl) rfl (((hF.alloc _).alloc _).alloc _)
              · have hhas : Maps.has (seenOf seen) (kl2 xb xa) = false := by rw [has_seen HWS.out HWX.out.2.1 HWX.out.1]; exact decide_eq_false hin
                have hX := Lib.hid (show graphErr n l = lkErr n (seen ++ [(xb, xa)]) (l.drop (k + 1)) by rw [hE.out, HD.out]; rw [lkErr_cons, if_neg HB.out, if_neg HAB.out, HLH.out, if_neg hin])
                clear hin hkey
                go_wp2_with (first | (at_lookup; refine wpList_lookup_own_unit _ rfl _ _ 90 rfl 91 92 keyed2 Try.underlying90 zeroUnit w.heap.size seen.length (seenOf seen) rfl ((hown.alloc _).alloc _) _ (kl2 xb xa) rfl HK.out ?_) | (at_mapUpdate; refine wpList_mapUpdate_own _ rfl _ _ _ 90 rfl 91 92 keyed2 Try.underlying90 unitElem w.heap.size seen.length (seenOf seen) rfl (((hown.alloc _).alloc _).alloc _) (by unfold maxLen; omega) _ _ (kl2 xb xa) rfl rfl HK.out _ [] unitElem_mk ?_))
                intro w7 hown7 hgrow7
                go_wp2
                have hown8 : w7.ownsMap Try.prog 91 unitElem w.heap.size (seen ++ [(xb, xa)]).length (seenOf (seen ++ [(xb, xa)])) := by
                  rw [List.length_append, seenOf, List.map_append]
                  show w7.ownsMap _ _ _ _ _ (setOf _ (_ ++ [kl2 xb xa]))
                  rw [setOf_snoc]
                  exact hown7
                have hF8 := Fr.grown (((hF.alloc _).alloc _).alloc _) hgrow7 (fun q hq h => by cases hq; omega)
                go_roundw
                case rel => exact ⟨k + 1, seen ++ [(xb, xa)], by omega, by go_num, hown8, by simp; omega, (fun p hp => by
                  rcases List.mem_append.1 hp with hp | hp
                  · exact HWS.out p hp
                  · simp at hp; subst hp; exact ⟨HWX.out.2.1, HWX.out.1⟩), hF8, hX⟩
                case measure => simp [intOf]; omega
      · obtain rfl : k = l.length := by omega
        have hX2 := Lib.hid (show graphErr n l = none by rw [hE.out, List.drop_length]; rfl)
        go_wp2
        go_ret
        exact RetV.mk (x := .nilIface) (by rw [hX2.out]; rfl) rfl hF
end Go.Proofs.Ytgfbkebbnfcgkaa
end

section
namespace Go.Proofs.Ytgfbkebbnfcgkaa
open Go.RowKit

def put2 (rs : List (List Int)) (i k : Nat) (x : Int) : List (List Int) := rs.set i ((nth rs i).set k x)
def putL (rs : List (List Int)) (x : Lk) : List (List Int) := put2 (put2 rs x.a.toNat x.b.toNat x.c) x.b.toNat x.a.toNat x.c
def costsM (n : Nat) (l : List Lk) : List (List Int) := l.foldl putL (ran n (oneRow n))
def costsE (n : Int) (l : List Lk) : Except Int (List (List Int)) :=
  match graphErr n l with
  | some k => .error k
  | none => .ok (costsM n.toNat l)
theorem put2_len (rs : List (List Int)) (i k : Nat) (x : Int) : (put2 rs i k x).length = rs.length := List.length_set
theorem put2_sq {n : Nat} {rs : List (List Int)} (h : Sq n rs) (i k : Nat) (x : Int) (hi : i < n) : Sq n (put2 rs i k x) := by
  refine ⟨by rw [put2_len, h.len], fun j hj => ?_⟩
  unfold put2
  rw [nth_set rs i j _ (by rw [h.len]; exact hi)]
  split
  · rw [List.length_set]; exact h.rows i hi
  · exact h.rows j hj
theorem put2_at {n : Nat} {rs : List (List Int)} (h : Sq n rs) (i k : Nat) (x : Int) (hi : i < n) (hk : k < n) (p q : Nat) : at2 (put2 rs i k x) p q = if p = i ∧ q = k then x else at2 rs p q := by
  unfold at2 put2
  rw [nth_set rs i p _ (by rw [h.len]; exact hi)]
  by_cases hp : p = i
  · subst hp
    rw [if_pos rfl, nth_set _ _ _ _ (by rw [h.rows p hi]; exact hk)]
    by_cases hq : q = k
    · rw [if_pos hq, if_pos ⟨rfl, hq⟩]
    · rw [if_neg hq, if_neg (fun hc => hq hc.2)]
  · rw [if_neg hp, if_neg (fun hc => hp hc.1)]
theorem lkErr_ok {n : Int} : ∀ (l : List Lk) (seen : List (Int × Int)), lkErr n seen l = none → ∀ x ∈ l, ¬ Lk.bad n x ∧ x.a ≠ x.b := by
  intro l
  induction l with
  | nil => intro _ _ x hx; cases hx
  | cons y l ih =>
    intro seen h x hx
    rw [lkErr_cons] at h
    split at h
    · cases h
    · split at h
      · cases h
      · split at h
        · cases h
        · rename_i h1 h2 h3
          rcases List.mem_cons.1 hx with rfl | hx
          · exact ⟨h1, h2⟩
          · exact ih _ h x hx

theorem putL_sq {n : Nat} {rs : List (List Int)} (h : Sq n rs) (x : Lk) (ha : x.a.toNat < n) (hb : x.b.toNat < n) : Sq n (putL rs x) := put2_sq (put2_sq h _ _ _ ha) _ _ _ hb
theorem one_sq (n : Nat) : Sq n (ran n (oneRow n)) := ⟨ran_len _ _, fun i hi => by rw [nth_ran n _ i hi]; simp [oneRow]⟩
theorem fold_sq {n : Nat} : ∀ (l : List Lk) (rs : List (List Int)), Sq n rs → (∀ x ∈ l, x.a.toNat < n ∧ x.b.toNat < n) → Sq n (l.foldl putL rs) := by
  intro l
  induction l with
  | nil => intro rs h _; exact h
  | cons x l ih => intro rs h hl; exact ih _ (putL_sq h x (hl x (by simp)).1 (hl x (by simp)).2) (fun y hy => hl y (by simp [hy]))

set_option maxRecDepth 100000 in
set_option maxHeartbeats 2000000 in
theorem costs_any (n : Int) (l : List Lk) (a : Option Addr) (c : Nat) (w : World) (hL : Links w.heap a l) (hl : l.length ≤ 9223372036854775807) (hw : ∀ x ∈ l, (Lit.int .i64 x.a).wf = true ∧ (Lit.int .i64 x.b).wf = true ∧ (Lit.int .i64 x.c).wf = true) :
    Calls Try.prog 4 #[.int .i64 n, .slice a l.length c] w (RetMat w (costsE n l)) := by
  go_enter Try.func4, Try.ntmps4
  go_wp2_with (go_at_call 12; refine (gcheck_any n l a c _ hL hl hw).mono ?_)
  intro e1 w1 R1
  obtain ⟨rfl, hF1⟩ := R1
  cases hg : graphErr n l with
  | some k =>
    have hX := Lib.hid (show costsE n l = .error k by unfold costsE; rw [hg])
    clear hg
    rw [show errO (some k) = errv k from rfl]
    go_wp2
    go_ret2
    exact RetMat.err hX.out rfl hF1
  | none =>
    have hX := Lib.hid (show costsE n l = .ok (costsM n.toNat l) by unfold costsE; rw [hg])
    have hn : 1 ≤ n ∧ n ≤ 8 := by
      unfold graphErr at hg
      split at hg
      · cases hg
      · omega
    have hok : ∀ x ∈ l, ¬ Lk.bad n x ∧ x.a ≠ x.b := by
      unfold graphErr at hg
      split at hg
      · cases hg
      · exact lkErr_ok l [] hg
    clear hg
    obtain ⟨n1, n8⟩ := hn
    obtain ⟨n, rfl⟩ := Int.eq_ofNat_of_zero_le (show 0 ≤ n by omega)
    rw [Int.toNat_natCast] at hX
    rw [show errO none = .nilIface from rfl]
    have HOK := Lib.hid hok
    clear hok
    go_wp2
    go_loopw [19, 7] (fun s19 s7 wr => ∃ (i : Nat) (a : Option Addr) (c : Nat) (ob : Option Nat) (G C : Nat → Nat), i ≤ n ∧ s19 = .int .i64 i ∧ s7 = .slice a i c ∧ OMat wr.heap w.heap.size 31 3 a c ob (ran i (oneRow n)) G C ∧ Fr (fun _ => False) w wr) (fun s _ _ => n - (intOf s).toNat)
    case atStart => exact ⟨0, none, 0, none, fun _ => 0, fun _ => 0, by omega, rfl, rfl, OMat.nil _ _ _ _ _ _, hF1⟩
    case round =>
      obtain ⟨i, ao, co, ob, G, C, hi, rfl, rfl, hM, hF⟩ := hrel
      by_cases hlt : i < n
      · have hlit := (Ownd.made wr 3 1 1 [.int .i64 16] rfl (by decide)).rd
        go_wp2_with (go_at_call 13; refine (repeat_int 16 _ 1 n _ hlit (by omega) (by omega)).mono ?_)
        intro e2 w2 R2
        obtain ⟨a1, c1, ob1, rfl, hO1, hF2, hN1⟩ := R2
        have hFw1 : Fr (fun _ => False) w w2 := (hF.alloc _).trans hF2
        have hM1 := hM.fr ((Fr.refl _ wr).alloc (.cells #[.int .i64 16] 3) |>.trans hF2) (fun _ _ _ h => h)
        obtain ⟨g, rfl, rfl, hg, hc, hfz⟩ := hO1.pos (by omega)
        have hgn : wr.heap.size < g := by have := hN1 g rfl; simp at this; omega
        have hci := (hc i (by omega)).trans (ivals_get .i64 (List.replicate n (16 : Int)) i (by simpa using hlt))
        have hfi := hfz i
        have hO2 : Ownd (w2.setCell ⟨g, i, none⟩ (.int .i64 0)).heap 3 1 (some ⟨g, 0, none⟩) n c1 (ivals .i64 (oneRow n i)) (some g) := by
          have := hO1.set rfl i (.int .i64 0)
          have e : (ivals .i64 (List.replicate n (16 : Int))).set i (.int .i64 0) = ivals .i64 (oneRow n i) := by simp [ivals, oneRow, List.map_set]
          rw [e] at this
          exact this
        have hrl : (oneRow n i).length = n := by simp [oneRow]
        have hob : ob ≠ some g := fun h => by have := (hM.top.lt g h); omega
        have hGg : ∀ j, j < i → G j ≠ g := fun j hj h => by have := (hM.row j (by simpa using hj)).lt _ rfl; omega
        have hlen : (ran i (oneRow n)).length = i := ran_len _ _
        have hM2 := hM1.fr' (w' := w2.setCell ⟨g, i, none⟩ (.int .i64 0)) (S := fun k => k = g) ((Fr.refl _ _).at1 i _) (fun k hk => by subst hk; exact ⟨fun j hj => hGg j (by rw [hlen] at hj; exact hj), hob⟩)
        have htop := (hM2.alloc (.cells #[.slice (some ⟨g, 0, none⟩) n c1] 31)).top
        rw [hlen] at htop
        have hFw2 : Fr (fun _ => False) w (w2.setCell ⟨g, i, none⟩ (.int .i64 0)) := hFw1.setCell (fun h => by have := hF.size; simp only at h; omega) _
        have hrd := (Ownd.made (w2.setCell ⟨g, i, none⟩ (.int .i64 0)) 31 1 1 [.slice (some ⟨g, 0, none⟩) n c1] rfl (by decide)).rd
        rw [World.size_setCell] at hrd
        clear hc hfz hO1 hM1
        go_wp2_with (at_builtin; refine wpList_app rfl _ _ 23 rfl Try.underlying23 infoInts rfl (by decide) rfl rfl htop hrd (by simp [Value.oneCell']) (by omega) (by omega) ?_)
        intro a' c' w3 ob' z1 z2 z3
        go_wp2
        have hP := OMat.push (r := oneRow n i) (cr := c1) (hM2.alloc (.cells #[.slice (some ⟨g, 0, none⟩) n c1] 31)) (by rw [hrl]; exact hO2.alloc _) (by have := hF.size; omega) hob (fun j hj => hGg j (by rw [hlen] at hj; exact hj)) (by have := (hFw2.alloc (.cells #[.slice (some ⟨g, 0, none⟩) n c1] 31)).size; exact this) (by rw [hlen, hrl]) (by rw [hlen]; exact z1) z2 (by simpa using z3)
        have hF3 := Fr.app (hFw2.alloc _) z2 (fun k hk => (hM2.obn k hk).1)
        have e : ran i (oneRow n) ++ [oneRow n i] = ran (i + 1) (oneRow n) := by simp [ran, List.range_succ]
        rw [e] at hP
        clear e htop hrd hO2 z1 z2 z3 hM2 hM
        go_roundw
        case rel => exact ⟨i + 1, a', c', ob', _, _, by omega, by go_num, rfl, hP, hF3⟩
        case measure => simp [intOf]; omega
      · obtain rfl : i = n := by omega
        go_wp2
        go_loopw [35] (fun s wx => ∃ k : Nat, k ≤ l.length ∧ s = .int .i64 k ∧ OMat wx.heap w.heap.size 31 3 ao co ob ((l.take k).foldl putL (ran i (oneRow i))) G C ∧ Fr (fun _ => False) w wx) (fun s _ => l.length - (intOf s).toNat)
        case atStart => exact ⟨0, by omega, rfl, hM, hF⟩
        case round =>
          clear hM hF
          obtain ⟨k, hk, rfl, hM, hF⟩ := hrel
          by_cases hkl : k < l.length
          · have hsq := fold_sq (l.take k) _ (one_sq i) (fun x hx => by
              have h := (HOK.out x (List.mem_of_mem_take hx)).1
              unfold Lk.bad at h
              omega)
            have hfold : (l.take (k + 1)).foldl putL (ran i (oneRow i)) = putL ((l.take k).foldl putL (ran i (oneRow i))) (nth l k) := by rw [take_succ_nth l k hkl, List.foldl_append]; rfl
            generalize (l.take k).foldl putL (ran i (oneRow i)) = R at *
            obtain ⟨b, off, rfl, hb, hc⟩ := Recs.pos hL Lk.cells_len (by omega) (by omega)
            obtain ⟨x, hx⟩ : ∃ x, x = nth l k := ⟨_, rfl⟩
            have c0 : wr.cell? ⟨b, off + k * 3, none⟩ = some (.int .i64 x.a) := by rw [hx]; exact (hF.cell (p := ⟨b, off + k * 3, none⟩) hb (fun h => h)).trans (hc w rfl k 0 hkl (by omega))
            have c1 : wr.cell? ⟨b, off + k * 3 + 1, none⟩ = some (.int .i64 x.b) := by rw [hx]; exact (hF.cell (p := ⟨b, off + k * 3 + 1, none⟩) hb (fun h => h)).trans (hc w rfl k 1 hkl (by omega))
            have c2 : wr.cell? ⟨b, off + k * 3 + 2, none⟩ = some (.int .i64 x.c) := by rw [hx]; exact (hF.cell (p := ⟨b, off + k * 3 + 2, none⟩) hb (fun h => h)).trans (hc w rfl k 2 hkl (by omega))
            clear hc
            obtain ⟨hg1, hg2⟩ := HOK.out x (by rw [hx]; exact nth_mem l k hkl)
            rw [← hx] at hfold
            have HFO := Lib.hid hfold
            clear hfold hx
            obtain ⟨xa, xb, xc⟩ := x
            unfold Lk.bad at hg1
            simp only at c0 c1 c2 hg1 hg2
            obtain ⟨xa, rfl⟩ := Int.eq_ofNat_of_zero_le (show 0 ≤ xa by omega)
            obtain ⟨xb, rfl⟩ := Int.eq_ofNat_of_zero_le (show 0 ≤ xb by omega)
            have ha : xa < i := by omega
            have hb' : xb < i := by omega
            have hne : xa ≠ xb := fun h => hg2 (by rw [h])
            clear hg1 hg2
            obtain ⟨bt, ot, rfl, x1, x2, x3⟩ := OMat.cells hM hsq.len hsq.rows xa xb ha hb'
            obtain ⟨_, _, hh, y1, y2, y3⟩ := OMat.cells hM hsq.len hsq.rows xb xa hb' ha
            cases hh
            have l1 : G xa < wr.heap.size := (hM.row xa (by rw [hsq.len]; exact ha)).lt _ rfl
            have l2 : G xb < wr.heap.size := (hM.row xb (by rw [hsq.len]; exact hb')).lt _ rfl
            have l3 : bt < wr.heap.size := by
              obtain ⟨_, _, h1, h2, _⟩ := hM.mat.pos (by rw [hsq.len]; omega)
              cases h1; exact h2
            have l4 : b < wr.heap.size := by have := hF.size; omega
            have hset1 := OMat.set hM xa xb xc (by rw [hsq.len]; exact ha)
            have hset2 := (OMat.set hset1 xb xa xc (by rw [List.length_set, hsq.len]; exact hb')).alloc (.cells #[.int .i64 xa, .int .i64 xb, .int .i64 xc] 54)
            have HS := Lib.hid hset2
            have hga := hM.gn xa (by rw [hsq.len]; exact ha)
            have hgb := hM.gn xb (by rw [hsq.len]; exact hb')
            clear hset1 hset2 hM hL
            have q0 : ∀ c : Cls (fun k => k = G xa) (wr.alloc (.cells #[.int .i64 xa, .int .i64 xb, .int .i64 xc] 54)), c.wo.cell? ⟨wr.heap.size, 0, none⟩ = some (.int .i64 xa) := fun c => by
              rw [c.fr.cell (by simp) (by show ¬ wr.heap.size = G xa; omega)]
              simp
            have q2 : ∀ c : Cls (fun k => k = G xa) (wr.alloc (.cells #[.int .i64 xa, .int .i64 xb, .int .i64 xc] 54)), c.wo.cell? ⟨wr.heap.size, 2, none⟩ = some (.int .i64 xc) := fun c => by
              rw [c.fr.cell (by simp) (by show ¬ wr.heap.size = G xa; omega)]
              simp
            go_wp2
            (refine wp_region_mix (fun w' => ∃ c : Cls (fun k => k = G xa) (wr.alloc (.cells #[.int .i64 xa, .int .i64 xb, .int .i64 xc] 54)), w' = c.wo) 20 (by kernel_rfl) (by kernel_rfl) (⟨⟨_, (Fr.refl _ _).drew⟩, rfl⟩) ?_; simp only [List.take_succ_cons, List.take_zero, List.drop_succ_cons, List.drop_zero])
            (refine wpMix_earlyN 12 (by kernel_rfl) (by kernel_rfl) ?_; simp only [List.take_succ_cons, List.take_zero, List.drop_succ_cons, List.drop_zero]; (repeat (go_big_quiet_step (fail))); refine wpQuiet_nil ?_)
            (refine wpMix_lateN 2 (⟨⟨_, (Fr.refl _ _).drew⟩, rfl⟩) (by kernel_rfl) ?_; simp only [List.take_succ_cons, List.take_zero, List.drop_succ_cons, List.drop_zero]; (repeat (go_big_quiet_step (fail))); refine wpQuiet_nil ?_)
            (refine wpMix_earlyN 2 (by kernel_rfl) (by kernel_rfl) ?_; simp only [List.take_succ_cons, List.take_zero, List.drop_succ_cons, List.drop_zero]; (repeat (go_big_quiet_step (fail))); refine wpQuiet_nil ?_)
            (refine wpMix_lateN 2 (⟨⟨_, (Fr.refl _ _).drew⟩, rfl⟩) (by kernel_rfl) ?_; simp only [List.take_succ_cons, List.take_zero, List.drop_succ_cons, List.drop_zero]; (repeat (go_big_quiet_step (fail))); refine wpQuiet_nil ?_)
            (refine wpMix_earlyN 1 (by kernel_rfl) (by kernel_rfl) ?_; simp only [List.take_succ_cons, List.take_zero, List.drop_succ_cons, List.drop_zero]; (repeat (go_big_quiet_step (fail))); refine wpQuiet_nil ?_)
            refine wpMix_eff (by kernel_rfl) ?_
            go_wp2
            refine ⟨⟨⟨_, (Fr.past (S := fun k => k = G xa) _ (G xa) xb _ l1 rfl).drew⟩, rfl⟩, ?_⟩
            refine wpMix_nil ?_
            go_wp2
            go_roundw
            case rel => exact ⟨k + 1, by omega, by go_num, by rw [HFO.out]; exact HS.out, (((hF.setCell (fun h => by simp only at h; omega) _).setCell (fun h => by simp only at h; omega) _).alloc _).drew⟩
            case measure => simp [intOf]; omega
          · obtain rfl : k = l.length := by omega
            rw [List.take_length] at hM
            have hsq : (costsM i l).length = i := (fold_sq l _ (one_sq i) (fun x hx => by
              have h := (HOK.out x hx).1
              unfold Lk.bad at h
              omega)).len
            go_wp2
            go_ret2
            exact RetMat.ok hX.out (by rw [hsq]; rfl) hM hF
end Go.Proofs.Ytgfbkebbnfcgkaa
end

section
namespace Go.Proofs.Ytgfbkebbnfcgkaa
open Go.RowKit

/-- The table of costs: square, from 0 to 16, alike from either side, 0 of one to itself. -/
structure CTab (n : Nat) (rs : List (List Int)) : Prop where
  sq : Sq n rs
  bd : ∀ i k, i < n → k < n → 0 ≤ at2 rs i k ∧ at2 rs i k ≤ 16
  sym : ∀ i k, i < n → k < n → at2 rs i k = at2 rs k i
  dia : ∀ i, i < n → at2 rs i i = 0
theorem one_ctab (n : Nat) : CTab n (ran n (oneRow n)) := by
  have h1 : ∀ i k, i < n → k < n → at2 (ran n (oneRow n)) i k = if k = i then 0 else 16 := by
    intro i k hi hk
    unfold at2
    rw [nth_ran n _ i hi, oneRow, nth_set _ _ _ _ (by simpa using hi)]
    split
    · rfl
    · rw [nth_replicate _ _ _ hk]
  refine ⟨one_sq n, fun i k hi hk => ?_, fun i k hi hk => ?_, fun i hi => ?_⟩
  · rw [h1 i k hi hk]; split <;> omega
  · rw [h1 i k hi hk, h1 k i hk hi]
    by_cases h : k = i
    · rw [if_pos h, if_pos h.symm]
    · rw [if_neg h, if_neg (fun e => h e.symm)]
  · rw [h1 i i hi hi, if_pos rfl]
theorem putL_at {n : Nat} {rs : List (List Int)} (h : Sq n rs) (x : Lk) (ha : x.a.toNat < n) (hb : x.b.toNat < n) (p q : Nat) : at2 (putL rs x) p q = if p = x.b.toNat ∧ q = x.a.toNat then x.c else if p = x.a.toNat ∧ q = x.b.toNat then x.c else at2 rs p q := by
  unfold putL
  rw [put2_at (put2_sq h _ _ _ ha) _ _ _ hb ha, put2_at h _ _ _ ha hb]
theorem putL_ctab {n : Nat} {rs : List (List Int)} (h : CTab n rs) (x : Lk) (ha : x.a.toNat < n) (hb : x.b.toNat < n) (hab : x.a.toNat ≠ x.b.toNat) (hc : 1 ≤ x.c ∧ x.c ≤ 15) : CTab n (putL rs x) := by
  refine ⟨putL_sq h.sq x ha hb, fun i k hi hk => ?_, fun i k hi hk => ?_, fun i hi => ?_⟩
  · rw [putL_at h.sq x ha hb]
    have := h.bd i k hi hk
    split
    · omega
    · split
      · omega
      · exact this
  · rw [putL_at h.sq x ha hb, putL_at h.sq x ha hb, h.sym i k hi hk]
    by_cases h1 : i = x.b.toNat ∧ k = x.a.toNat
    · rw [if_pos h1, if_neg (by omega), if_pos (by omega)]
    · rw [if_neg h1]
      by_cases h2 : i = x.a.toNat ∧ k = x.b.toNat
      · rw [if_pos h2, if_pos (by omega)]
      · rw [if_neg h2, if_neg (by omega), if_neg (by omega)]
  · rw [putL_at h.sq x ha hb, if_neg (by omega), if_neg (by omega)]
    exact h.dia i hi
theorem fold_ctab {n : Nat} : ∀ (l : List Lk) (rs : List (List Int)), CTab n rs → (∀ x ∈ l, ¬ Lk.bad n x ∧ x.a ≠ x.b) → CTab n (l.foldl putL rs) := by
  intro l
  induction l with
  | nil => intro rs h _; exact h
  | cons x l ih =>
    intro rs h hl
    obtain ⟨h1, h2⟩ := hl x (by simp)
    unfold Lk.bad at h1
    exact ih _ (putL_ctab h x (by omega) (by omega) (by omega) (by omega)) (fun y hy => hl y (by simp [hy]))
theorem costsE_cases (n : Int) (l : List Lk) : (∃ k, graphErr n l = some k ∧ costsE n l = .error k) ∨ (∃ m : Nat, n = m ∧ 1 ≤ m ∧ m ≤ 8 ∧ graphErr n l = none ∧ costsE n l = .ok (costsM m l) ∧ CTab m (costsM m l)) := by
  unfold costsE
  cases h : graphErr n l with
  | some k => exact .inl ⟨k, rfl, rfl⟩
  | none =>
    right
    have hn : 1 ≤ n ∧ n ≤ 8 := by
      unfold graphErr at h
      split at h
      · cases h
      · omega
    obtain ⟨m, rfl⟩ := Int.eq_ofNat_of_zero_le (show 0 ≤ n by omega)
    refine ⟨m, rfl, by omega, by omega, rfl, rfl, ?_⟩
    refine fold_ctab l _ (one_ctab m) ?_
    unfold graphErr at h
    split at h
    · cases h
    · exact lkErr_ok l [] h
end Go.Proofs.Ytgfbkebbnfcgkaa
end
