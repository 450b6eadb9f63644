import Derived.Test.YtfglidaicjjpfaaArgBest
import Derived.Test.YtfglidaicjjpfaaNKey
import Derived.Test.YtfglidaicjjpfaaQHea4
import Derived.Test.YtfglidaicjjpfaaNetW
import Derived.Test.YtfglidaicjjpfaaQHea1
import Derived.Test.YtfglidaicjjpfaaQHea2
import Derived.Test.YtfglidaicjjpfaaRow
import Derived.Test.YtfglidaicjjpfaaRows
section
namespace Go.Proofs.Ytfglidaicjjpfaa
open Go.RowKit Go.Maps

theorem rd_box (w : World) (o : Obj) (T : TypeId) (xs : List Value) : Rd ((w.alloc o).alloc (.cells xs.toArray T)).heap (some ⟨w.heap.size + 1, 0, none⟩) 1 xs.length xs := by
  have := (Own.made (w.alloc o) T xs.length 1 xs (by omega) (by decide)).rd
  rwa [show (w.alloc o).heap.size = w.heap.size + 1 by simp] at this
/-- Ways that are handed in. -/
structure Bests (H : Array Obj) (a : Option Addr) (l : List BestR) : Prop where
  top : Recs H a 4 BestR.cells l
  wf : ∀ x ∈ l, BestR.wf x
  row : ∀ x ∈ l, Ints H x.A x.h
theorem Bests.fr0 {S : Nat → Prop} {w w' : World} {a : Option Addr} {l : List BestR} (h : Bests w.heap a l) (f : Fr S w w') (hs : ∀ k, k < w.heap.size → ¬ S k) : Bests w'.heap a l :=
  ⟨h.top.fr0 f hs, h.wf, fun x hx => (h.row x hx).fr0 f hs⟩

def _root_.Go.BestR.net (b : BestR) : Nt := ⟨b.a, b.n⟩
def viewErr1 (seen : List Nt) (b : BestR) : Option Int :=
  match netErr b.a b.n with
  | some k => some k
  | none => if b.m < 1 ∨ 16 < b.m then some 1 else if b.net ∈ seen then some 5 else none
def viewErrL (seen : List Nt) : List BestR → Option Int
  | [] => none
  | b :: l => match viewErr1 seen b with
    | some k => some k
    | none => viewErrL (b.net :: seen) l
def viewErr (tq : Int) (l : List BestR) : Option Int := if tq < 0 ∨ 8 ≤ tq then some 1 else viewErrL [] l
def viewStep (tq : Int) (poison : Bool) (b : BestR) : List En := if tq ∈ b.h then (if poison then [⟨b.a, b.n, 0, 0, 16⟩] else []) else [⟨b.a, b.n, 0, 0, b.m⟩]
def viewOut (tq : Int) (poison : Bool) (l : List BestR) : List En := l.flatMap (viewStep tq poison)
theorem viewStep_len (tq : Int) (poison : Bool) (b : BestR) : (viewStep tq poison b).length ≤ 1 := by
  unfold viewStep
  split
  · split <;> simp
  · simp
theorem viewOut_len (tq : Int) (poison : Bool) : ∀ l : List BestR, (viewOut tq poison l).length ≤ l.length
  | [] => Nat.le_refl _
  | b :: l => by
    have h1 := viewOut_len tq poison l
    have h2 := viewStep_len tq poison b
    unfold viewOut at *
    rw [List.flatMap_cons, List.length_append, List.length_cons]
    omega
def RetView (w : World) (tq : Int) (poison : Bool) (l : List BestR) (r : Option Int) (e : Ending) (w' : World) : Prop :=
  match r with
  | some k => RetV w (.tuple #[.slice none 0 0, errv k]) e w'
  | none => ∃ a c ob, e = .returned (.tuple #[.slice a (viewOut tq poison l).length c, .nilIface]) ∧ Own w'.heap 45 5 a (viewOut tq poison l).length c ((viewOut tq poison l).flatMap En.cells) ob ∧ Fr (fun _ => False) w w' ∧ (∀ g, ob = some g → w.heap.size ≤ g)
theorem RetView.err {w w' : World} {tq : Int} {poison : Bool} {l : List BestR} {r : Option Int} {k : Int} {e : Ending} (h : r = some k) (he : e = .returned (.tuple #[.slice none 0 0, errv k])) (hF : Fr (fun _ => False) w w') : RetView w tq poison l r e w' := by subst h; exact ⟨he, hF⟩
theorem RetView.ok {w w' : World} {tq : Int} {poison : Bool} {l : List BestR} {r : Option Int} {a : Option Addr} {m c : Nat} {ob : Option Nat} {xs : List Value} {e : Ending} (h : r = none) (he : e = .returned (.tuple #[.slice a m c, .nilIface])) (hm : m = (viewOut tq poison l).length) (hx : xs = (viewOut tq poison l).flatMap En.cells)
    (hO : Own w'.heap 45 5 a m c xs ob) (hF : Fr (fun _ => False) w w') (hN : ∀ g, ob = some g → w.heap.size ≤ g) : RetView w tq poison l r e w' := by
  subst h; subst hm; subst hx; exact ⟨a, c, ob, he, hO, hF, hN⟩

abbrev unitL (seen : List Nt) : List (Nt × Value) := seen.map fun q => (q, .agg #[])
theorem mget_unitL (seen : List Nt) (q : Nt) : mget (unitL seen) q = if q ∈ seen then some (.agg #[]) else none := by
  induction seen with
  | nil => rfl
  | cons x l ih =>
    by_cases h : x = q
    · subst h
      simp [mget]
    · have h1 : mget (unitL (x :: l)) q = mget (unitL l) q := by
        unfold mget
        simp only [unitL]
        rw [List.map_cons, List.find?_cons_of_neg (by simpa using h)]
      rw [h1, ih]
      have h2 : (q ∈ x :: l) ↔ q ∈ l := by
        rw [List.mem_cons]
        constructor
        · rintro (h3 | h3)
          · exact absurd h3.symm h
          · exact h3
        · exact fun h3 => .inr h3
      by_cases h3 : q ∈ l
      · rw [if_pos h3, if_pos (h2.2 h3)]
      · rw [if_neg h3, if_neg (fun h4 => h3 (h2.1 h4))]
theorem zeroUnitN {w : World} : (zeroValue 121).run Try.prog w = .ok (.agg #[]) w := by kernel_rfl

set_option maxRecDepth 100000 in
set_option maxHeartbeats 4000000 in
theorem view_any (l : List BestR) (al : Option Addr) (c : Nat) (tq : Int) (poison : Bool) (w : World) (hL : Bests w.heap al l) (hl : l.length * 48 ≤ 140737488351232) :
    Calls Try.prog 48 #[.slice al l.length c, .int .i64 tq, .bool poison] w (RetView w tq poison l (viewErr tq l)) := by
  obtain ⟨E, hE⟩ : ∃ E, E = viewErr tq l := ⟨_, rfl⟩
  rw [← hE]
  have HE := Lib.hid hE
  clear hE
  have hmm := @run_makeMap Try.prog
  by_cases hto : tq < 0 ∨ 8 ≤ tq
  · have hX := Lib.hid (HE.out.trans (if_pos hto))
    go_enter Try.func48, Try.ntmps48
    go_wp2
    all_goals go_ret2
    all_goals exact RetView.err hX.out rfl (Fr.refl _ _)
  · have hX := Lib.hid (HE.out.trans (if_neg hto))
    have t1 : 0 ≤ tq := by omega
    have t2 : tq < 8 := by omega
    have HL := Lib.hid hL
    clear hto
    go_enter Try.func48, Try.ntmps48
    go_wp2
    go_loopw [26, 9] (fun s26 s9 wr => ∃ (k m : Nat) (seen : List Nt) (ao : Option Addr) (co : Nat) (ob : Option Nat) (xs : List Value), k ≤ l.length ∧ s26 = .int .i64 k ∧ s9 = .slice ao m co ∧ m ≤ k ∧ MapL wr Try.prog 43 kln w.heap.size (unitL seen) ∧ seen.length ≤ k ∧ Hid (∀ q ∈ seen, Nt.wf q) ∧ Own wr.heap 45 5 ao m co xs ob ∧ (∀ g, ob = some g → w.heap.size < g) ∧ Fr (fun _ => False) w wr ∧ Hid (E = viewErrL seen (l.drop k)) ∧ Hid (m = (viewOut tq poison (l.take k)).length ∧ xs = (viewOut tq poison (l.take k)).flatMap En.cells)) (fun s _ _ => l.length - (intOf s).toNat)
    case atStart => exact ⟨0, 0, [], none, 0, none, [], by omega, rfl, rfl, by omega, MapL.made _ _ _ _, Nat.le_refl _, Lib.hid (fun q hq => nomatch hq), Own.nil _ _ _, (fun g h => nomatch h), (Fr.refl _ _).alloc _, hX, Lib.hid ⟨rfl, rfl⟩⟩
    case round =>
      obtain ⟨k, m, seen, ao, co, ob, xs, hk, rfl, rfl, hmk, hM, hsk, hws, hO, hN, hF, hEk, hOut⟩ := hrel
      by_cases hkl : k < l.length
      · have hLr := HL.out.fr0 hF (fun _ _ h => h)
        obtain ⟨b, off, rfl, hbb, hc⟩ := Recs.pos hLr.top BestR.cells_len (by omega) (by omega)
        have dd := fun (j : Nat) (hj : j < 4) => hc wr rfl k j hkl hj
        have d0 := dd 0 (by omega)
        have d1 := dd 1 (by omega)
        have d2 := dd 2 (by omega)
        have d3 := dd 3 (by omega)
        have hxm := nth_mem l k hkl
        have hwf := hLr.wf _ hxm
        have hrow := HL.out.row _ hxm
        have hdr := drop_nth l k hkl
        have htk := take_succ_nth l k hkl
        obtain ⟨x, hx⟩ : ∃ x, x = nth l k := ⟨_, rfl⟩
        rw [← hx] at d0 d1 d2 d3 hwf hrow hdr htk
        have hE1 : E = match viewErr1 seen x with | some k => some k | none => viewErrL (x.net :: seen) (l.drop (k + 1)) := by rw [hEk.out, hdr]; rfl
        have hO1 : viewOut tq poison (l.take (k + 1)) = viewOut tq poison (l.take k) ++ viewStep tq poison x := by rw [htk]; unfold viewOut; rw [List.flatMap_append]; simp
        have HE1 := Lib.hid hE1
        have HO1 := Lib.hid hO1
        have HWF := Lib.hid hwf
        obtain ⟨xa, xn, xm, xh, xA, xC⟩ := x
        simp only [BestR.cells, List.getElem?_cons_zero, List.getElem?_cons_succ, ← Nat.add_assoc, Nat.add_zero] at d0 d1 d2 d3
        have hna : 0 ≤ xa ∧ xa < 4294967296 := ⟨hwf.1.1, hwf.1.2.1⟩
        have hxl : xh.length ≤ 9223372036854775807 := by
          have h1 : xh.length ≤ xC := hwf.2.2.1
          have h2 : xC ≤ 9223372036854775807 := hwf.2.2.2.1
          omega
        have hsz := hF.size
        clear hc dd hxm hwf hdr htk hx hE1 hO1 hLr hEk
        cases hne : netErr xa xn with
        | some e =>
          have hX2 := Lib.hid (HE1.out.trans (show _ = some e by unfold viewErr1; simp only [hne]))
          have HNE := Lib.hid hne
          clear hne hO hM
          go_wp2_with (fail)
          refine (pcheck_any xa xn _ hna).mono ?_
          rintro e1 w1 ⟨rfl, hF1⟩
          rw [HNE.out, show errO (some e) = errv e from rfl]
          have hF01 := (hF.alloc _).trans hF1
          go_wp2
          go_ret2
          exact RetView.err hX2.out rfl hF01
        | none =>
          have HNE := Lib.hid hne
          have hE2 : E = if xm < 1 ∨ 16 < xm then some 1 else match (if (⟨xa, xn⟩ : Nt) ∈ seen then some 5 else none : Option Int) with | some k => some k | none => viewErrL (⟨xa, xn⟩ :: seen) (l.drop (k + 1)) := by
            rw [HE1.out]
            unfold viewErr1
            simp only [hne]
            by_cases hm : xm < 1 ∨ 16 < xm
            · rw [if_pos hm, if_pos hm]
            · rw [if_neg hm, if_neg hm]
              rfl
          clear hne HE1
          by_cases hm : xm < 1 ∨ 16 < xm
          · have hX2 := Lib.hid (hE2.trans (if_pos hm))
            clear hE2 hO hM
            go_wp2_with (fail)
            refine (pcheck_any xa xn _ hna).mono ?_
            rintro e1 w1 ⟨rfl, hF1⟩
            rw [HNE.out, show errO none = .nilIface from rfl]
            have hF01 := (hF.alloc (.cells #[.int .u32 xa, .int .i64 xn, .int .i64 xm, .slice xA xh.length xC] 50)).trans hF1
            have hB := (Blk.made wr 50 [.int .u32 xa, .int .i64 xn, .int .i64 xm, .slice xA xh.length xC]).fr hF1 (fun h => h)
            have c2 := hB.cell 2
            simp only [List.getElem?_cons_succ, List.getElem?_cons_zero] at c2
            go_wp2
            all_goals go_ret2
            all_goals exact RetView.err hX2.out rfl hF01
          · have hE3 := hE2.trans (if_neg hm)
            have m1 : 1 ≤ xm := by omega
            have m2 : xm ≤ 16 := by omega
            have HSW : Hid (∀ p ∈ unitL seen, kln p.1 = kln ⟨xa, xn⟩ → p.1 = ⟨xa, xn⟩) := Lib.hid (fun p hp h => by
              obtain ⟨q, hq, rfl⟩ := List.mem_map.1 hp
              exact kln_inj (hws.out q hq) HWF.out.1 h)
            have hkey := nkey ⟨xa, xn⟩ HWF.out.1
            have HK := Lib.hid hkey
            have hul : (unitL seen).length ≤ k := by simpa using hsk
            clear hm hE2 hkey
            go_wp2_with (fail)
            refine (pcheck_any xa xn _ hna).mono ?_
            rintro e1 w1 ⟨rfl, hF1⟩
            rw [HNE.out, show errO none = .nilIface from rfl]
            have hFr1 := ((Fr.refl (fun _ => False) wr).alloc (.cells #[.int .u32 xa, .int .i64 xn, .int .i64 xm, .slice xA xh.length xC] 50)).trans hF1
            have hF01 := hF.trans hFr1
            have hB := (Blk.made wr 50 [.int .u32 xa, .int .i64 xn, .int .i64 xm, .slice xA xh.length xC]).fr hF1 (fun h => h)
            have hM1 := hM.fr hFr1 (fun h => h)
            have hO1 := hO.fr hFr1 (fun _ _ h => h)
            have c0 := hB.cell 0
            have c1 := hB.cell 1
            have c2 := hB.cell 2
            have c3 := hB.cell 3
            have hbl := hB.lt
            simp only [List.getElem?_cons_succ, List.getElem?_cons_zero] at c0 c1 c2 c3
            have hmg := mget_unitL seen ⟨xa, xn⟩
            have HROW := Lib.hid hrow
            have hmlt := hM.lt
            clear hM hO hrow hF1
            by_cases hin : (⟨xa, xn⟩ : Nt) ∈ seen
            · have hX2 := Lib.hid (hE3.trans (by rw [if_pos hin]))
              rw [if_pos hin] at hmg
              have HMG := Lib.hid hmg
              clear hE3 hin hmg hO1
              go_wp2_with (at_lookup; refine wpList_lookL_ok rfl _ _ 120 rfl 43 121 keyedN Try.underlying120 zeroUnitN w.heap.size (unitL seen) kln rfl hM1 _ ⟨xa, xn⟩ rfl HK.out HSW.out ?_; rw [HMG.out])
              go_ret2
              exact RetView.err hX2.out rfl (hF01.alloc _)
            · have hX2 := Lib.hid (hE3.trans (by rw [if_neg hin]))
              have HIN := Lib.hid hin
              rw [if_neg hin] at hmg
              have HMG := Lib.hid hmg
              clear hE3 hin hmg
              have hM2 := hM1.fr ((Fr.refl (fun _ => False) w1).alloc (.cells #[] 121)) (fun h => h)
              go_wp2_with (first | (at_lookup; refine wpList_lookL_ok rfl _ _ 120 rfl 43 121 keyedN Try.underlying120 zeroUnitN w.heap.size (unitL seen) kln rfl hM1 _ ⟨xa, xn⟩ rfl HK.out HSW.out ?_; rw [HMG.out]) | (at_mapUpdate; refine wpList_mput rfl _ _ _ 120 rfl 43 121 keyedN Try.underlying120 w.heap.size (unitL seen) kln rfl hM2 (Nat.lt_of_le_of_lt hul (by show k < 9223372036854775807; omega)) _ _ ⟨xa, xn⟩ rfl rfl HK.out HSW.out ?_))
              intro w3 hM3 hF3 hs3
              clear hs3
              have hF13 := ((Fr.refl (fun k => k = w.heap.size) w1).alloc (.cells #[] 121)).trans hF3
              have hlw := hF.size
              have hF03 : Fr (fun _ => False) w w3 := hF01.trans' hF13 (fun i hi h => by omega)
              have hB3 := hB.fr hF13 (fun h => by have h2 : wr.heap.size = w.heap.size := h; omega)
              have hM4 : MapL w3 Try.prog 43 kln w.heap.size (unitL (⟨xa, xn⟩ :: seen)) := by rw [mput_new HMG.out] at hM3; exact hM3
              have hO3 := hO1.fr hF13 (fun g hg h => by have := hN g hg; omega)
              have c0 := hB3.cell 0
              have c1 := hB3.cell 1
              have c2 := hB3.cell 2
              have c3 := hB3.cell 3
              have hbl3 := hB3.lt
              simp only [List.getElem?_cons_succ, List.getElem?_cons_zero] at c0 c1 c2 c3
              have hws' : Hid (∀ q ∈ (⟨xa, xn⟩ :: seen : List Nt), Nt.wf q) := Lib.hid (fun q hq => by
                rcases List.mem_cons.1 hq with rfl | hq
                · exact HWF.out.1
                · exact hws.out q hq)
              have hF04 := hF03.alloc (.cells #[.int .u32 xa, .int .i64 xn, .int .i64 0, .int .u32 0, .int .i64 xm] 45)
              have hM5 := hM4.fr ((Fr.refl (fun _ => False) w3).alloc (.cells #[.int .u32 xa, .int .i64 xn, .int .i64 0, .int .u32 0, .int .i64 xm] 45)) (fun h => h)
              have hO4 := hO3.alloc (.cells #[.int .u32 xa, .int .i64 xn, .int .i64 0, .int .u32 0, .int .i64 xm] 45)
              have hBe := Blk.made w3 45 [.int .u32 xa, .int .i64 xn, .int .i64 0, .int .u32 0, .int .i64 xm]
              have hcap := hO3.cap
              clear hM3 hO1 hM1 hM2 hF3 hB hB3
              go_wp2_with (fail)
              refine (contains_int xh xA xC tq _ (HROW.out.fr0 hF04 (fun _ _ h => h)) rfl hxl).mono ?_
              rintro e4 w4 ⟨rfl, rfl⟩
              by_cases hto : tq ∈ xh
              · rw [decide_eq_true hto]
                cases poison with
                | false =>
                  have hst : Hid (viewOut tq false (l.take (k + 1)) = viewOut tq false (l.take k)) := Lib.hid (by rw [HO1.out]; unfold viewStep; rw [if_pos hto]; simp)
                  clear hto
                  go_wp2
                  go_roundw
                  case rel => exact ⟨k + 1, m, _, ao, co, ob, xs, by omega, by go_num, rfl, by omega, hM5, by simp; omega, hws', hO4, hN, hF04, hX2, Lib.hid (by rw [hst.out]; exact hOut.out)⟩
                  case measure => simp [intOf]; omega
                | true =>
                  have hst : Hid (viewOut tq true (l.take (k + 1)) = viewOut tq true (l.take k) ++ [⟨xa, xn, 0, 0, 16⟩]) := Lib.hid (by rw [HO1.out]; unfold viewStep; rw [if_pos hto]; rfl)
                  clear hto
                  have hcs : (viewOut tq true (l.take (k + 1))).flatMap En.cells = (viewOut tq true (l.take k)).flatMap En.cells ++ [.int .u32 xa, .int .i64 xn, .int .i64 0, .int .u32 0, .int .i64 16] := by rw [hst.out, List.flatMap_append]; simp
                  have HCS := Lib.hid hcs
                  clear hcs
                  have hrd := rd_box w3 (.cells #[.int .u32 xa, .int .i64 xn, .int .i64 0, .int .u32 0, .int .i64 16] 45) 45 [.int .u32 xa, .int .i64 xn, .int .i64 0, .int .u32 0, .int .i64 16]
                  have hO5 := (hO3.alloc (.cells #[.int .u32 xa, .int .i64 xn, .int .i64 0, .int .u32 0, .int .i64 16] 45)).alloc (.cells #[.int .u32 xa, .int .i64 xn, .int .i64 0, .int .u32 0, .int .i64 16] 45)
                  have hF5 := (hF03.alloc (.cells #[.int .u32 xa, .int .i64 xn, .int .i64 0, .int .u32 0, .int .i64 16] 45)).alloc (.cells #[.int .u32 xa, .int .i64 xn, .int .i64 0, .int .u32 0, .int .i64 16] 45)
                  have hM6 := hM4.fr (((Fr.refl (fun _ => False) w3).alloc (.cells #[.int .u32 xa, .int .i64 xn, .int .i64 0, .int .u32 0, .int .i64 16] 45)).alloc (.cells #[.int .u32 xa, .int .i64 xn, .int .i64 0, .int .u32 0, .int .i64 16] 45)) (fun h => h)
                  clear hM5 hO4 hF04
                  go_wp2_with (at_builtin; refine wpList_app rfl _ _ 37 rfl Try.underlying37 infoEn rfl (by decide) rfl rfl hO5 hrd (by simp [Value.oneCell']) (by omega) (by omega) ?_)
                  intro a' c' w6 ob' z1 z2 z3
                  have hF6 := Fr.app hF5 z2 (fun g h => Nat.le_of_lt (hN g h))
                  have hN6 : ∀ g, ob' = some g → w.heap.size < g := fun g hg => by
                    rcases z3 with z3 | ⟨g', z3, z4⟩
                    · exact hN g (by rw [← z3, hg])
                    · rw [z3] at hg; cases hg; have := hF03.size; omega
                  have hM7 := hM6.fr z2 (fun h => by have := hN _ h; omega)
                  have hOut' : Hid (m + 1 = (viewOut tq true (l.take (k + 1))).length ∧ xs ++ [.int .u32 xa, .int .i64 xn, .int .i64 0, .int .u32 0, .int .i64 16] = (viewOut tq true (l.take (k + 1))).flatMap En.cells) := Lib.hid (by
                    rw [HCS.out, hst.out, ← hOut.out.2]
                    exact ⟨by rw [List.length_append, ← hOut.out.1]; rfl, rfl⟩)
                  have HO7 := Lib.hid z1
                  clear z1 z2 z3 hrd hO5 hO3
                  go_wp2
                  go_roundw
                  case rel => exact ⟨k + 1, m + 1, _, a', c', ob', _, by omega, by go_num, rfl, by omega, hM7, by simp; omega, hws', HO7.out, hN6, hF6, hX2, hOut'⟩
                  case measure => simp [intOf]; omega
              · rw [decide_eq_false hto]
                have hst : Hid (viewOut tq poison (l.take (k + 1)) = viewOut tq poison (l.take k) ++ [⟨xa, xn, 0, 0, xm⟩]) := Lib.hid (by rw [HO1.out]; unfold viewStep; rw [if_neg hto])
                clear hto
                have hcs : (viewOut tq poison (l.take (k + 1))).flatMap En.cells = (viewOut tq poison (l.take k)).flatMap En.cells ++ [.int .u32 xa, .int .i64 xn, .int .i64 0, .int .u32 0, .int .i64 xm] := by rw [hst.out, List.flatMap_append]; simp
                have HCS := Lib.hid hcs
                clear hcs
                have hrd := rd_box w3 (.cells #[.int .u32 xa, .int .i64 xn, .int .i64 0, .int .u32 0, .int .i64 xm] 45) 45 [.int .u32 xa, .int .i64 xn, .int .i64 0, .int .u32 0, .int .i64 xm]
                have hO5 := (hO3.alloc (.cells #[.int .u32 xa, .int .i64 xn, .int .i64 0, .int .u32 0, .int .i64 xm] 45)).alloc (.cells #[.int .u32 xa, .int .i64 xn, .int .i64 0, .int .u32 0, .int .i64 xm] 45)
                have hF5 := (hF03.alloc (.cells #[.int .u32 xa, .int .i64 xn, .int .i64 0, .int .u32 0, .int .i64 xm] 45)).alloc (.cells #[.int .u32 xa, .int .i64 xn, .int .i64 0, .int .u32 0, .int .i64 xm] 45)
                have hM6 := hM4.fr (((Fr.refl (fun _ => False) w3).alloc (.cells #[.int .u32 xa, .int .i64 xn, .int .i64 0, .int .u32 0, .int .i64 xm] 45)).alloc (.cells #[.int .u32 xa, .int .i64 xn, .int .i64 0, .int .u32 0, .int .i64 xm] 45)) (fun h => h)
                clear hM5 hO4 hF04
                go_wp2_with (at_builtin; refine wpList_app rfl _ _ 37 rfl Try.underlying37 infoEn rfl (by decide) rfl rfl hO5 hrd (by simp [Value.oneCell']) (by omega) (by omega) ?_)
                intro a' c' w6 ob' z1 z2 z3
                have hF6 := Fr.app hF5 z2 (fun g h => Nat.le_of_lt (hN g h))
                have hN6 : ∀ g, ob' = some g → w.heap.size < g := fun g hg => by
                  rcases z3 with z3 | ⟨g', z3, z4⟩
                  · exact hN g (by rw [← z3, hg])
                  · rw [z3] at hg; cases hg; have := hF03.size; omega
                have hM7 := hM6.fr z2 (fun h => by have := hN _ h; omega)
                have hOut' : Hid (m + 1 = (viewOut tq poison (l.take (k + 1))).length ∧ xs ++ [.int .u32 xa, .int .i64 xn, .int .i64 0, .int .u32 0, .int .i64 xm] = (viewOut tq poison (l.take (k + 1))).flatMap En.cells) := Lib.hid (by
                  rw [HCS.out, hst.out, ← hOut.out.2]
                  exact ⟨by rw [List.length_append, ← hOut.out.1]; rfl, rfl⟩)
                have HO7 := Lib.hid z1
                clear z1 z2 z3 hrd hO5 hO3
                go_wp2
                go_roundw
                case rel => exact ⟨k + 1, m + 1, _, a', c', ob', _, by omega, by go_num, rfl, by omega, hM7, by simp; omega, hws', HO7.out, hN6, hF6, hX2, hOut'⟩
                case measure => simp [intOf]; omega
      · obtain rfl : k = l.length := by omega
        have hX2 : Hid (E = none) := Lib.hid (by rw [hEk.out, List.drop_length]; rfl)
        have hOut2 : Hid (m = (viewOut tq poison l).length ∧ xs = (viewOut tq poison l).flatMap En.cells) := Lib.hid (by have := hOut.out; rwa [List.take_length] at this)
        go_wp2
        go_ret2
        exact RetView.ok hX2.out rfl hOut2.out.1 hOut2.out.2 hO hF (fun g h => Nat.le_of_lt (hN g h))
end Go.Proofs.Ytfglidaicjjpfaa
end

section
namespace Go.Proofs.Ytfglidaicjjpfaa
open Go.RowKit Go.Maps

theorem i64_wf' {x : Int} (h0 : -9223372036854775808 ≤ x) (h1 : x ≤ 9223372036854775807) : (Lit.int .i64 x).wf = true := by
  have e1 : IntKind.i64.min = -9223372036854775808 := rfl
  have e2 : IntKind.i64.max = 9223372036854775807 := rfl
  simp only [Lit.wf, Bool.and_eq_true, decide_eq_true_eq]
  omega
theorem viewErrL_none : ∀ (l : List BestR) (seen : List Nt), (∀ b ∈ l, netErr b.a b.n = none ∧ 1 ≤ b.m ∧ b.m ≤ 16 ∧ bnet b ∉ seen) → (l.map bnet).Nodup → viewErrL seen l = none := by
  intro l
  induction l with
  | nil => intro seen _ _; rfl
  | cons b l ih =>
    intro seen h hn
    obtain ⟨h1, h2, h3, h4⟩ := h b (by simp)
    obtain ⟨n1, n2⟩ := List.nodup_cons.1 hn
    have e : viewErr1 seen b = none := by
      unfold viewErr1
      rw [h1]
      simp only
      rw [if_neg (by omega), if_neg (show b.net ∉ seen from h4)]
    unfold viewErrL
    rw [e]
    refine ih _ (fun c hc => ?_) n2
    obtain ⟨k1, k2, k3, k4⟩ := h c (by simp [hc])
    refine ⟨k1, k2, k3, fun hh => ?_⟩
    rcases List.mem_cons.1 hh with hh | hh
    · exact n1 (List.mem_map.2 ⟨c, hc, hh⟩)
    · exact k4 hh
/-- Each way that a router has. -/
theorem AllR.each {w : World} {base : Nat} {D : DC} {now : Int} {l : List Td} {bad : Int} {R : List BestR} (hD : Dmn w base D now l bad) (h : AllR D l R) : ∀ r ∈ R, netErr r.a r.n = none ∧ (0 ≤ r.a ∧ r.a < 4294967296) ∧ 1 ≤ r.m ∧ r.m ≤ 16 ∧ r.h.length ≤ 4 ∧ ∀ z ∈ r.h, 0 ≤ z ∧ z < D.costs.length := fun r hr => by
  have h1 := h.val r hr
  obtain ⟨b1, b2, b3, b4⟩ := bestD_bd hD (bnet r)
  have hm : r.m = _ := congrArg Prod.fst h1
  have hh : r.h = _ := congrArg Prod.snd h1
  rw [← hm] at b1 b2
  rw [← hh] at b3 b4
  rcases (h.mem (bnet r)).1 (List.mem_map.2 ⟨r, hr, rfl⟩) with ho | ⟨x, hx, he⟩
  · obtain ⟨k1, k2⟩ := hD.net _ ho
    exact ⟨k1, k2, b1, b2, b3, b4⟩
  · have k1 := (hD.by' x hx).2
    have k2 := hD.ok.each x hx
    have e1 : x.a = r.a := congrArg Nt.a he
    have e2 : x.n = r.n := congrArg Nt.n he
    rw [e1, e2] at k1
    have k3 := k2.a0
    have k4 := k2.a1
    rw [e1] at k3 k4
    exact ⟨k1, ⟨k3, k4⟩, b1, b2, b3, b4⟩
theorem Alls.view {base : Nat} {w0 w : World} {bb : Nat} {D : DC} {now : Int} {l : List Td} {bad : Int} {R : List BestR} {aR : Option Addr} {cR : Nat} {ob : Option Nat} (h : Alls base w.heap R aR cR ob) (hD : Dmn w0 bb D now l bad) (hR : AllR D l R) : Bests w.heap aR R := by
  have he := hR.each hD
  have hc8 := hD.c8
  refine ⟨h.own.rd, fun x hx => ?_, fun x hx => by obtain ⟨o, h1, -⟩ := h.row x hx; exact h1.rd⟩
  obtain ⟨k1, k2, k3, k4, k5, k6⟩ := he x hx
  obtain ⟨o, h1, -⟩ := h.row x hx
  obtain ⟨n1, n2⟩ := netErr_rng k1
  have hcap := h1.cap
  have hmx : maxLen = 9223372036854775807 := rfl
  refine ⟨⟨k2.1, k2.2, i64_wf' (by simp only; omega) (by simp only; omega)⟩, i64_wf' (by omega) (by omega), hcap, ?_, fun z hz => by have := k6 z hz; exact i64_wf' (by omega) (by omega), fun hA => ?_⟩
  · rcases h1.is with ⟨_, _, q, _⟩ | ⟨_, _, _, _, _, _, q, _⟩
    · omega
    · exact q
  · rcases h1.is with ⟨_, q, _⟩ | ⟨_, _, q, _⟩
    · exact List.eq_nil_of_length_eq_zero q
    · rw [q] at hA; cases hA
/-- What is told of one way. -/
def tell1 (tq : Int) (b : BestR) : En := ⟨b.a, b.n, 0, 0, if tq ∈ b.h then 16 else b.m⟩
theorem viewOut_tell (tq : Int) (R : List BestR) : viewOut tq true R = R.map (tell1 tq) := by
  induction R with
  | nil => rfl
  | cons b R ih =>
    unfold viewOut at *
    rw [List.flatMap_cons, ih, List.map_cons]
    unfold viewStep tell1
    split
    · rfl
    · rfl
/-- What is told: so many ways as a message holds. -/
def tellL (tq : Int) (R : List BestR) : List En := (R.map (tell1 tq)).take 25
theorem tellL_mem {tq : Int} {R : List BestR} {e : En} (h : e ∈ tellL tq R) : ∃ b ∈ R, e = tell1 tq b := by
  obtain ⟨b, hb, rfl⟩ := List.mem_map.1 (List.mem_of_mem_take h)
  exact ⟨b, hb, rfl⟩
theorem entsErr_none : ∀ l : List En, (∀ e ∈ l, entErr e = none) → entsErr l = none := by
  intro l
  induction l with
  | nil => intro _; rfl
  | cons e l ih => intro h; unfold entsErr; rw [h e (by simp)]; exact ih (fun x hx => h x (by simp [hx]))
theorem tellL_ok {w : World} {base : Nat} {D : DC} {now : Int} {l : List Td} {bad tq : Int} {R : List BestR} (hD : Dmn w base D now l bad) (h : AllR D l R) : msgErr (tellL tq R) = none ∧ ∀ e ∈ tellL tq R, En.wf e := by
  have key : ∀ e ∈ tellL tq R, entErr e = none ∧ En.wf e := fun e he => by
    obtain ⟨b, hb, rfl⟩ := tellL_mem he
    obtain ⟨k1, k2, k3, k4, -, -⟩ := h.each hD b hb
    refine ⟨?_, ⟨k2, by show (0 : Int) ≤ 0 ∧ (0 : Int) < 4294967296; decide⟩⟩
    unfold entErr tell1
    simp only
    rw [k1]
    simp only
    rw [if_neg (by split <;> omega)]
  refine ⟨?_, fun e he => (key e he).2⟩
  unfold msgErr
  rw [if_neg (by unfold tellL; rw [List.length_take]; omega)]
  exact entsErr_none _ (fun e he => (key e he).1)
def RetTell (w : World) (D : DC) (l : List Td) (tq : Int) (e : Ending) (w' : World) : Prop :=
  ∃ (R : List BestR) (a : Option Addr) (c : Nat) (ob : Option Nat), AllR D l R ∧ e = .returned (.tuple #[.slice a (encD false (tellL tq R)).length c, .nilIface]) ∧ Own w'.heap 5 1 a (encD false (tellL tq R)).length c (ivals .u8 (encD false (tellL tq R))) ob ∧ Fr (fun _ => False) w w' ∧ ∀ g, ob = some g → w.heap.size ≤ g

set_option maxRecDepth 100000 in
set_option maxHeartbeats 4000000 in
theorem dtell_any {base : Nat} {D : DC} {now : Int} {l : List Td} {bad : Int} (tq : Int) (w : World) (hD : Dmn w base D now l bad) (ht : ¬ (tq < 0 ∨ (D.costs.length : Int) ≤ tq)) :
    Calls Try.prog 25 #[.pointer (some ⟨D.bd, 0, none⟩), .int .i64 tq] w (RetTell w D l tq) := by
  have hc8 := hD.c8
  have HD := Lib.hid hD
  have hnear := dnear_yes tq w hD ht
  have hall := dall_any w hD
  clear hD
  go_enter Try.func25, Try.ntmps25
  go_wp2_with (fail)
  refine hnear.mono ?_
  rintro e1 w1 ⟨rfl, rfl⟩
  go_wp2_with (fail)
  refine hall.mono ?_
  rintro e2 w2 ⟨R, aR, cR, ob, rfl, hA, hR, hF2⟩
  have hRl := hR.len
  have hv := view_any R aR cR tq true w2 (hA.view HD.out hR) (by omega)
  have hve : viewErr tq R = none := by
    unfold viewErr
    rw [if_neg (by omega)]
    exact viewErrL_none R [] (fun b hb => by obtain ⟨k1, -, k3, k4, -⟩ := hR.each HD.out b hb; exact ⟨k1, k3, k4, by simp⟩) (nsn hR.srt)
  rw [hve] at hv
  obtain ⟨k1, k2⟩ := tellL_ok (tq := tq) HD.out hR
  have HK1 := Lib.hid k1
  have HK2 := Lib.hid k2
  have HR := Lib.hid hR
  clear hnear hall hA hR hve k1 k2
  go_wp2_with (fail)
  refine hv.mono ?_
  rintro e3 w3 ⟨a3, c3, ob3, rfl, hO3, hF3, hN3⟩
  rw [viewOut_tell] at hO3 ⊢
  have hcap := hO3.cap
  have hl3 : (R.map (tell1 tq)).length = R.length := by simp
  have hF03 := hF2.trans hF3
  have hrd := Rd.takeK hO3.rd (min (R.map (tell1 tq)).length 25) (by omega)
  have hflat : ((R.map (tell1 tq)).flatMap En.cells).take (min (R.map (tell1 tq)).length 25 * 5) = (tellL tq R).flatMap En.cells := by
    have key : ∀ (l : List En) (k : Nat), (l.flatMap En.cells).take (k * 5) = (l.take k).flatMap En.cells := by
      intro l
      induction l with
      | nil => intro k; simp
      | cons e l ih =>
        intro k
        cases k with
        | zero => simp
        | succ k =>
          have h5 : (En.cells e).length = 5 := rfl
          rw [List.flatMap_cons, List.take_succ_cons, List.flatMap_cons, ← ih k, show (k + 1) * 5 = k * 5 + 5 by omega, List.take_append, List.take_of_length_le (by rw [h5]; omega), h5, show k * 5 + 5 - 5 = k * 5 by omega]
    rw [key, Nat.min_comm, ← List.take_take, List.take_length]
    rfl
  rw [hflat] at hrd
  have hlt : (tellL tq R).length = min (R.map (tell1 tq)).length 25 := by unfold tellL; rw [List.length_take]; omega
  have hrec : Recs w3.heap a3 5 En.cells (tellL tq R) := by
    show Rd _ _ _ _ _
    rw [hlt]; exact hrd
  have hcallE := encode_any (M := min R.length 25) false (tellL tq R) a3 c3 w3 hrec HK2.out (by rw [hlt]; omega) (by rw [hlt, hl3])
  have HF := Lib.hid hF03
  rw [hl3] at hcap ⊢
  obtain ⟨n, hn⟩ : ∃ n, n = R.length := ⟨_, rfl⟩
  rw [← hn] at hRl hcap hcallE ⊢
  have HL := Lib.hid (show tellL tq R = tellL tq R from rfl)
  clear hrec hlt hrd hflat hO3 hF3 hF2 hF03 hv hl3 hN3 hn
  have hmin : (min (n : Int) 25) = ((min n 25 : Nat) : Int) := by omega
  go_wp2_with (fail)
  refine hcallE.mono ?_
  intro e4 w4 R4
  obtain ⟨a4, c4, ob4, rfl, hO4, hF4, hN4⟩ := R4.okE HK1.out
  have hs := HF.out.size
  have hFe := HF.out.trans hF4
  obtain ⟨bs, hbs⟩ : ∃ bs, bs = encD false (tellL tq R) := ⟨_, rfl⟩
  rw [← hbs] at hO4 ⊢
  have HBS := Lib.hid hbs
  clear R4 hcallE hF4 hbs
  go_wp2
  go_ret2
  refine ⟨R, a4, c4, ob4, HR.out, ?_, ?_, hFe, fun g hg => by have := hN4 g hg; omega⟩
  · rw [← HBS.out]; rfl
  · rw [← HBS.out]; exact hO4
end Go.Proofs.Ytfglidaicjjpfaa
end

section
namespace Go.Proofs.Ytfglidaicjjpfaa
open Go.RowKit

theorem lastE_some {es : List En} {a n m : Int} (h1 : ∀ e ∈ es, e.a = a ∧ e.n = n → e.m = m) (h2 : ∃ e ∈ es, e.a = a ∧ e.n = n) : lastE es a n = some m := by
  revert h1 h2
  refine snocI (P := fun es => (∀ e ∈ es, e.a = a ∧ e.n = n → e.m = m) → (∃ e ∈ es, e.a = a ∧ e.n = n) → lastE es a n = some m) (fun _ h => by obtain ⟨_, h, _⟩ := h; cases h) (fun l x ih h1 h2 => ?_) es
  rw [lastE_snoc]
  by_cases hx : x.a = a ∧ x.n = n
  · rw [if_pos hx, h1 x (by simp) hx]
  · rw [if_neg hx]
    refine ih (fun y hy => h1 y (by simp [hy])) ?_
    obtain ⟨y, hy, hk⟩ := h2
    rcases List.mem_append.1 hy with hy | hy
    · exact ⟨y, hy, hk⟩
    · rw [List.mem_singleton.1 hy] at hk; exact absurd hk hx
theorem lastE_none {es : List En} {a n : Int} (h : ∀ e ∈ es, ¬ (e.a = a ∧ e.n = n)) : lastE es a n = none := by
  revert h
  refine snocI (P := fun es => (∀ e ∈ es, ¬ (e.a = a ∧ e.n = n)) → lastE es a n = none) (fun _ => rfl) (fun l x ih h => ?_) es
  rw [lastE_snoc, if_neg (h x (by simp))]
  exact ih (fun y hy => h y (by simp [hy]))
/-- What is known was told. -/
theorem hearL_mem {D : DC} {f t : Int} {x : Td} : ∀ (es : List En) (l : List Td), x ∈ hearL D f t l es → (∃ y ∈ l, y.a = x.a ∧ y.n = x.n) ∨ ∃ e ∈ es, e.a = x.a ∧ e.n = x.n := by
  intro es l
  refine snocI (P := fun es => ∀ x, x ∈ hearL D f t l es → (∃ y ∈ l, y.a = x.a ∧ y.n = x.n) ∨ ∃ e ∈ es, e.a = x.a ∧ e.n = x.n) (fun x h => .inl ⟨x, h, rfl, rfl⟩) (fun es e ih x h => ?_) es x
  have hst : hearL D f t l (es ++ [e]) = hear1 D f t (hearL D f t l es) e := by unfold hearL; rw [List.foldl_append]; rfl
  rw [hst] at h
  have lift : x ∈ hearL D f t l es → (∃ y ∈ l, y.a = x.a ∧ y.n = x.n) ∨ ∃ e' ∈ es ++ [e], e'.a = x.a ∧ e'.n = x.n := fun h => by
    rcases ih x h with h1 | ⟨e', h1, h2⟩
    · exact .inl h1
    · exact .inr ⟨e', by simp [h1], h2⟩
  unfold hear1 at h
  split at h
  · exact lift h
  · split at h
    · rename_i l' hl'
      unfold learnE at hl'
      split at hl'
      · cases hl'
      · split at hl'
        · cases hl'
        · split at hl'
          · cases hl'
          · rcases rPut_mem hl' h with ⟨-, h2, h3⟩ | h4
            · exact .inr ⟨e, by simp, h2.symm, h3.symm⟩
            · obtain ⟨y, hy, k1, k2, k3⟩ := age1_mem h4
              rcases ih y hy with ⟨z, z1, z2, z3⟩ | ⟨e', z1, z2, z3⟩
              · exact .inl ⟨z, z1, by rw [z2, k2], by rw [z3, k3]⟩
              · exact .inr ⟨e', by simp [z1], by rw [z2, k2], by rw [z3, k3]⟩
    · exact lift h
/-- Hearing a router's word. -/
theorem hears_M {w : World} {base : Nat} {D E : DC} {l : List Td} {bad : Int} {R : List BestR} (hD : Dmn w base D 0 l bad) (hR : AllR D l R) (hc : E.costs.length = 1) (l' : List Td) (bad' : Int) : hearM E 0 l' bad' (encD false (tellL 0 R)) 0 0 = ⟨none, 0, hearL E 0 0 (rAged 0 l') (tellL 0 R), bad'⟩ := by
  obtain ⟨k1, k2⟩ := tellL_ok (tq := 0) hD hR
  exact hearM_ok (by unfold timeErr; omega) (decD_encD false _ k2 k1)
theorem tell_own {w : World} {base : Nat} {D : DC} {R : List BestR} (hD : Dmn w base D 0 [] 0) (hR : AllR D [] R) (a n : Int) : lastE (tellL 0 R) a n = if (⟨a, n⟩ : Nt) ∈ D.own then some 1 else none := by
  have hmem : ∀ q, q ∈ R.map bnet ↔ q ∈ D.own := fun q => by
    rw [hR.mem]
    exact ⟨fun h => h.elim id (fun ⟨x, hx, _⟩ => nomatch hx), fun h => .inl h⟩
  have hlen : R.length ≤ 25 := by
    have := lensub (nsn hR.srt) (fun q hq => (hmem q).1 hq)
    have := hD.o25
    simp at *
    omega
  have he : tellL 0 R = R.map (tell1 0) := by unfold tellL; rw [List.take_of_length_le (by simpa using hlen)]
  rw [he]
  by_cases hq : (⟨a, n⟩ : Nt) ∈ D.own
  · rw [if_pos hq]
    obtain ⟨r, hr, hb⟩ := List.mem_map.1 ((hmem _).2 hq)
    refine lastE_some (fun e hE hk => ?_) ⟨tell1 0 r, List.mem_map.2 ⟨r, hr, rfl⟩, congrArg Nt.a hb, congrArg Nt.n hb⟩
    obtain ⟨r', hr', rfl⟩ := List.mem_map.1 hE
    have hv := hR.val r' hr'
    rw [bestD_own ((hmem _).1 (List.mem_map.2 ⟨r', hr', rfl⟩))] at hv
    have e1 : r'.m = 1 := congrArg Prod.fst hv
    have e2 : r'.h = [] := congrArg Prod.snd hv
    unfold tell1
    rw [e2, e1]
    rfl
  · rw [if_neg hq]
    refine lastE_none (fun e hE hk => ?_)
    obtain ⟨r', hr', rfl⟩ := List.mem_map.1 hE
    have : bnet r' = ⟨a, n⟩ := by unfold bnet; rw [← hk.1, ← hk.2]; rfl
    exact hq (this ▸ (hmem _).1 (List.mem_map.2 ⟨r', hr', rfl⟩))
theorem tellL_25 (tq : Int) (R : List BestR) : (tellL tq R).length ≤ 25 := by unfold tellL; rw [List.length_take]; omega
theorem tellL_ok' {w : World} {base : Nat} {D : DC} {now : Int} {l : List Td} {bad tq : Int} {R : List BestR} (hD : Dmn w base D now l bad) (h : AllR D l R) : ∀ e ∈ tellL tq R, entErr e = none ∧ En.wf e := fun e he => by
  obtain ⟨k1, k2⟩ := tellL_ok (tq := tq) hD h
  exact ⟨(msgErr_ok k1).2 e he, k2 e he⟩
/-- By one neighbour. -/
theorem best_one {l : List Td} (h : RibOk 0 l) {c : Int} (hc : 1 ≤ c ∧ c ≤ 16) (a n : Int) : (bestM (hdL l) [c] a n).1 = plusM c (lastOf (hdL l) 0 a n) := by
  have hl : ∀ x ∈ hdL l, 1 ≤ x.m ∧ x.m ≤ 16 := fun x hx => by
    obtain ⟨y, hy, rfl⟩ := List.mem_map.1 hx
    have := h.each y hy
    exact ⟨this.m0, this.m1⟩
  rw [bestM_eq a n hl (fun x hx => by rw [List.mem_singleton.1 hx]; exact hc)]
  show (if pOf (hdL l) [c] a n 0 < 16 then pOf (hdL l) [c] a n 0 else 16) = _
  have e : pOf (hdL l) [c] a n 0 = plusM c (lastOf (hdL l) 0 a n) := rfl
  rw [e]
  have : plusM c (lastOf (hdL l) 0 a n) ≤ 16 := by unfold plusM; split <;> omega
  split <;> omega
/-- What one tells the other one hears. -/
theorem hears_law {w : World} {base : Nat} {D E : DC} {R S : List BestR} {c : Int} (hD : Dmn w base D 0 [] 0) (hR : AllR D [] R) {w' : World} {base' : Nat} {bad : Int} (hE : Dmn w' base' E 0 (hearL E 0 0 [] (tellL 0 R)) bad) (hec : E.costs = [c]) (hS : TabR E (hearL E 0 0 [] (tellL 0 R)) S) :
    (∀ s ∈ S, (bnet s ∈ E.own → s.m = 1) ∧ (bnet s ∉ E.own → bnet s ∈ D.own ∧ s.m = 1 + c)) ∧ S.length = E.own.length + if 1 + c < 16 then (D.own.filter fun q => decide (q ∉ E.own)).length else 0 := by
  have hc : 1 ≤ c ∧ c ≤ 16 := (nearE_ok hE.near).2 c (by rw [hec]; simp)
  have h25 := tellL_25 0 R
  obtain ⟨i1, -, i3⟩ := hear_last (D := E) (f := 0) (by omega) ribOk_nil (tellL 0 R) (tellL_ok' hD hR) (by simp; omega)
  obtain ⟨L, hL⟩ : ∃ L, L = hearL E 0 0 [] (tellL 0 R) := ⟨_, rfl⟩
  rw [← hL] at i1 i3 hE hS
  have hone : ∀ q : Nt, q ∉ E.own → (bestM (hdL L) E.costs q.a q.n).1 = if q ∈ D.own ∧ 1 + c < 16 then 1 + c else 16 := fun q hq => by
    rw [hec, best_one i1 hc, i3, if_pos ⟨rfl, hq⟩, tell_own hD hR]
    by_cases hp : q ∈ D.own
    · rw [if_pos hp]
      show plusM c 1 = _
      unfold plusM
      by_cases h1 : 1 + c < 16
      · rw [if_pos (show c + 1 < 16 by omega), if_pos ⟨hp, h1⟩]; omega
      · rw [if_neg (show ¬ c + 1 < 16 by omega), if_neg (fun hh => h1 hh.2)]
    · rw [if_neg hp, if_neg (fun hh => hp hh.1)]
      show plusM c (lastOf (hdL []) 0 q.a q.n) = 16
      rw [lastOf_no (fun _ h => by cases h)]
      unfold plusM
      rw [if_neg (by omega)]
  have hmem : ∀ q : Nt, q ∉ E.own → (q ∈ S.map bnet ↔ q ∈ D.own ∧ 1 + c < 16) := fun q hq => by
    rw [TabR.other hE hS hq, hone q hq]
    constructor
    · intro h
      by_cases hh : q ∈ D.own ∧ 1 + c < 16
      · exact hh
      · rw [if_neg hh] at h; omega
    · intro h
      rw [if_pos h]; exact h.2
  refine ⟨fun s hs => ⟨fun ho => ?_, fun ho => ?_⟩, ?_⟩
  · have := hS.val s hs
    rw [bestD_own ho] at this
    exact congrArg Prod.fst this
  · have h1 := (hmem _ ho).1 (List.mem_map.2 ⟨s, hs, rfl⟩)
    have h2 := hS.val s hs
    rw [bestD_other ho] at h2
    have h3 : s.m = (bestM (hdL L) E.costs (bnet s).a (bnet s).n).1 := congrArg Prod.fst h2
    rw [hone _ ho, if_pos h1] at h3
    exact ⟨h1.1, h3⟩
  · have hnS := nsn hS.srt
    obtain ⟨F, hF⟩ : ∃ F, F = if 1 + c < 16 then D.own.filter (fun q => decide (q ∉ E.own)) else [] := ⟨_, rfl⟩
    have hFm : ∀ q, q ∈ F ↔ (q ∈ D.own ∧ q ∉ E.own) ∧ 1 + c < 16 := fun q => by
      rw [hF]
      split
      · rename_i h; rw [List.mem_filter]; simp [h]
      · rename_i h; simp [h]
    have hnF : (E.own ++ F).Nodup := by
      rw [List.nodup_append]
      refine ⟨hE.nodup, ?_, fun x hx y hy e => ?_⟩
      · rw [hF]; split
        · exact hD.nodup.sublist List.filter_sublist
        · exact List.nodup_nil
      · subst e; exact ((hFm x).1 hy).1.2 hx
    have hlenF : F.length = if 1 + c < 16 then (D.own.filter fun q => decide (q ∉ E.own)).length else 0 := by rw [hF]; split <;> rfl
    rw [← hlenF]
    have a1 := lensub hnS (m := E.own ++ F) (fun q hq => by
      by_cases ho : q ∈ E.own
      · simp [ho]
      · have := (hmem q ho).1 hq
        exact List.mem_append.2 (.inr ((hFm q).2 ⟨⟨this.1, ho⟩, this.2⟩)))
    have a2 := lensub hnF (m := S.map bnet) (fun q hq => by
      rcases List.mem_append.1 hq with h | h
      · exact hS.own h
      · have := (hFm q).1 h
        exact (hmem q this.1.2).2 ⟨this.1.1, this.2⟩)
    simp at a1 a2
    omega
/-- And what comes back is known. -/
theorem back_law {D E : DC} {S T : List BestR} {bad bad' : Int} {w' w'' : World} {base' base'' : Nat} {L : List Td} (hLm : ∀ x ∈ L, (⟨x.a, x.n⟩ : Nt) ∈ D.own) (hE : Dmn w' base' E 0 L bad) (hS : AllR E L S) (hD : Dmn w'' base'' D 0 (hearL D 0 0 [] (tellL 0 S)) bad') (hT : TabR D (hearL D 0 0 [] (tellL 0 S)) T) : ∀ t ∈ T, bnet t ∈ D.own ∨ bnet t ∈ E.own := fun t ht => by
  rcases ((hT.mem _).1 (List.mem_map.2 ⟨t, ht, rfl⟩)).1 with h | ⟨x, hx, he⟩
  · exact .inl h
  · rcases hearL_mem _ _ hx with ⟨y, hy, -⟩ | ⟨e, hE', h1, h2⟩
    · cases hy
    · obtain ⟨b, hb, rfl⟩ := tellL_mem hE'
      have hbt : bnet b = bnet t := by rw [← he]; unfold bnet; rw [← h1, ← h2]; rfl
      rcases (hS.mem _).1 (List.mem_map.2 ⟨b, hb, hbt⟩) with h | ⟨y, hy, he2⟩
      · exact .inr h
      · exact .inl (he2 ▸ hLm y hy)
theorem heard_own {w : World} {base : Nat} {D E : DC} {R : List BestR} (hD : Dmn w base D 0 [] 0) (hR : AllR D [] R) : ∀ x ∈ hearL E 0 0 [] (tellL 0 R), (⟨x.a, x.n⟩ : Nt) ∈ D.own := fun x hx => by
  rcases hearL_mem _ _ hx with ⟨y, hy, -⟩ | ⟨e, he, h1, h2⟩
  · cases hy
  · obtain ⟨b, hb, rfl⟩ := tellL_mem he
    have hbt : bnet b = ⟨x.a, x.n⟩ := by unfold bnet; rw [← h1, ← h2]; rfl
    rcases (hR.mem _).1 (List.mem_map.2 ⟨b, hb, hbt⟩) with h | ⟨y, hy, -⟩
    · exact h
    · cases hy
end Go.Proofs.Ytfglidaicjjpfaa
end

section
namespace Go.Proofs.Ytfglidaicjjpfaa
open Go.RowKit

/-- How many of the first j nets are new, if they come that far. -/
def cntN (P Q : List Nt) (c : Int) (j : Nat) : Nat := if 1 + c < 16 then ((P.take j).filter fun q => decide (q ∉ Q)).length else 0
theorem cntN_yes {P Q : List Nt} {c : Int} {j : Nat} (hj : j < P.length) (h : nth P j ∉ Q ∧ 1 + c < 16) : cntN P Q c (j + 1) = cntN P Q c j + 1 := by
  unfold cntN
  rw [if_pos h.2, if_pos h.2, take_succ_nth P j hj, List.filter_append, List.length_append, List.filter_cons_of_pos (by simpa using h.1)]
  rfl
theorem cntN_no {P Q : List Nt} {c : Int} {j : Nat} (hj : j < P.length) (h : ¬ (nth P j ∉ Q ∧ 1 + c < 16)) : cntN P Q c (j + 1) = cntN P Q c j := by
  unfold cntN
  by_cases hc : 1 + c < 16
  · rw [if_pos hc, if_pos hc, take_succ_nth P j hj, List.filter_append, List.length_append, List.filter_cons_of_neg (by simpa using fun hh => h ⟨hh, hc⟩)]
    rfl
  · rw [if_neg hc, if_neg hc]
theorem RetDNew.frame {w w' : World} {costs : List Int} {own : List Nt} {e : Ending} (h : RetDNew w costs own (dnewE costs own) e w') : Fr (fun _ => False) w w' := by
  cases hE' : dnewE costs own with
  | some q => exact (h.errE hE').2
  | none => obtain ⟨_, _, _, _, _, _, _, h⟩ := h.okE hE'; exact h

set_option maxRecDepth 100000 in
set_option maxHeartbeats 64000000 in
theorem daemonHears_any (P : List Nt) (aP : Option Addr) (cP : Nat) (Q : List Nt) (aQ : Option Addr) (cQ : Nat) (c : Int) (w : World)
    (hP : Recs w.heap aP 2 Nt.cells P) (hPw : ∀ x ∈ P, 0 ≤ x.a ∧ x.a < 4294967296) (hPl : P.length * 16 ≤ 140737488351232) (hPn : aP = none → P = []) (hPc : P.length ≤ cP)
    (hQ : Recs w.heap aQ 2 Nt.cells Q) (hQw : ∀ x ∈ Q, 0 ≤ x.a ∧ x.a < 4294967296) (hQl : Q.length * 16 ≤ 140737488351232) (hQn : aQ = none → Q = []) (hQc : Q.length ≤ cQ) :
    Calls Try.prog 7 #[.slice aP P.length cP, .slice aQ Q.length cQ, .int .i64 c] w (RetV w (.bool true)) := by
  have HP := Lib.hid hP
  have HQ := Lib.hid hQ
  clear hP hQ
  go_enter Try.func7, Try.ntmps7
  go_wp2_with (fail)
  refine (routed_any w).mono ?_
  rintro e1 w1 ⟨rfl, hF1⟩
  have hsw := hF1.size
  have hL2 : Ints (w1.alloc (.cells #[.int .i64 c] 3)).heap (some ⟨w1.heap.size, 0, none⟩) [c] := (Own.made w1 3 1 1 [.int .i64 c] rfl (by decide)).rd
  have hF1a := hF1.alloc (.cells #[.int .i64 c] 3)
  have hcall2 := dnew_any (N := 1) [c] (some ⟨w1.heap.size, 0, none⟩) 1 P aP cP (w1.alloc (.cells #[.int .i64 c] 3)) hL2 (by simp) (fun h => nomatch h) (HP.out.fr hF1a (fun _ _ _ h => h)) hPw hPl hPn hPc rfl rfl
  have hs1 : (w1.alloc (.cells #[.int .i64 c] 3)).heap.size = w1.heap.size + 1 := by simp
  clear hL2
  go_wp2_with (fail)
  refine hcall2.mono ?_
  intro e2 w2 R2
  have hF2 := R2.frame
  have hL3 : Ints (w2.alloc (.cells #[.int .i64 c] 3)).heap (some ⟨w2.heap.size, 0, none⟩) [c] := (Own.made w2 3 1 1 [.int .i64 c] rfl (by decide)).rd
  have hF2a := (hF1a.trans hF2).alloc (.cells #[.int .i64 c] 3)
  have hcall3 := dnew_any (N := 1) [c] (some ⟨w2.heap.size, 0, none⟩) 1 Q aQ cQ (w2.alloc (.cells #[.int .i64 c] 3)) hL3 (by simp) (fun h => nomatch h) (HQ.out.fr hF2a (fun _ _ _ h => h)) hQw hQl hQn hQc rfl rfl
  have hs2 : (w2.alloc (.cells #[.int .i64 c] 3)).heap.size = w2.heap.size + 1 := by simp
  clear hL3 hcall2
  cases hE1 : dnewE [c] P with
  | some q =>
    obtain ⟨rfl, -⟩ := R2.errE hE1
    clear R2 hE1
    go_wp2_with (fail)
    refine hcall3.mono ?_
    intro e3 w3 R3
    have hF3 := hF2a.trans R3.frame
    cases hE2 : dnewE [c] Q with
    | some q2 =>
      obtain ⟨rfl, -⟩ := R3.errE hE2
      clear R3 hE2 hcall3
      go_wp2
      go_ret
      exact RetV.mk rfl rfl hF3
    | none =>
      obtain ⟨E, rfl, -⟩ := R3.okE hE2
      clear R3 hE2 hcall3
      go_wp2
      go_ret
      exact RetV.mk rfl rfl hF3
  | none =>
    obtain ⟨D, rfl, hDc, hDo, hDlo, hDhi, hD, -⟩ := R2.okE hE1
    clear R2 hE1
    go_wp2_with (fail)
    refine hcall3.mono ?_
    intro e3 w3 R3
    have hF3' := R3.frame
    have hF3 := hF2a.trans hF3'
    cases hE2 : dnewE [c] Q with
    | some q2 =>
      obtain ⟨rfl, -⟩ := R3.errE hE2
      clear R3 hE2 hcall3
      go_wp2
      go_ret
      exact RetV.mk rfl rfl hF3
    | none =>
      obtain ⟨E, rfl, hEc, hEo, hElo, hEhi, hE, -⟩ := R3.okE hE2
      clear R3 hE2 hcall3
      have hs3 := hF3'.size
      obtain ⟨base, hbase⟩ : ∃ b, b = w3.heap.size := ⟨_, rfl⟩
      have hD3 : Dmn w3 base D 0 [] 0 := (hD base (by omega)).fr0 (((Fr.refl (fun _ => False) w2).alloc (.cells #[.int .i64 c] 3)).trans hF3')
      have hE3 : Dmn w3 base E 0 [] 0 := hE base (by omega)
      have hc16 : 1 ≤ c ∧ c ≤ 16 := (nearE_ok hD3.near).2 c (by rw [hDc]; simp)
      have hbd := hD3.lbd
      have hbr := hD3.lbr
      have hbd' := hE3.lbd
      have hbr' := hE3.lbr
      have HD3 := Lib.hid hD3
      have HDO := Lib.hid hDo
      have HEO := Lib.hid hEo
      have HDC := Lib.hid hDc
      have HEC := Lib.hid hEc
      have hcT := dtell_any 0 w3 hD3 (by rw [hDc]; simp)
      clear hD hE hF2 hF2a hF1 hF1a hF3' hDc hDo hEc hEo hD3
      go_wp2_with (fail)
      refine hcT.mono ?_
      rintro e4 w4 ⟨R, a4, c4, ob4, hR, rfl, hO4, hF4, -⟩
      have hM := hears_M HD3.out hR (E := E) (by rw [HEC.out]; rfl) [] 0
      have hlen := encD_len false (tellL 0 R)
      have h25 := tellL_25 0 R
      have hbb : ∀ x ∈ encD false (tellL 0 R), 0 ≤ x ∧ x < 256 := encD_bd false _
      obtain ⟨bs, hbs⟩ : ∃ b, b = encD false (tellL 0 R) := ⟨_, rfl⟩
      rw [← hbs] at hO4 hM hlen hbb ⊢
      have hb504 : bs.length ≤ 504 := by omega
      have hcap4 := hO4.cap
      have hs4 := hF4.size
      have hD4 := HD3.out.fr0 hF4
      have hE4 := hE3.fr0 hF4
      have hF04 := hF3.trans hF4
      have hcH := dhear_any bs a4 c4 0 0 w4 hE4 (by omega) (by omega) hO4.rd hbb hcap4 (by omega) rfl
      rw [hM] at hcH
      have HR := Lib.hid hR
      clear hcT hR hM hlen hbb hbs h25 hO4 hF4 hE4 hE3 hF3
      go_wp2_with (fail)
      refine hcH.mono ?_
      rintro e5 w5 ⟨rfl, hE5, hF5⟩
      rw [show errO none = .nilIface from rfl]
      have hs5 := hF5.size
      have hD5 := hD4.fr hF5 (fun k hk => by have := hk; omega)
      have hF05 := hF04.trans' hF5 (fun k hk e => by omega)
      have hE5 : Dmn w5 base E 0 (hearL E 0 0 [] (tellL 0 R)) 0 := hE5
      have hcTab := dtab_any w5 hE5
      have HE5 := Lib.hid hE5
      clear hcH hF5 hD4 hF04 hE5
      go_wp2_with (fail)
      refine hcTab.mono ?_
      rintro e6 w6 ⟨S, aS, cS, obS, rfl, hA, hS, hF6⟩
      obtain ⟨l1, l2⟩ := hears_law HD3.out HR.out HE5.out HEC.out hS
      have hSl := hS.len
      obtain ⟨n, hn⟩ : ∃ n, n = S.length := ⟨_, rfl⟩
      have hSB := hA.own.rd
      rw [HEO.out, HDO.out] at l2
      rw [HEO.out, HDO.out] at l1
      rw [← hn] at hSl l2 ⊢
      have HN := Lib.hid hn
      have HL1 := Lib.hid l1
      have HL2 := Lib.hid l2
      have HSB := Lib.hid hSB
      have hD6 := hD5.fr0 hF6
      have hE6 := HE5.out.fr0 hF6
      have hF06 := hF05.trans hF6
      have hs6 := hF6.size
      clear hcTab hA hS hF6 l1 l2 hn hD5 hF05 hSB
      go_wp2
      go_loopw [16, 15] (fun s16 s15 wr => ∃ i : Nat, i ≤ n ∧ s16 = .int .i64 i ∧ s15 = .int .i64 i ∧ Fr (fun _ => False) w6 wr) (fun s _ _ => n - (intOf s).toNat)
      case atStart => exact ⟨0, by omega, rfl, rfl, Fr.refl _ _⟩
      case round =>
        obtain ⟨i, hi, rfl, rfl, hFr⟩ := hrel
        by_cases hin : i < n
        · have hiS : i < S.length := by rw [← HN.out]; exact hin
          obtain ⟨g, o, rfl, hgl, hgc⟩ := Recs.pos (show Recs w6.heap aS 4 BestR.cells S from HSB.out) BestR.cells_len (by omega) (by omega)
          have d0 := (hFr.cell (p := ⟨g, o + (i * 4 + 0), none⟩) hgl (fun h => h)).trans (hgc w6 rfl i 0 hiS (by omega))
          have d1 := (hFr.cell (p := ⟨g, o + (i * 4 + 1), none⟩) hgl (fun h => h)).trans (hgc w6 rfl i 1 hiS (by omega))
          have d2 := (hFr.cell (p := ⟨g, o + (i * 4 + 2), none⟩) hgl (fun h => h)).trans (hgc w6 rfl i 2 hiS (by omega))
          obtain ⟨y1, y2⟩ := HL1.out _ (nth_mem S i hiS)
          generalize nth S i = s at *
          obtain ⟨sa, sn, sm, sh, sA, sC⟩ := s
          simp only at y1 y2
          simp only [BestR.cells, List.getElem?_cons_zero, List.getElem?_cons_succ, ← Nat.add_assoc, Nat.add_zero] at d0 d1 d2
          have hF0r := hF06.trans hFr
          have hp1 := placesB_any Q ⟨sa, sn⟩ aQ cQ wr (HQ.out.fr hF0r (fun _ _ _ h => h)) (by omega) rfl
          have HY1 := Lib.hid y1
          have HY2 := Lib.hid y2
          have HGC := Lib.hid hgc
          clear hgc y1 y2
          go_wp2_with (fail)
          refine hp1.mono ?_
          rintro e7 w7 ⟨p, rfl, hF7, hp, -, -, -⟩
          have hp' : decide (0 ≤ p) = decide ((⟨sa, sn⟩ : Nt) ∈ Q) := hp
          have hF67 := hFr.trans hF7
          have hF07 := hF0r.trans hF7
          have z0 := (hF7.cell (p := ⟨g, o + i * 4, none⟩) (Nat.lt_of_lt_of_le hgl hFr.size) (fun h => h)).trans d0
          have z1 := (hF7.cell (p := ⟨g, o + i * 4 + 1, none⟩) (Nat.lt_of_lt_of_le hgl hFr.size) (fun h => h)).trans d1
          have z2 := (hF7.cell (p := ⟨g, o + i * 4 + 2, none⟩) (Nat.lt_of_lt_of_le hgl hFr.size) (fun h => h)).trans d2
          have hp2 := placesB_any P ⟨sa, sn⟩ aP cP w7 (HP.out.fr hF07 (fun _ _ _ h => h)) (by omega) rfl
          have hs7 := Nat.lt_of_lt_of_le hgl hF67.size
          clear hp1 hp d0 d1 d2 hF7 hF0r hF07 hFr
          by_cases hq : (⟨sa, sn⟩ : Nt) ∈ Q
          · rw [decide_eq_true hq] at hp'
            obtain rfl : sm = 1 := HY1.out hq
            go_wp2_with (fail)
            refine hp2.mono ?_
            rintro e8 w8 ⟨p2, rfl, hF8, -, -, -, -⟩
            have x2 := (hF8.cell (p := ⟨g, o + i * 4 + 2, none⟩) hs7 (fun h => h)).trans z2
            have hF68 := hF67.trans hF8
            clear hp2 hF67 hF8 z0 z1 z2 hq
            generalize decide (0 ≤ p2) = B at *
            go_wp2
            go_roundw
            case rel => exact ⟨i + 1, by omega, by go_num, by go_num, hF68⟩
            case measure => simp [intOf]; omega
          · rw [decide_eq_false hq] at hp'
            obtain ⟨hqP, hqm⟩ := HY2.out hq
            have hqm : sm = 1 + c := hqm
            subst hqm
            go_wp2_with (fail)
            refine hp2.mono ?_
            rintro e8 w8 ⟨p2, rfl, hF8, hpp, -, -, -⟩
            have hpp' : decide (0 ≤ p2) = true := hpp.trans (decide_eq_true hqP)
            have x2 := (hF8.cell (p := ⟨g, o + i * 4 + 2, none⟩) hs7 (fun h => h)).trans z2
            have hF68 := hF67.trans hF8
            clear hp2 hpp hF67 hF8 z0 z1 z2 hq hqP
            go_wp2
            go_roundw
            case rel => exact ⟨i + 1, by omega, by go_num, by go_num, hF68⟩
            case measure => simp [intOf]; omega
        · obtain rfl : i = n := by omega
          have hDr := hD6.fr0 hFr
          have hEr := hE6.fr0 hFr
          have hF0r := hF06.trans hFr
          have hsr := hFr.size
          clear hFr hD6 hE6 hF06
          obtain ⟨wA, hwA⟩ : ∃ q, q = wr := ⟨_, rfl⟩
          subst hwA
          go_wp2
          go_loopw [20, 19] (fun s20 s19 wq => ∃ (j K : Nat), j ≤ P.length ∧ s20 = .int .i64 j ∧ s19 = .int .i64 (Q.length + K : Nat) ∧ K ≤ j ∧ Hid (K = cntN P Q c j) ∧ Fr (fun _ => False) wA wq) (fun s _ _ => P.length - (intOf s).toNat)
          case atStart => exact ⟨0, 0, by omega, rfl, rfl, by omega, Lib.hid (by unfold cntN; simp), Fr.refl _ _⟩
          case round =>
            obtain ⟨j, K, hj, rfl, rfl, hKj, hK, hFq⟩ := hrel
            by_cases hjn : j < P.length
            · obtain ⟨g, o, rfl, hgl, hgc⟩ := Recs.pos HP.out Nt.cells_len (by omega) (by omega)
              have hF0q := hF0r.trans hFq
              have d0 := (hF0q.cell (p := ⟨g, o + (j * 2 + 0), none⟩) hgl (fun h => h)).trans (hgc w rfl j 0 hjn (by omega))
              have d1 := (hF0q.cell (p := ⟨g, o + (j * 2 + 1), none⟩) hgl (fun h => h)).trans (hgc w rfl j 1 hjn (by omega))
              have HY := Lib.hid (cntN_yes (Q := Q) (c := c) hjn)
              have HNo := Lib.hid (cntN_no (Q := Q) (c := c) hjn)
              generalize nth P j = x at *
              obtain ⟨xa, xn⟩ := x
              simp only [Nt.cells, List.getElem?_cons_zero, List.getElem?_cons_succ, ← Nat.add_assoc, Nat.add_zero] at d0 d1
              have hp1 := placesB_any Q ⟨xa, xn⟩ aQ cQ wr (HQ.out.fr hF0q (fun _ _ _ h => h)) (by omega) rfl
              clear hgc
              go_wp2_with (fail)
              refine hp1.mono ?_
              rintro e7 w7 ⟨p, rfl, hF7, -, hp, -, -⟩
              have hFq7 := hFq.trans hF7
              clear hp1 hF7 hFq hF0q d0 d1
              by_cases hq : (⟨xa, xn⟩ : Nt) ∈ Q
              · rw [decide_eq_true hq] at hp
                have hp' : decide (p < 0) = false := hp
                have HK := Lib.hid (show K = cntN P Q c (j + 1) by rw [HNo.out (fun hh => hh.1 hq)]; exact hK.out)
                clear hp hq
                go_wp2
                go_roundw
                case rel => exact ⟨j + 1, K, by omega, by go_num, by first | rfl | go_num, by omega, HK, hFq7⟩
                case measure => simp [intOf]; omega
              · rw [decide_eq_false hq] at hp
                have hp' : decide (p < 0) = true := hp
                by_cases hc15 : 1 + c < 16
                · have HK := Lib.hid (show K + 1 = cntN P Q c (j + 1) by rw [HY.out ⟨hq, hc15⟩, ← hK.out])
                  clear hp hq
                  go_wp2
                  go_roundw
                  case rel => exact ⟨j + 1, K + 1, by omega, by go_num, by go_num, by omega, HK, hFq7⟩
                  case measure => simp [intOf]; omega
                · have HK := Lib.hid (show K = cntN P Q c (j + 1) by rw [HNo.out (fun hh => hc15 hh.2)]; exact hK.out)
                  clear hp hq
                  go_wp2
                  go_roundw
                  case rel => exact ⟨j + 1, K, by omega, by go_num, by first | rfl | go_num, by omega, HK, hFq7⟩
                  case measure => simp [intOf]; omega
            · obtain rfl : j = P.length := by omega
              have g9 : i = Q.length + K := by
                rw [hK.out, HL2.out]
                unfold cntN
                rw [List.take_length]
              have HG9 := Lib.hid g9
              have hDq := hDr.fr0 hFq
              have hEq := hEr.fr0 hFq
              have hF0q := hF0r.trans hFq
              have hsq := hFq.size
              have hcT2 := dtell_any 0 wr hEq (by rw [HEC.out]; simp)
              clear hFq hDr hEr hF0r g9
              go_wp2_with (fail)
              refine hcT2.mono ?_
              rintro e8 w8 ⟨S', a8, c8, ob8, hS', rfl, hO8, hF8, -⟩
              have hM := hears_M hEq hS' (E := D) (by rw [HDC.out]; rfl) [] 0
              have hlen := encD_len false (tellL 0 S')
              have h25 := tellL_25 0 S'
              have hbb : ∀ x ∈ encD false (tellL 0 S'), 0 ≤ x ∧ x < 256 := encD_bd false _
              obtain ⟨bs2, hbs⟩ : ∃ b, b = encD false (tellL 0 S') := ⟨_, rfl⟩
              rw [← hbs] at hO8 hM hlen hbb ⊢
              have hb504' : bs2.length ≤ 504 := by omega
              have hcap8 := hO8.cap
              have hs8 := hF8.size
              have hD8 := hDq.fr0 hF8
              have hF08 := hF0q.trans hF8
              have HEq := Lib.hid hEq
              have HS' := Lib.hid hS'
              have hcH2 := dhear_any bs2 a8 c8 0 0 w8 hD8 (by omega) (by omega) hO8.rd hbb hcap8 (by omega) rfl
              rw [hM] at hcH2
              clear hcT2 hS' hM hlen hbb hbs h25 hO8 hF8 hDq hEq hF0q hD8
              go_wp2_with (fail)
              refine hcH2.mono ?_
              rintro e9 w9 ⟨rfl, hD9, hF9⟩
              rw [show errO none = .nilIface from rfl]
              have hF09 := hF08.trans' hF9 (fun k hk e => by omega)
              have hD9 : Dmn w9 base D 0 (hearL D 0 0 [] (tellL 0 S')) 0 := hD9
              have hcTab2 := dtab_any w9 hD9
              have HD9 := Lib.hid hD9
              clear hcH2 hF9 hF08 hD9
              go_wp2_with (fail)
              refine hcTab2.mono ?_
              rintro e10 w10 ⟨T, aT, cT, obT, rfl, hA, hT, hF10⟩
              have hback := back_law (heard_own HD3.out HR.out) HEq.out HS'.out HD9.out hT
              rw [HEO.out, HDO.out] at hback
              have hTl := hT.len
              obtain ⟨m, hm⟩ : ∃ m, m = T.length := ⟨_, rfl⟩
              have HTB := Lib.hid (show Recs w10.heap aT 4 BestR.cells T from hA.own.rd)
              rw [← hm] at hTl ⊢
              have HM := Lib.hid hm
              have HB := Lib.hid hback
              have hF010 := hF09.trans hF10
              clear hcTab2 hA hT hF10 hF09 hback hm
              go_wp2
              go_loopw [166] (fun s166 wq => ∃ j : Nat, j ≤ m ∧ s166 = .int .i64 j ∧ Fr (fun _ => False) w10 wq) (fun s _ => m - (intOf s).toNat)
              case atStart => exact ⟨0, by omega, rfl, Fr.refl _ _⟩
              case round =>
                obtain ⟨j, hj, rfl, hFq⟩ := hrel
                by_cases hjm : j < m
                · have hjT : j < T.length := by rw [← HM.out]; exact hjm
                  obtain ⟨g, o, rfl, hgl, hgc⟩ := Recs.pos HTB.out BestR.cells_len (by omega) (by omega)
                  have d0 := (hFq.cell (p := ⟨g, o + (j * 4 + 0), none⟩) hgl (fun h => h)).trans (hgc w10 rfl j 0 hjT (by omega))
                  have d1 := (hFq.cell (p := ⟨g, o + (j * 4 + 1), none⟩) hgl (fun h => h)).trans (hgc w10 rfl j 1 hjT (by omega))
                  have d2 := (hFq.cell (p := ⟨g, o + (j * 4 + 2), none⟩) hgl (fun h => h)).trans (hgc w10 rfl j 2 hjT (by omega))
                  have d3 := (hFq.cell (p := ⟨g, o + (j * 4 + 3), none⟩) hgl (fun h => h)).trans (hgc w10 rfl j 3 hjT (by omega))
                  have y1 := HB.out _ (nth_mem T j hjT)
                  generalize nth T j = s at *
                  obtain ⟨sa, sn, sm, sh, sA, sC⟩ := s
                  have y1 : (⟨sa, sn⟩ : Nt) ∈ P ∨ (⟨sa, sn⟩ : Nt) ∈ Q := y1
                  simp only [BestR.cells, List.getElem?_cons_zero, List.getElem?_cons_succ, ← Nat.add_assoc, Nat.add_zero] at d0 d1 d2 d3
                  have hF0q := hF010.trans hFq
                  have hFqa := hFq.alloc (.cells #[.int .u32 sa, .int .i64 sn, .int .i64 sm, .slice sA sh.length sC] 50)
                  have hF0a := hF0q.alloc (.cells #[.int .u32 sa, .int .i64 sn, .int .i64 sm, .slice sA sh.length sC] 50)
                  have hBk := Blk.made wr 50 [.int .u32 sa, .int .i64 sn, .int .i64 sm, .slice sA sh.length sC]
                  have hp1 := placesB_any P ⟨sa, sn⟩ aP cP _ (HP.out.fr hF0a (fun _ _ _ h => h)) (by omega) rfl
                  have HY := Lib.hid y1
                  have HBk := Lib.hid hBk
                  clear hgc y1 hBk
                  go_wp2_with (fail)
                  refine hp1.mono ?_
                  rintro e7 w7 ⟨p, rfl, hF7, -, hp, -, -⟩
                  have hFq7 := hFqa.trans hF7
                  have hF07 := hF0a.trans hF7
                  have hBk7 := HBk.out.fr hF7 (fun h => h)
                  have b0 := hBk7.cell 0
                  have b1 := hBk7.cell 1
                  have bl := hBk7.lt
                  simp only [List.getElem?_cons_zero, List.getElem?_cons_succ] at b0 b1
                  clear hp1 hF7 hFqa hF0a hF0q hFq d0 d1 d2 d3 hBk7
                  by_cases hq : (⟨sa, sn⟩ : Nt) ∈ P
                  · rw [decide_eq_true hq] at hp
                    have hp' : decide (p < 0) = false := hp
                    clear hp hq
                    go_wp2
                    go_roundw
                    case rel => exact ⟨j + 1, by omega, by go_num, hFq7⟩
                    case measure => simp [intOf]; omega
                  · have hqQ : (⟨sa, sn⟩ : Nt) ∈ Q := HY.out.resolve_left hq
                    rw [decide_eq_false hq] at hp
                    have hp' : decide (p < 0) = true := hp
                    have hp2 := placesB_any Q ⟨sa, sn⟩ aQ cQ w7 (HQ.out.fr hF07 (fun _ _ _ h => h)) (by omega) rfl
                    have HqQ := Lib.hid hqQ
                    clear hp hq hqQ
                    go_wp2_with (fail)
                    refine hp2.mono ?_
                    rintro e8 w8' ⟨p2, rfl, hF8', -, hpp, -, -⟩
                    have hpp' : decide (p2 < 0) = false := by rw [hpp, decide_eq_true HqQ.out]; rfl
                    have hFq8 := hFq7.trans hF8'
                    clear hpp hp2 hF8' hFq7 b0 b1
                    go_wp2
                    go_roundw
                    case rel => exact ⟨j + 1, by omega, by go_num, hFq8⟩
                    case measure => simp [intOf]; omega
                · have hFe := hF010.trans hFq
                  have g8 : ((i : Int) == (Q.length : Int) + (K : Int)) = true := by rw [HG9.out]; simp
                  go_wp2
                  go_ret
                  exact RetV.mk rfl rfl hFe
end Go.Proofs.Ytfglidaicjjpfaa
end

section
namespace Go.Proofs.Ytfglidaicjjpfaa
open Go.ChangeShapes Go.WideShapes Go.ChangeAt Go.RowKit

theorem own : ownKnob Try.prog.godebug = none := by kernel_rfl
theorem laidOut : laidOutB Try.prog = true := by kernel_rfl
theorem cellsInt : Try.prog.cellsOf 3 = 1 := by kernel_rfl
theorem cellsInts : Try.prog.cellsOf 22 = 1 := by kernel_rfl

theorem bulk_len {H : Type} (l : List (DataW H)) : l.length ≤ Rows.uptoBulkAll l := by
  induction l with
  | nil => simp [Rows.uptoBulkAll]
  | cons d r ih =>
    have : 1 ≤ Rows.uptoBulk d := by
      cases d with
      | lit l => cases l <;> simp [Rows.uptoBulk]
      | _ => simp [Rows.uptoBulk]
    simp only [List.length_cons, Rows.uptoBulkAll]
    omega
/-- A slice's cells are counted. -/
theorem bulk_slice {H : Type} {d : DataW H} {c : Nat} (h : c = 0 ∨ ∃ el sp, d = .slice el sp ∧ el.length + sp.length = c) : c ≤ Rows.uptoBulk d := by
  rcases h with rfl | ⟨el, sp, rfl, rfl⟩
  · omega
  · have h1 := bulk_len el
    have h2 := bulk_len sp
    simp only [Rows.uptoBulk]
    omega
theorem small_all {H : Type} {l : List (DataW H)} (hk : Rows.uptoSmall H l = true) : Rows.uptoBulkAll l ≤ 1048576 := of_decide_eq_true hk
end Go.Proofs.Ytfglidaicjjpfaa
end

section
namespace Go
open Go.ChangeShapes Go.WideShapes Go.ChangeAt Go.RowKit
/-- How many bytes a slice that came in may take. -/
theorem slice_small {H : Type} {P : Program} {ts : List TypeId} {ds : List (DataW H)} {j n c k : Nat} {t e : TypeId} (hsz : (DataW.weightsEach P ts ds).all (· ≤ reachBytes) = true) {d : DataW H} (ht : ts[j]? = some t) (hd : ds[j]? = some d)
    (hu : P.underlying t = some (.slice e)) (hk : P.bytesOf e = k) (hn : n ≤ c) (hs : c = 0 ∨ ∃ el sp, d = .slice el sp ∧ el.length + sp.length = c) : n * k ≤ 140737488351232 := by
  subst hk
  rcases hs with h | ⟨el, sp, rfl, h⟩
  · have : n = 0 := by omega
    subst this; simp
  · have := sized_slice hsz ht hd hu
    have hr : reachBytes = 140737488351232 := rfl
    rw [h, hr] at this
    exact Nat.le_trans (Nat.mul_le_mul_right _ hn) this
/-- How many bytes a slice within a record of a slice that came in may take. -/
theorem field_small {H : Type} {P : Program} {ts : List TypeId} {ds : List (DataW H)} {j k : Nat} {t e q r : TypeId} {fs : Array Field} {el sp e' s' parts : List (DataW H)} (hsz : (DataW.weightsEach P ts ds).all (· ≤ reachBytes) = true) (ht : ts[j]? = some t) (hd : ds[j]? = some (.slice el sp))
    (hu : P.underlying t = some (.slice e)) (he : P.underlying e = some (.struct fs)) (hm : DataW.agg parts ∈ el) (hp : parts[k]? = some (.slice e' s')) (hf : (fs.toList.map (·.type))[k]? = some q) (hq : P.underlying q = some (.slice r)) : (e'.length + s'.length) * P.bytesOf r ≤ reachBytes := by
  refine of_decide_eq_true (List.all_eq_true.1 hsz _ (DataW.weights_mem_each ht hd _ ?_))
  have key : ∀ l : List (DataW H), DataW.agg parts ∈ l → (e'.length + s'.length) * P.bytesOf r ∈ DataW.weightsAll P e l := by
    intro l
    induction l with
    | nil => intro h; cases h
    | cons x l ih =>
      intro h
      simp only [DataW.weightsAll, List.mem_append]
      rcases List.mem_cons.1 h with rfl | h
      · left
        simp only [DataW.weights, he]
        exact DataW.weights_mem_each hf hp _ (by simp [DataW.weights, hq])
      · right; exact ih h
  simp only [DataW.weights, hu, List.mem_cons, List.mem_append]
  exact .inr (.inl (key el hm))
end Go
end

section
namespace Go.Proofs.Ytfglidaicjjpfaa
open Go.ChangeShapes Go.WideShapes Go.ChangeAt Go.RowKit

set_option maxRecDepth 100000 in
theorem daemonHears_lifted (os : Os) (started : os.Started) (H : Type) (enc : TypeId × Value → H) :
    ReturnsInHanded {} Try.checked os 7 .any (Rows.daemonHearsSpec.pre6 enc Try.prog Try.f7 Rows.daemonHearsRow.domain false) (Rows.daemonHearsSpec.post enc Try.prog Try.f7 false true false false) := by
  refine law_lift (C := Try.checked) own laidOut (by kernel_rfl) Try.func7 rfl rfl Try.underlying4 (by kernel_rfl) os started H enc
    (ChangeSpec.witness6 (enc := enc) (C := Try.checked) false ⟨#[], #[.slice none 0 0, .slice none 0 0, .int .i64 0], []⟩ 8 (by kernel_rfl) (by kernel_rfl) (by kernel_rfl) (by kernel_rfl)) ?_
  intro W base args ds p hval hA hlt hsz
  rw [Try.params7] at hA hval hsz
  obtain ⟨v0, vs0, d0, ds0, p0, q0, hargs, rfl, rfl, h0, r0⟩ := trodAll_cons hA
  obtain ⟨v1, vs1, d1, ds1, p1, q1, rfl, rfl, rfl, h1, r1⟩ := trodAll_cons r0
  obtain ⟨v2, vs2, d2, ds2, p2, q2, rfl, rfl, rfl, h2, r2⟩ := trodAll_cons r1
  obtain ⟨rfl, rfl, rfl⟩ := trodAll_nil r2
  obtain rfl : args = #[v0, v1, v2] := by cases args; simp_all
  obtain ⟨a0, x0, c0, rfl, k0, j0, i0, n0, y0, s0⟩ := arg_recs (by decide) Nt.cells_len Try.underlying23 (by kernel_rfl) (open_net Try.underlying43 (by kernel_rfl) rfl rfl Try.underlying41 Try.underlying3 cellsNt1 cellsNt2) (hval 0 23 v0 rfl rfl) h0 (fun x hx => hlt x (by simp [hx]))
  obtain ⟨a1, x1, c1, rfl, k1, j1, i1, n1, y1, s1⟩ := arg_recs (by decide) Nt.cells_len Try.underlying23 (by kernel_rfl) (open_net Try.underlying43 (by kernel_rfl) rfl rfl Try.underlying41 Try.underlying3 cellsNt1 cellsNt2) (hval 1 23 v1 rfl rfl) h1 (fun x hx => hlt x (by simp [hx]))
  obtain ⟨x2, rfl, rfl, rfl, k2⟩ := open_int Try.underlying3 (hval 2 3 v2 rfl rfl) h2
  refine ⟨?_, rfl, rfl, rfl⟩
  exact daemonHears_any x0 a0 c0 x1 a1 c1 x2 W k0 (fun x hx => ⟨(n0 x hx).1, (n0 x hx).2.1⟩) (slice_small (k := 16) hsz (j := 0) rfl rfl Try.underlying23 (by kernel_rfl) j0 s0) y0 j0 k1 (fun x hx => ⟨(n1 x hx).1, (n1 x hx).2.1⟩) (slice_small (k := 16) hsz (j := 1) rfl rfl Try.underlying23 (by kernel_rfl) j1 s1) y1 j1

theorem daemonHears_over : Rows.daemonHearsRow.holds Try.pinned (OpenSpec.ofChange Rows.daemonHearsSpec) :=
  OpenClaim.holds_of_wide 7 Try.f7 rfl rfl rfl rfl rfl rfl rfl ⟨rfl, rfl, rfl, rfl, rfl⟩ rfl rfl rfl rfl rfl (by kernel_rfl) Try.func7 (by kernel_rfl)
    (of_decide_eq_true (by kernel_rfl)) (by unfold Func.isWrapper; first | (rw [if_pos (by decide +kernel)]; kernel_rfl) | (rw [if_neg (by decide +kernel)]; exact ⟨rfl, rfl⟩))
    (fun os started H enc _ => daemonHears_lifted os started H enc)

theorem daemonHears_holds : Rows.DaemonHearsSaid := daemonHears_over
end Go.Proofs.Ytfglidaicjjpfaa
end
