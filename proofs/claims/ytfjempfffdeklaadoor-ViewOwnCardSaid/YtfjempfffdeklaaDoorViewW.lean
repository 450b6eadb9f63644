import Derived.Test.YtfjempfffdeklaaDoorArgBest
import Derived.Test.YtfjempfffdeklaaDoorNKey
import Derived.Test.YtfjempfffdeklaaDoorIntsIn
import Derived.Test.YtfjempfffdeklaaDoorNetW
namespace Go.Proofs.YtfjempfffdeklaaDoor
open Go.RowKit Go.Maps

/-- An entry: a net, a tag, a hop, how far. -/
structure En where
  (a n t p m : Int)
deriving Inhabited, DecidableEq
abbrev En.cells (x : En) : List Value := [.int .u32 x.a, .int .i64 x.n, .int .i64 x.t, .int .u32 x.p, .int .i64 x.m]
theorem En.cells_len (x : En) : (En.cells x).length = 5 := rfl
theorem infoEn : (Tryd.prog.info? 43).map (fun i => (i.zero, i.size, i.bytes)) = some (some (.agg #[.int .u32 0, .int .i64 0, .int .i64 0, .int .u32 0, .int .i64 0]), 5, 40) := by kernel_rfl
theorem en_one (x : En) : ∀ u ∈ En.cells x, u.oneCell' = true := by simp [Value.oneCell']
theorem rd_box (w : World) (o : Obj) (T : TypeId) (xs : List Value) : Rd ((w.alloc o).alloc (.cells xs.toArray T)).heap (some ⟨w.heap.size + 1, 0, none⟩) 1 xs.length xs := by
  have := (Own.made (w.alloc o) T xs.length 1 xs (by omega) (by decide)).rd
  rwa [show (w.alloc o).heap.size = w.heap.size + 1 by simp] at this
/-- Ways that are handed in. -/
structure Bests (H : Array Obj) (a : Option Addr) (l : List BestR) : Prop where
  top : Recs H a 4 BestR.cells l
  wf : ∀ x ∈ l, BestR.wf x
  row : ∀ x ∈ l, Ints H x.A x.h
theorem Bests.fr0 {S : Nat → Prop} {w w' : World} {a : Option Addr} {l : List BestR} (h : Bests w.heap a l) (f : Fr S w w') (hs : ∀ k, k < w.heap.size → ¬ S k) : Bests w'.heap a l :=
  ⟨h.top.fr0 f hs, h.wf, fun x hx => (h.row x hx).fr0 f hs⟩

def _root_.Go.BestR.net (b : BestR) : Nt := ⟨b.a, b.n⟩
def viewErr1 (seen : List Nt) (b : BestR) : Option Int :=
  match netErr b.a b.n with
  | some k => some k
  | none => if b.m < 1 ∨ 16 < b.m then some 1 else if b.net ∈ seen then some 5 else none
def viewErrL (seen : List Nt) : List BestR → Option Int
  | [] => none
  | b :: l => match viewErr1 seen b with
    | some k => some k
    | none => viewErrL (b.net :: seen) l
def viewErr (to : Int) (l : List BestR) : Option Int := if to < 0 ∨ 8 ≤ to then some 1 else viewErrL [] l
def viewStep (to : Int) (poison : Bool) (b : BestR) : List En := if to ∈ b.h then (if poison then [⟨b.a, b.n, 0, 0, 16⟩] else []) else [⟨b.a, b.n, 0, 0, b.m⟩]
def viewOut (to : Int) (poison : Bool) (l : List BestR) : List En := l.flatMap (viewStep to poison)
theorem viewStep_len (to : Int) (poison : Bool) (b : BestR) : (viewStep to poison b).length ≤ 1 := by
  unfold viewStep
  split
  · split <;> simp
  · simp
theorem viewOut_len (to : Int) (poison : Bool) : ∀ l : List BestR, (viewOut to poison l).length ≤ l.length
  | [] => Nat.le_refl _
  | b :: l => by
    have h1 := viewOut_len to poison l
    have h2 := viewStep_len to poison b
    unfold viewOut at *
    rw [List.flatMap_cons, List.length_append, List.length_cons]
    omega
def RetView (w : World) (to : Int) (poison : Bool) (l : List BestR) (r : Option Int) (e : Ending) (w' : World) : Prop :=
  match r with
  | some k => RetV w (.tuple #[.slice none 0 0, errv k]) e w'
  | none => ∃ a c ob, e = .returned (.tuple #[.slice a (viewOut to poison l).length c, .nilIface]) ∧ Own w'.heap 43 5 a (viewOut to poison l).length c ((viewOut to poison l).flatMap En.cells) ob ∧ Fr (fun _ => False) w w' ∧ (∀ g, ob = some g → w.heap.size ≤ g)
theorem RetView.err {w w' : World} {to : Int} {poison : Bool} {l : List BestR} {r : Option Int} {k : Int} {e : Ending} (h : r = some k) (he : e = .returned (.tuple #[.slice none 0 0, errv k])) (hF : Fr (fun _ => False) w w') : RetView w to poison l r e w' := by subst h; exact ⟨he, hF⟩
theorem RetView.ok {w w' : World} {to : Int} {poison : Bool} {l : List BestR} {r : Option Int} {a : Option Addr} {m c : Nat} {ob : Option Nat} {xs : List Value} {e : Ending} (h : r = none) (he : e = .returned (.tuple #[.slice a m c, .nilIface])) (hm : m = (viewOut to poison l).length) (hx : xs = (viewOut to poison l).flatMap En.cells)
    (hO : Own w'.heap 43 5 a m c xs ob) (hF : Fr (fun _ => False) w w') (hN : ∀ g, ob = some g → w.heap.size ≤ g) : RetView w to poison l r e w' := by
  subst h; subst hm; subst hx; exact ⟨a, c, ob, he, hO, hF, hN⟩

abbrev unitL (seen : List Nt) : List (Nt × Value) := seen.map fun q => (q, .agg #[])
theorem mget_unitL (seen : List Nt) (q : Nt) : mget (unitL seen) q = if q ∈ seen then some (.agg #[]) else none := by
  induction seen with
  | nil => rfl
  | cons x l ih =>
    by_cases h : x = q
    · subst h
      simp [mget]
    · have h1 : mget (unitL (x :: l)) q = mget (unitL l) q := by
        unfold mget
        simp only [unitL]
        rw [List.map_cons, List.find?_cons_of_neg (by simpa using h)]
      rw [h1, ih]
      have h2 : (q ∈ x :: l) ↔ q ∈ l := by
        rw [List.mem_cons]
        constructor
        · rintro (h3 | h3)
          · exact absurd h3.symm h
          · exact h3
        · exact fun h3 => .inr h3
      by_cases h3 : q ∈ l
      · rw [if_pos h3, if_pos (h2.2 h3)]
      · rw [if_neg h3, if_neg (fun h4 => h3 (h2.1 h4))]
theorem zeroUnitN {w : World} : (zeroValue 125).run Tryd.prog w = .ok (.agg #[]) w := by kernel_rfl

set_option maxRecDepth 100000 in
set_option maxHeartbeats 4000000 in
theorem view_any (l : List BestR) (al : Option Addr) (c : Nat) (to : Int) (poison : Bool) (w : World) (hL : Bests w.heap al l) (hl : l.length * 48 ≤ 140737488351232) :
    Calls Tryd.prog 15 #[.slice al l.length c, .int .i64 to, .bool poison] w (RetView w to poison l (viewErr to l)) := by
  obtain ⟨E, hE⟩ : ∃ E, E = viewErr to l := ⟨_, rfl⟩
  rw [← hE]
  have HE := Lib.hid hE
  clear hE
  have hmm := @run_makeMap Tryd.prog
  by_cases hto : to < 0 ∨ 8 ≤ to
  · have hX := Lib.hid (HE.out.trans (if_pos hto))
    go_enter Tryd.func15, Tryd.ntmps15
    go_wp2
    all_goals go_ret2
    all_goals exact RetView.err hX.out rfl (Fr.refl _ _)
  · have hX := Lib.hid (HE.out.trans (if_neg hto))
    have t1 : 0 ≤ to := by omega
    have t2 : to < 8 := by omega
    have HL := Lib.hid hL
    clear hto
    go_enter Tryd.func15, Tryd.ntmps15
    go_wp2
    go_loopw [26, 9] (fun s26 s9 wr => ∃ (k m : Nat) (seen : List Nt) (ao : Option Addr) (co : Nat) (ob : Option Nat) (xs : List Value), k ≤ l.length ∧ s26 = .int .i64 k ∧ s9 = .slice ao m co ∧ m ≤ k ∧ MapL wr Tryd.prog 37 kln w.heap.size (unitL seen) ∧ seen.length ≤ k ∧ Hid (∀ q ∈ seen, Nt.wf q) ∧ Own wr.heap 43 5 ao m co xs ob ∧ (∀ g, ob = some g → w.heap.size < g) ∧ Fr (fun _ => False) w wr ∧ Hid (E = viewErrL seen (l.drop k)) ∧ Hid (m = (viewOut to poison (l.take k)).length ∧ xs = (viewOut to poison (l.take k)).flatMap En.cells)) (fun s _ _ => l.length - (intOf s).toNat)
    case atStart => exact ⟨0, 0, [], none, 0, none, [], by omega, rfl, rfl, by omega, MapL.made _ _ _ _, Nat.le_refl _, Lib.hid (fun q hq => nomatch hq), Own.nil _ _ _, (fun g h => nomatch h), (Fr.refl _ _).alloc _, hX, Lib.hid ⟨rfl, rfl⟩⟩
    case round =>
      obtain ⟨k, m, seen, ao, co, ob, xs, hk, rfl, rfl, hmk, hM, hsk, hws, hO, hN, hF, hEk, hOut⟩ := hrel
      by_cases hkl : k < l.length
      · have hLr := HL.out.fr0 hF (fun _ _ h => h)
        obtain ⟨b, off, rfl, hbb, hc⟩ := Recs.pos hLr.top BestR.cells_len (by omega) (by omega)
        have dd := fun (j : Nat) (hj : j < 4) => hc wr rfl k j hkl hj
        have d0 := dd 0 (by omega)
        have d1 := dd 1 (by omega)
        have d2 := dd 2 (by omega)
        have d3 := dd 3 (by omega)
        have hxm := nth_mem l k hkl
        have hwf := hLr.wf _ hxm
        have hrow := HL.out.row _ hxm
        have hdr := drop_nth l k hkl
        have htk := take_succ_nth l k hkl
        obtain ⟨x, hx⟩ : ∃ x, x = nth l k := ⟨_, rfl⟩
        rw [← hx] at d0 d1 d2 d3 hwf hrow hdr htk
        have hE1 : E = match viewErr1 seen x with | some k => some k | none => viewErrL (x.net :: seen) (l.drop (k + 1)) := by rw [hEk.out, hdr]; rfl
        have hO1 : viewOut to poison (l.take (k + 1)) = viewOut to poison (l.take k) ++ viewStep to poison x := by rw [htk]; unfold viewOut; rw [List.flatMap_append]; simp
        have HE1 := Lib.hid hE1
        have HO1 := Lib.hid hO1
        have HWF := Lib.hid hwf
        obtain ⟨xa, xn, xm, xh, xA, xC⟩ := x
        simp only [BestR.cells, List.getElem?_cons_zero, List.getElem?_cons_succ, ← Nat.add_assoc, Nat.add_zero] at d0 d1 d2 d3
        have hna : 0 ≤ xa ∧ xa < 4294967296 := ⟨hwf.1.1, hwf.1.2.1⟩
        have hxl : xh.length ≤ 9223372036854775807 := by
          have h1 : xh.length ≤ xC := hwf.2.2.1
          have h2 : xC ≤ 9223372036854775807 := hwf.2.2.2.1
          omega
        have hsz := hF.size
        clear hc dd hxm hwf hdr htk hx hE1 hO1 hLr hEk
        cases hne : netErr xa xn with
        | some e =>
          have hX2 := Lib.hid (HE1.out.trans (show _ = some e by unfold viewErr1; simp only [hne]))
          have HNE := Lib.hid hne
          clear hne hO hM
          go_wp2_with (fail)
          refine (pcheck_any xa xn _ hna).mono ?_
          rintro e1 w1 ⟨rfl, hF1⟩
          rw [HNE.out, show errO (some e) = errv e from rfl]
          have hF01 := (hF.alloc _).trans hF1
          go_wp2
          go_ret2
          exact RetView.err hX2.out rfl hF01
        | none =>
          have HNE := Lib.hid hne
          have hE2 : E = if xm < 1 ∨ 16 < xm then some 1 else match (if (⟨xa, xn⟩ : Nt) ∈ seen then some 5 else none : Option Int) with | some k => some k | none => viewErrL (⟨xa, xn⟩ :: seen) (l.drop (k + 1)) := by
            rw [HE1.out]
            unfold viewErr1
            simp only [hne]
            by_cases hm : xm < 1 ∨ 16 < xm
            · rw [if_pos hm, if_pos hm]
            · rw [if_neg hm, if_neg hm]
              rfl
          clear hne HE1
          by_cases hm : xm < 1 ∨ 16 < xm
          · have hX2 := Lib.hid (hE2.trans (if_pos hm))
            clear hE2 hO hM
            go_wp2_with (fail)
            refine (pcheck_any xa xn _ hna).mono ?_
            rintro e1 w1 ⟨rfl, hF1⟩
            rw [HNE.out, show errO none = .nilIface from rfl]
            have hF01 := (hF.alloc (.cells #[.int .u32 xa, .int .i64 xn, .int .i64 xm, .slice xA xh.length xC] 40)).trans hF1
            have hB := (Blk.made wr 40 [.int .u32 xa, .int .i64 xn, .int .i64 xm, .slice xA xh.length xC]).fr hF1 (fun h => h)
            have c2 := hB.cell 2
            simp only [List.getElem?_cons_succ, List.getElem?_cons_zero] at c2
            go_wp2
            all_goals go_ret2
            all_goals exact RetView.err hX2.out rfl hF01
          · have hE3 := hE2.trans (if_neg hm)
            have m1 : 1 ≤ xm := by omega
            have m2 : xm ≤ 16 := by omega
            have HSW : Hid (∀ p ∈ unitL seen, kln p.1 = kln ⟨xa, xn⟩ → p.1 = ⟨xa, xn⟩) := Lib.hid (fun p hp h => by
              obtain ⟨q, hq, rfl⟩ := List.mem_map.1 hp
              exact kln_inj (hws.out q hq) HWF.out.1 h)
            have hkey := nkey ⟨xa, xn⟩ HWF.out.1
            have HK := Lib.hid hkey
            have hul : (unitL seen).length ≤ k := by simpa using hsk
            clear hm hE2 hkey
            go_wp2_with (fail)
            refine (pcheck_any xa xn _ hna).mono ?_
            rintro e1 w1 ⟨rfl, hF1⟩
            rw [HNE.out, show errO none = .nilIface from rfl]
            have hFr1 := ((Fr.refl (fun _ => False) wr).alloc (.cells #[.int .u32 xa, .int .i64 xn, .int .i64 xm, .slice xA xh.length xC] 40)).trans hF1
            have hF01 := hF.trans hFr1
            have hB := (Blk.made wr 40 [.int .u32 xa, .int .i64 xn, .int .i64 xm, .slice xA xh.length xC]).fr hF1 (fun h => h)
            have hM1 := hM.fr hFr1 (fun h => h)
            have hO1 := hO.fr hFr1 (fun _ _ h => h)
            have c0 := hB.cell 0
            have c1 := hB.cell 1
            have c2 := hB.cell 2
            have c3 := hB.cell 3
            have hbl := hB.lt
            simp only [List.getElem?_cons_succ, List.getElem?_cons_zero] at c0 c1 c2 c3
            have hmg := mget_unitL seen ⟨xa, xn⟩
            have HROW := Lib.hid hrow
            have hmlt := hM.lt
            clear hM hO hrow hF1
            by_cases hin : (⟨xa, xn⟩ : Nt) ∈ seen
            · have hX2 := Lib.hid (hE3.trans (by rw [if_pos hin]))
              rw [if_pos hin] at hmg
              have HMG := Lib.hid hmg
              clear hE3 hin hmg hO1
              go_wp2_with (at_lookup; refine wpList_lookL_ok rfl _ _ 124 rfl 37 125 keyedN Tryd.underlying124 zeroUnitN w.heap.size (unitL seen) kln rfl hM1 _ ⟨xa, xn⟩ rfl HK.out HSW.out ?_; rw [HMG.out])
              go_ret2
              exact RetView.err hX2.out rfl (hF01.alloc _)
            · have hX2 := Lib.hid (hE3.trans (by rw [if_neg hin]))
              have HIN := Lib.hid hin
              rw [if_neg hin] at hmg
              have HMG := Lib.hid hmg
              clear hE3 hin hmg
              have hM2 := hM1.fr ((Fr.refl (fun _ => False) w1).alloc (.cells #[] 125)) (fun h => h)
              go_wp2_with (first | (at_lookup; refine wpList_lookL_ok rfl _ _ 124 rfl 37 125 keyedN Tryd.underlying124 zeroUnitN w.heap.size (unitL seen) kln rfl hM1 _ ⟨xa, xn⟩ rfl HK.out HSW.out ?_; rw [HMG.out]) | (at_mapUpdate; refine wpList_mput rfl _ _ _ 124 rfl 37 125 keyedN Tryd.underlying124 w.heap.size (unitL seen) kln rfl hM2 (Nat.lt_of_le_of_lt hul (by show k < 9223372036854775807; omega)) _ _ ⟨xa, xn⟩ rfl rfl HK.out HSW.out ?_))
              intro w3 hM3 hF3 hs3
              clear hs3
              have hF13 := ((Fr.refl (fun k => k = w.heap.size) w1).alloc (.cells #[] 125)).trans hF3
              have hlw := hF.size
              have hF03 : Fr (fun _ => False) w w3 := hF01.trans' hF13 (fun i hi h => by omega)
              have hB3 := hB.fr hF13 (fun h => by have h2 : wr.heap.size = w.heap.size := h; omega)
              have hM4 : MapL w3 Tryd.prog 37 kln w.heap.size (unitL (⟨xa, xn⟩ :: seen)) := by rw [mput_new HMG.out] at hM3; exact hM3
              have hO3 := hO1.fr hF13 (fun g hg h => by have := hN g hg; omega)
              have c0 := hB3.cell 0
              have c1 := hB3.cell 1
              have c2 := hB3.cell 2
              have c3 := hB3.cell 3
              have hbl3 := hB3.lt
              simp only [List.getElem?_cons_succ, List.getElem?_cons_zero] at c0 c1 c2 c3
              have hws' : Hid (∀ q ∈ (⟨xa, xn⟩ :: seen : List Nt), Nt.wf q) := Lib.hid (fun q hq => by
                rcases List.mem_cons.1 hq with rfl | hq
                · exact HWF.out.1
                · exact hws.out q hq)
              have hF04 := hF03.alloc (.cells #[.int .u32 xa, .int .i64 xn, .int .i64 0, .int .u32 0, .int .i64 xm] 43)
              have hM5 := hM4.fr ((Fr.refl (fun _ => False) w3).alloc (.cells #[.int .u32 xa, .int .i64 xn, .int .i64 0, .int .u32 0, .int .i64 xm] 43)) (fun h => h)
              have hO4 := hO3.alloc (.cells #[.int .u32 xa, .int .i64 xn, .int .i64 0, .int .u32 0, .int .i64 xm] 43)
              have hBe := Blk.made w3 43 [.int .u32 xa, .int .i64 xn, .int .i64 0, .int .u32 0, .int .i64 xm]
              have hcap := hO3.cap
              clear hM3 hO1 hM1 hM2 hF3 hB hB3
              go_wp2_with (fail)
              refine (contains_int xh xA xC to _ (HROW.out.fr0 hF04 (fun _ _ h => h)) rfl hxl).mono ?_
              rintro e4 w4 ⟨rfl, rfl⟩
              by_cases hto : to ∈ xh
              · rw [decide_eq_true hto]
                cases poison with
                | false =>
                  have hst : Hid (viewOut to false (l.take (k + 1)) = viewOut to false (l.take k)) := Lib.hid (by rw [HO1.out]; unfold viewStep; rw [if_pos hto]; simp)
                  clear hto
                  go_wp2
                  go_roundw
                  case rel => exact ⟨k + 1, m, _, ao, co, ob, xs, by omega, by go_num, rfl, by omega, hM5, by simp; omega, hws', hO4, hN, hF04, hX2, Lib.hid (by rw [hst.out]; exact hOut.out)⟩
                  case measure => simp [intOf]; omega
                | true =>
                  have hst : Hid (viewOut to true (l.take (k + 1)) = viewOut to true (l.take k) ++ [⟨xa, xn, 0, 0, 16⟩]) := Lib.hid (by rw [HO1.out]; unfold viewStep; rw [if_pos hto]; rfl)
                  clear hto
                  have hcs : (viewOut to true (l.take (k + 1))).flatMap En.cells = (viewOut to true (l.take k)).flatMap En.cells ++ [.int .u32 xa, .int .i64 xn, .int .i64 0, .int .u32 0, .int .i64 16] := by rw [hst.out, List.flatMap_append]; simp
                  have HCS := Lib.hid hcs
                  clear hcs
                  have hrd := rd_box w3 (.cells #[.int .u32 xa, .int .i64 xn, .int .i64 0, .int .u32 0, .int .i64 16] 43) 43 [.int .u32 xa, .int .i64 xn, .int .i64 0, .int .u32 0, .int .i64 16]
                  have hO5 := (hO3.alloc (.cells #[.int .u32 xa, .int .i64 xn, .int .i64 0, .int .u32 0, .int .i64 16] 43)).alloc (.cells #[.int .u32 xa, .int .i64 xn, .int .i64 0, .int .u32 0, .int .i64 16] 43)
                  have hF5 := (hF03.alloc (.cells #[.int .u32 xa, .int .i64 xn, .int .i64 0, .int .u32 0, .int .i64 16] 43)).alloc (.cells #[.int .u32 xa, .int .i64 xn, .int .i64 0, .int .u32 0, .int .i64 16] 43)
                  have hM6 := hM4.fr (((Fr.refl (fun _ => False) w3).alloc (.cells #[.int .u32 xa, .int .i64 xn, .int .i64 0, .int .u32 0, .int .i64 16] 43)).alloc (.cells #[.int .u32 xa, .int .i64 xn, .int .i64 0, .int .u32 0, .int .i64 16] 43)) (fun h => h)
                  clear hM5 hO4 hF04
                  go_wp2_with (at_builtin; refine wpList_app rfl _ _ 24 rfl Tryd.underlying24 infoEn rfl (by decide) rfl rfl hO5 hrd (by simp [Value.oneCell']) (by omega) (by omega) ?_)
                  intro a' c' w6 ob' z1 z2 z3
                  have hF6 := Fr.app hF5 z2 (fun g h => Nat.le_of_lt (hN g h))
                  have hN6 : ∀ g, ob' = some g → w.heap.size < g := fun g hg => by
                    rcases z3 with z3 | ⟨g', z3, z4⟩
                    · exact hN g (by rw [← z3, hg])
                    · rw [z3] at hg; cases hg; have := hF03.size; omega
                  have hM7 := hM6.fr z2 (fun h => by have := hN _ h; omega)
                  have hOut' : Hid (m + 1 = (viewOut to true (l.take (k + 1))).length ∧ xs ++ [.int .u32 xa, .int .i64 xn, .int .i64 0, .int .u32 0, .int .i64 16] = (viewOut to true (l.take (k + 1))).flatMap En.cells) := Lib.hid (by
                    rw [HCS.out, hst.out, ← hOut.out.2]
                    exact ⟨by rw [List.length_append, ← hOut.out.1]; rfl, rfl⟩)
                  have HO7 := Lib.hid z1
                  clear z1 z2 z3 hrd hO5 hO3
                  go_wp2
                  go_roundw
                  case rel => exact ⟨k + 1, m + 1, _, a', c', ob', _, by omega, by go_num, rfl, by omega, hM7, by simp; omega, hws', HO7.out, hN6, hF6, hX2, hOut'⟩
                  case measure => simp [intOf]; omega
              · rw [decide_eq_false hto]
                have hst : Hid (viewOut to poison (l.take (k + 1)) = viewOut to poison (l.take k) ++ [⟨xa, xn, 0, 0, xm⟩]) := Lib.hid (by rw [HO1.out]; unfold viewStep; rw [if_neg hto])
                clear hto
                have hcs : (viewOut to poison (l.take (k + 1))).flatMap En.cells = (viewOut to poison (l.take k)).flatMap En.cells ++ [.int .u32 xa, .int .i64 xn, .int .i64 0, .int .u32 0, .int .i64 xm] := by rw [hst.out, List.flatMap_append]; simp
                have HCS := Lib.hid hcs
                clear hcs
                have hrd := rd_box w3 (.cells #[.int .u32 xa, .int .i64 xn, .int .i64 0, .int .u32 0, .int .i64 xm] 43) 43 [.int .u32 xa, .int .i64 xn, .int .i64 0, .int .u32 0, .int .i64 xm]
                have hO5 := (hO3.alloc (.cells #[.int .u32 xa, .int .i64 xn, .int .i64 0, .int .u32 0, .int .i64 xm] 43)).alloc (.cells #[.int .u32 xa, .int .i64 xn, .int .i64 0, .int .u32 0, .int .i64 xm] 43)
                have hF5 := (hF03.alloc (.cells #[.int .u32 xa, .int .i64 xn, .int .i64 0, .int .u32 0, .int .i64 xm] 43)).alloc (.cells #[.int .u32 xa, .int .i64 xn, .int .i64 0, .int .u32 0, .int .i64 xm] 43)
                have hM6 := hM4.fr (((Fr.refl (fun _ => False) w3).alloc (.cells #[.int .u32 xa, .int .i64 xn, .int .i64 0, .int .u32 0, .int .i64 xm] 43)).alloc (.cells #[.int .u32 xa, .int .i64 xn, .int .i64 0, .int .u32 0, .int .i64 xm] 43)) (fun h => h)
                clear hM5 hO4 hF04
                go_wp2_with (at_builtin; refine wpList_app rfl _ _ 24 rfl Tryd.underlying24 infoEn rfl (by decide) rfl rfl hO5 hrd (by simp [Value.oneCell']) (by omega) (by omega) ?_)
                intro a' c' w6 ob' z1 z2 z3
                have hF6 := Fr.app hF5 z2 (fun g h => Nat.le_of_lt (hN g h))
                have hN6 : ∀ g, ob' = some g → w.heap.size < g := fun g hg => by
                  rcases z3 with z3 | ⟨g', z3, z4⟩
                  · exact hN g (by rw [← z3, hg])
                  · rw [z3] at hg; cases hg; have := hF03.size; omega
                have hM7 := hM6.fr z2 (fun h => by have := hN _ h; omega)
                have hOut' : Hid (m + 1 = (viewOut to poison (l.take (k + 1))).length ∧ xs ++ [.int .u32 xa, .int .i64 xn, .int .i64 0, .int .u32 0, .int .i64 xm] = (viewOut to poison (l.take (k + 1))).flatMap En.cells) := Lib.hid (by
                  rw [HCS.out, hst.out, ← hOut.out.2]
                  exact ⟨by rw [List.length_append, ← hOut.out.1]; rfl, rfl⟩)
                have HO7 := Lib.hid z1
                clear z1 z2 z3 hrd hO5 hO3
                go_wp2
                go_roundw
                case rel => exact ⟨k + 1, m + 1, _, a', c', ob', _, by omega, by go_num, rfl, by omega, hM7, by simp; omega, hws', HO7.out, hN6, hF6, hX2, hOut'⟩
                case measure => simp [intOf]; omega
      · obtain rfl : k = l.length := by omega
        have hX2 : Hid (E = none) := Lib.hid (by rw [hEk.out, List.drop_length]; rfl)
        have hOut2 : Hid (m = (viewOut to poison l).length ∧ xs = (viewOut to poison l).flatMap En.cells) := Lib.hid (by have := hOut.out; rwa [List.take_length] at this)
        go_wp2
        go_ret2
        exact RetView.ok hX2.out rfl hOut2.out.1 hOut2.out.2 hO hF (fun g h => Nat.le_of_lt (hN g h))
end Go.Proofs.YtfjempfffdeklaaDoor
