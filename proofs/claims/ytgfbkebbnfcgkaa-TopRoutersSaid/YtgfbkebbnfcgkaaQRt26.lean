import Derived.Test.YtgfbkebbnfcgkaaErr
import Derived.Test.YtgfbkebbnfcgkaaQRt6
import Derived.Test.YtgfbkebbnfcgkaaQRt10
import Derived.Test.YtgfbkebbnfcgkaaNetW
import Derived.Test.YtgfbkebbnfcgkaaQRt20
import Derived.Test.YtgfbkebbnfcgkaaQRt25
import Derived.Test.YtgfbkebbnfcgkaaQRt21
section
namespace Go.Proofs.Ytgfbkebbnfcgkaa
open Go.RowKit


/-- Where it stands first; -1: nowhere. -/
def IdxI (w : World) (l : List Int) (x : Int) (e : Ending) (w' : World) : Prop := ∃ i : Int, e = .returned (.int .i64 i) ∧ w' = w ∧ decide (i ≥ 0) = decide (x ∈ l) ∧ ((x ∈ l ∧ ∃ k : Nat, i = k ∧ k < l.length ∧ nth l k = x ∧ x ∉ l.take k) ∨ (x ∉ l ∧ i = -1))
set_option maxRecDepth 100000 in
set_option maxHeartbeats 1000000 in
theorem index_int {n : Nat} (l : List Int) (a : Option Addr) (c : Nat) (x : Int) (w : World) (hr : Ints w.heap a l) (hn : n = l.length) (hl : n ≤ 9223372036854775807) :
    Calls Try.prog 65 #[.slice a n c, .int .i64 x] w (IdxI w l x) := by
  subst hn
  go_enter Try.func65, Try.ntmps65
  go_wp2
  go_loopw [8] (fun s8 wr => ∃ k : Nat, k ≤ l.length ∧ s8 = .int .i64 k ∧ wr = w ∧ Hid (x ∉ l.take k)) (fun s _ => l.length - (intOf s).toNat)
  case atStart => exact ⟨0, by omega, rfl, rfl, Lib.hid (by simp)⟩
  case round =>
    obtain ⟨k, hk, rfl, rfl, hno⟩ := hrel
    by_cases hkl : k < l.length
    · obtain ⟨b, off, rfl, hb, hc⟩ := Ints.pos hr (by omega)
      have d := hc wr rfl k hkl
      have htk := take_succ_nth l k hkl
      have hdr := drop_nth l k hkl
      obtain ⟨y, hy⟩ : ∃ y, y = nth l k := ⟨_, rfl⟩
      rw [← hy] at d htk hdr
      clear hc
      by_cases hxy : x = y
      · have hX : Hid (x ∈ l ∧ nth l k = x) := Lib.hid ⟨by rw [← List.take_append_drop k l, hdr, hxy]; simp, by rw [hxy]; exact hy.symm⟩
        have e1 : (x == y) = true := by simpa using hxy
        clear hxy htk hdr hy
        go_wp2
        go_ret
        exact ⟨k, rfl, rfl, by simp [hX.out.1], .inl ⟨hX.out.1, k, rfl, hkl, hX.out.2, hno.out⟩⟩
      · have e1 : (x == y) = false := by simpa using hxy
        have hno' : Hid (x ∉ l.take (k + 1)) := Lib.hid (by
          rw [htk, List.mem_append]
          rintro (h | h)
          · exact hno.out h
          · exact hxy (by simpa using h))
        clear hxy htk hdr hy
        go_wp2
        go_roundw
        case rel => exact ⟨k + 1, by omega, by go_num, by first | trivial | rfl, hno'⟩
        case measure => simp [intOf]; omega
    · obtain rfl : k = l.length := by omega
      have hX : Hid (x ∉ l) := Lib.hid (by
        have := hno.out
        rwa [List.take_length] at this)
      go_wp2
      go_ret
      exact ⟨-1, rfl, rfl, by simp [hX.out], .inr ⟨hX.out, rfl⟩⟩


set_option maxRecDepth 100000 in
set_option maxHeartbeats 1000000 in
theorem contains_int {n : Nat} (l : List Int) (a : Option Addr) (c : Nat) (x : Int) (w : World) (hr : Ints w.heap a l) (hn : n = l.length) (hl : n ≤ 9223372036854775807) :
    Calls Try.prog 43 #[.slice a n c, .int .i64 x] w (fun e w' => e = .returned (.bool (decide (x ∈ l))) ∧ w' = w) := by
  subst hn
  obtain ⟨B, hB⟩ : ∃ B, B = decide (x ∈ l) := ⟨_, rfl⟩
  rw [← hB]
  have HB := Lib.hid hB
  clear hB
  go_enter Try.func43, Try.ntmps43
  go_wp2_with (fail)
  refine (index_int l a c x w hr rfl hl).mono ?_
  rintro e1 w1 ⟨i, rfl, rfl, hi, -⟩
  have HI := Lib.hid (HB.out.trans hi.symm)
  clear hi
  go_wp2
  go_ret
  exact ⟨by rw [HI.out]; rfl, rfl⟩


end Go.Proofs.Ytgfbkebbnfcgkaa
end

section
namespace Go.Proofs.Ytgfbkebbnfcgkaa
open Go.RowKit Go.Maps

theorem rd_box (w : World) (o : Obj) (T : TypeId) (xs : List Value) : Rd ((w.alloc o).alloc (.cells xs.toArray T)).heap (some ⟨w.heap.size + 1, 0, none⟩) 1 xs.length xs := by
  have := (Ownd.made (w.alloc o) T xs.length 1 xs (by omega) (by decide)).rd
  rwa [show (w.alloc o).heap.size = w.heap.size + 1 by simp] at this
/-- Ways that are handed in. -/
structure Bests (H : Array Obj) (a : Option Addr) (l : List BestR) : Prop where
  top : Recs H a 4 BestR.cells l
  wf : ∀ x ∈ l, BestR.wf x
  row : ∀ x ∈ l, Ints H x.A x.h
theorem Bests.fr0 {S : Nat → Prop} {w w' : World} {a : Option Addr} {l : List BestR} (h : Bests w.heap a l) (f : Fr S w w') (hs : ∀ k, k < w.heap.size → ¬ S k) : Bests w'.heap a l :=
  ⟨h.top.fr0 f hs, h.wf, fun x hx => (h.row x hx).fr0 f hs⟩

def _root_.Go.BestR.net (b : BestR) : Nt := ⟨b.a, b.n⟩
def viewErr1 (seen : List Nt) (b : BestR) : Option Int :=
  match netErr b.a b.n with
  | some k => some k
  | none => if b.m < 1 ∨ 16 < b.m then some 1 else if b.net ∈ seen then some 5 else none
def viewErrL (seen : List Nt) : List BestR → Option Int
  | [] => none
  | b :: l => match viewErr1 seen b with
    | some k => some k
    | none => viewErrL (b.net :: seen) l
def viewErr (tq : Int) (l : List BestR) : Option Int := if tq < 0 ∨ 8 ≤ tq then some 1 else viewErrL [] l
def viewStep (tq : Int) (poison : Bool) (b : BestR) : List En := if tq ∈ b.h then (if poison then [⟨b.a, b.n, 0, 0, 16⟩] else []) else [⟨b.a, b.n, 0, 0, b.m⟩]
def viewOut (tq : Int) (poison : Bool) (l : List BestR) : List En := l.flatMap (viewStep tq poison)
theorem viewStep_len (tq : Int) (poison : Bool) (b : BestR) : (viewStep tq poison b).length ≤ 1 := by
  unfold viewStep
  split
  · split <;> simp
  · simp
theorem viewOut_len (tq : Int) (poison : Bool) : ∀ l : List BestR, (viewOut tq poison l).length ≤ l.length
  | [] => Nat.le_refl _
  | b :: l => by
    have h1 := viewOut_len tq poison l
    have h2 := viewStep_len tq poison b
    unfold viewOut at *
    rw [List.flatMap_cons, List.length_append, List.length_cons]
    omega
def RetView (w : World) (tq : Int) (poison : Bool) (l : List BestR) (r : Option Int) (e : Ending) (w' : World) : Prop :=
  match r with
  | some k => RetV w (.tuple #[.slice none 0 0, errv k]) e w'
  | none => ∃ a c ob, e = .returned (.tuple #[.slice a (viewOut tq poison l).length c, .nilIface]) ∧ Ownd w'.heap 80 5 a (viewOut tq poison l).length c ((viewOut tq poison l).flatMap En.cells) ob ∧ Fr (fun _ => False) w w' ∧ (∀ g, ob = some g → w.heap.size ≤ g)
theorem RetView.err {w w' : World} {tq : Int} {poison : Bool} {l : List BestR} {r : Option Int} {k : Int} {e : Ending} (h : r = some k) (he : e = .returned (.tuple #[.slice none 0 0, errv k])) (hF : Fr (fun _ => False) w w') : RetView w tq poison l r e w' := by subst h; exact ⟨he, hF⟩
theorem RetView.ok {w w' : World} {tq : Int} {poison : Bool} {l : List BestR} {r : Option Int} {a : Option Addr} {m c : Nat} {ob : Option Nat} {xs : List Value} {e : Ending} (h : r = none) (he : e = .returned (.tuple #[.slice a m c, .nilIface])) (hm : m = (viewOut tq poison l).length) (hx : xs = (viewOut tq poison l).flatMap En.cells)
    (hO : Ownd w'.heap 80 5 a m c xs ob) (hF : Fr (fun _ => False) w w') (hN : ∀ g, ob = some g → w.heap.size ≤ g) : RetView w tq poison l r e w' := by
  subst h; subst hm; subst hx; exact ⟨a, c, ob, he, hO, hF, hN⟩

abbrev unitL (seen : List Nt) : List (Nt × Value) := seen.map fun q => (q, .agg #[])
theorem mget_unitL (seen : List Nt) (q : Nt) : mget (unitL seen) q = if q ∈ seen then some (.agg #[]) else none := by
  induction seen with
  | nil => rfl
  | cons x l ih =>
    by_cases h : x = q
    · subst h
      simp [mget]
    · have h1 : mget (unitL (x :: l)) q = mget (unitL l) q := by
        unfold mget
        simp only [unitL]
        rw [List.map_cons, List.find?_cons_of_neg (by simpa using h)]
      rw [h1, ih]
      have h2 : (q ∈ x :: l) ↔ q ∈ l := by
        rw [List.mem_cons]
        constructor
        · rintro (h3 | h3)
          · exact absurd h3.symm h
          · exact h3
        · exact fun h3 => .inr h3
      by_cases h3 : q ∈ l
      · rw [if_pos h3, if_pos (h2.2 h3)]
      · rw [if_neg h3, if_neg (fun h4 => h3 (h2.1 h4))]
theorem zeroUnitN {w : World} : (zeroValue 92).run Try.prog w = .ok (.agg #[]) w := by kernel_rfl

set_option maxRecDepth 100000 in
set_option maxHeartbeats 4000000 in
theorem view_any (l : List BestR) (al : Option Addr) (c : Nat) (tq : Int) (poison : Bool) (w : World) (hL : Bests w.heap al l) (hl : l.length * 48 ≤ 140737488351232) :
    Calls Try.prog 24 #[.slice al l.length c, .int .i64 tq, .bool poison] w (RetView w tq poison l (viewErr tq l)) := by
  obtain ⟨E, hE⟩ : ∃ E, E = viewErr tq l := ⟨_, rfl⟩
  rw [← hE]
  have HE := Lib.hid hE
  clear hE
  have hmm := @run_makeMap Try.prog
  by_cases hto : tq < 0 ∨ 8 ≤ tq
  · have hX := Lib.hid (HE.out.trans (if_pos hto))
    go_enter Try.func24, Try.ntmps24
    go_wp2
    all_goals go_ret2
    all_goals exact RetView.err hX.out rfl (Fr.refl _ _)
  · have hX := Lib.hid (HE.out.trans (if_neg hto))
    have t1 : 0 ≤ tq := by omega
    have t2 : tq < 8 := by omega
    have HL := Lib.hid hL
    clear hto
    go_enter Try.func24, Try.ntmps24
    go_wp2
    go_loopw [26, 9] (fun s26 s9 wr => ∃ (k m : Nat) (seen : List Nt) (ao : Option Addr) (co : Nat) (ob : Option Nat) (xs : List Value), k ≤ l.length ∧ s26 = .int .i64 k ∧ s9 = .slice ao m co ∧ m ≤ k ∧ MapL wr Try.prog 34 kln w.heap.size (unitL seen) ∧ seen.length ≤ k ∧ Hid (∀ q ∈ seen, Nt.wf q) ∧ Ownd wr.heap 80 5 ao m co xs ob ∧ (∀ g, ob = some g → w.heap.size < g) ∧ Fr (fun _ => False) w wr ∧ Hid (E = viewErrL seen (l.drop k)) ∧ Hid (m = (viewOut tq poison (l.take k)).length ∧ xs = (viewOut tq poison (l.take k)).flatMap En.cells)) (fun s _ _ => l.length - (intOf s).toNat)
    case atStart => exact ⟨0, 0, [], none, 0, none, [], by omega, rfl, rfl, by omega, MapL.made _ _ _ _, Nat.le_refl _, Lib.hid (fun q hq => nomatch hq), Ownd.nil _ _ _, (fun g h => nomatch h), (Fr.refl _ _).alloc _, hX, Lib.hid ⟨rfl, rfl⟩⟩
    case round =>
      obtain ⟨k, m, seen, ao, co, ob, xs, hk, rfl, rfl, hmk, hM, hsk, hws, hO, hN, hF, hEk, hOut⟩ := hrel
      by_cases hkl : k < l.length
      · have hLr := HL.out.fr0 hF (fun _ _ h => h)
        obtain ⟨b, off, rfl, hbb, hc⟩ := Recs.pos hLr.top BestR.cells_len (by omega) (by omega)
        have dd := fun (j : Nat) (hj : j < 4) => hc wr rfl k j hkl hj
        have d0 := dd 0 (by omega)
        have d1 := dd 1 (by omega)
        have d2 := dd 2 (by omega)
        have d3 := dd 3 (by omega)
        have hxm := nth_mem l k hkl
        have hwf := hLr.wf _ hxm
        have hrow := HL.out.row _ hxm
        have hdr := drop_nth l k hkl
        have htk := take_succ_nth l k hkl
        obtain ⟨x, hx⟩ : ∃ x, x = nth l k := ⟨_, rfl⟩
        rw [← hx] at d0 d1 d2 d3 hwf hrow hdr htk
        have hE1 : E = match viewErr1 seen x with | some k => some k | none => viewErrL (x.net :: seen) (l.drop (k + 1)) := by rw [hEk.out, hdr]; rfl
        have hO1 : viewOut tq poison (l.take (k + 1)) = viewOut tq poison (l.take k) ++ viewStep tq poison x := by rw [htk]; unfold viewOut; rw [List.flatMap_append]; simp
        have HE1 := Lib.hid hE1
        have HO1 := Lib.hid hO1
        have HWF := Lib.hid hwf
        obtain ⟨xa, xn, xm, xh, xA, xC⟩ := x
        simp only [BestR.cells, List.getElem?_cons_zero, List.getElem?_cons_succ, ← Nat.add_assoc, Nat.add_zero] at d0 d1 d2 d3
        have hna : 0 ≤ xa ∧ xa < 4294967296 := ⟨hwf.1.1, hwf.1.2.1⟩
        have hxl : xh.length ≤ 9223372036854775807 := by
          have h1 : xh.length ≤ xC := hwf.2.2.1
          have h2 : xC ≤ 9223372036854775807 := hwf.2.2.2.1
          omega
        have hsz := hF.size
        clear hc dd hxm hwf hdr htk hx hE1 hO1 hLr hEk
        cases hne : netErr xa xn with
        | some e =>
          have hX2 := Lib.hid (HE1.out.trans (show _ = some e by unfold viewErr1; simp only [hne]))
          have HNE := Lib.hid hne
          clear hne hO hM
          go_wp2_with (fail)
          refine (pcheck_any xa xn _ hna).mono ?_
          rintro e1 w1 ⟨rfl, hF1⟩
          rw [HNE.out, show errO (some e) = errv e from rfl]
          have hF01 := (hF.alloc _).trans hF1
          go_wp2
          go_ret2
          exact RetView.err hX2.out rfl hF01
        | none =>
          have HNE := Lib.hid hne
          have hE2 : E = if xm < 1 ∨ 16 < xm then some 1 else match (if (⟨xa, xn⟩ : Nt) ∈ seen then some 5 else none : Option Int) with | some k => some k | none => viewErrL (⟨xa, xn⟩ :: seen) (l.drop (k + 1)) := by
            rw [HE1.out]
            unfold viewErr1
            simp only [hne]
            by_cases hm : xm < 1 ∨ 16 < xm
            · rw [if_pos hm, if_pos hm]
            · rw [if_neg hm, if_neg hm]
              rfl
          clear hne HE1
          by_cases hm : xm < 1 ∨ 16 < xm
          · have hX2 := Lib.hid (hE2.trans (if_pos hm))
            clear hE2 hO hM
            go_wp2_with (fail)
            refine (pcheck_any xa xn _ hna).mono ?_
            rintro e1 w1 ⟨rfl, hF1⟩
            rw [HNE.out, show errO none = .nilIface from rfl]
            have hF01 := (hF.alloc (.cells #[.int .u32 xa, .int .i64 xn, .int .i64 xm, .slice xA xh.length xC] 49)).trans hF1
            have hB := (Blk.made wr 49 [.int .u32 xa, .int .i64 xn, .int .i64 xm, .slice xA xh.length xC]).fr hF1 (fun h => h)
            have c2 := hB.cell 2
            simp only [List.getElem?_cons_succ, List.getElem?_cons_zero] at c2
            go_wp2
            all_goals go_ret2
            all_goals exact RetView.err hX2.out rfl hF01
          · have hE3 := hE2.trans (if_neg hm)
            have m1 : 1 ≤ xm := by omega
            have m2 : xm ≤ 16 := by omega
            have HSW : Hid (∀ p ∈ unitL seen, kln p.1 = kln ⟨xa, xn⟩ → p.1 = ⟨xa, xn⟩) := Lib.hid (fun p hp h => by
              obtain ⟨q, hq, rfl⟩ := List.mem_map.1 hp
              exact kln_inj (hws.out q hq) HWF.out.1 h)
            have hkey := nkey ⟨xa, xn⟩ HWF.out.1
            have HK := Lib.hid hkey
            have hul : (unitL seen).length ≤ k := by simpa using hsk
            clear hm hE2 hkey
            go_wp2_with (fail)
            refine (pcheck_any xa xn _ hna).mono ?_
            rintro e1 w1 ⟨rfl, hF1⟩
            rw [HNE.out, show errO none = .nilIface from rfl]
            have hFr1 := ((Fr.refl (fun _ => False) wr).alloc (.cells #[.int .u32 xa, .int .i64 xn, .int .i64 xm, .slice xA xh.length xC] 49)).trans hF1
            have hF01 := hF.trans hFr1
            have hB := (Blk.made wr 49 [.int .u32 xa, .int .i64 xn, .int .i64 xm, .slice xA xh.length xC]).fr hF1 (fun h => h)
            have hM1 := hM.fr hFr1 (fun h => h)
            have hO1 := hO.fr hFr1 (fun _ _ h => h)
            have c0 := hB.cell 0
            have c1 := hB.cell 1
            have c2 := hB.cell 2
            have c3 := hB.cell 3
            have hbl := hB.lt
            simp only [List.getElem?_cons_succ, List.getElem?_cons_zero] at c0 c1 c2 c3
            have hmg := mget_unitL seen ⟨xa, xn⟩
            have HROW := Lib.hid hrow
            have hmlt := hM.lt
            clear hM hO hrow hF1
            by_cases hin : (⟨xa, xn⟩ : Nt) ∈ seen
            · have hX2 := Lib.hid (hE3.trans (by rw [if_pos hin]))
              rw [if_pos hin] at hmg
              have HMG := Lib.hid hmg
              clear hE3 hin hmg hO1
              go_wp2_with (at_lookup; refine wpList_lookL_ok rfl _ _ 117 rfl 34 92 keyedN Try.underlying117 zeroUnitN w.heap.size (unitL seen) kln rfl hM1 _ ⟨xa, xn⟩ rfl HK.out HSW.out ?_; rw [HMG.out])
              go_ret2
              exact RetView.err hX2.out rfl (hF01.alloc _)
            · have hX2 := Lib.hid (hE3.trans (by rw [if_neg hin]))
              have HIN := Lib.hid hin
              rw [if_neg hin] at hmg
              have HMG := Lib.hid hmg
              clear hE3 hin hmg
              have hM2 := hM1.fr ((Fr.refl (fun _ => False) w1).alloc (.cells #[] 92)) (fun h => h)
              go_wp2_with (first | (at_lookup; refine wpList_lookL_ok rfl _ _ 117 rfl 34 92 keyedN Try.underlying117 zeroUnitN w.heap.size (unitL seen) kln rfl hM1 _ ⟨xa, xn⟩ rfl HK.out HSW.out ?_; rw [HMG.out]) | (at_mapUpdate; refine wpList_mput rfl _ _ _ 117 rfl 34 92 keyedN Try.underlying117 w.heap.size (unitL seen) kln rfl hM2 (Nat.lt_of_le_of_lt hul (by show k < 9223372036854775807; omega)) _ _ ⟨xa, xn⟩ rfl rfl HK.out HSW.out ?_))
              intro w3 hM3 hF3 hs3
              clear hs3
              have hF13 := ((Fr.refl (fun k => k = w.heap.size) w1).alloc (.cells #[] 92)).trans hF3
              have hlw := hF.size
              have hF03 : Fr (fun _ => False) w w3 := hF01.trans' hF13 (fun i hi h => by omega)
              have hB3 := hB.fr hF13 (fun h => by have h2 : wr.heap.size = w.heap.size := h; omega)
              have hM4 : MapL w3 Try.prog 34 kln w.heap.size (unitL (⟨xa, xn⟩ :: seen)) := by rw [mput_new HMG.out] at hM3; exact hM3
              have hO3 := hO1.fr hF13 (fun g hg h => by have := hN g hg; omega)
              have c0 := hB3.cell 0
              have c1 := hB3.cell 1
              have c2 := hB3.cell 2
              have c3 := hB3.cell 3
              have hbl3 := hB3.lt
              simp only [List.getElem?_cons_succ, List.getElem?_cons_zero] at c0 c1 c2 c3
              have hws' : Hid (∀ q ∈ (⟨xa, xn⟩ :: seen : List Nt), Nt.wf q) := Lib.hid (fun q hq => by
                rcases List.mem_cons.1 hq with rfl | hq
                · exact HWF.out.1
                · exact hws.out q hq)
              have hF04 := hF03.alloc (.cells #[.int .u32 xa, .int .i64 xn, .int .i64 0, .int .u32 0, .int .i64 xm] 80)
              have hM5 := hM4.fr ((Fr.refl (fun _ => False) w3).alloc (.cells #[.int .u32 xa, .int .i64 xn, .int .i64 0, .int .u32 0, .int .i64 xm] 80)) (fun h => h)
              have hO4 := hO3.alloc (.cells #[.int .u32 xa, .int .i64 xn, .int .i64 0, .int .u32 0, .int .i64 xm] 80)
              have hBe := Blk.made w3 80 [.int .u32 xa, .int .i64 xn, .int .i64 0, .int .u32 0, .int .i64 xm]
              have hcap := hO3.cap
              clear hM3 hO1 hM1 hM2 hF3 hB hB3
              go_wp2_with (fail)
              refine (contains_int xh xA xC tq _ (HROW.out.fr0 hF04 (fun _ _ h => h)) rfl hxl).mono ?_
              rintro e4 w4 ⟨rfl, rfl⟩
              by_cases hto : tq ∈ xh
              · rw [decide_eq_true hto]
                cases poison with
                | false =>
                  have hst : Hid (viewOut tq false (l.take (k + 1)) = viewOut tq false (l.take k)) := Lib.hid (by rw [HO1.out]; unfold viewStep; rw [if_pos hto]; simp)
                  clear hto
                  go_wp2
                  go_roundw
                  case rel => exact ⟨k + 1, m, _, ao, co, ob, xs, by omega, by go_num, rfl, by omega, hM5, by simp; omega, hws', hO4, hN, hF04, hX2, Lib.hid (by rw [hst.out]; exact hOut.out)⟩
                  case measure => simp [intOf]; omega
                | true =>
                  have hst : Hid (viewOut tq true (l.take (k + 1)) = viewOut tq true (l.take k) ++ [⟨xa, xn, 0, 0, 16⟩]) := Lib.hid (by rw [HO1.out]; unfold viewStep; rw [if_pos hto]; rfl)
                  clear hto
                  have hcs : (viewOut tq true (l.take (k + 1))).flatMap En.cells = (viewOut tq true (l.take k)).flatMap En.cells ++ [.int .u32 xa, .int .i64 xn, .int .i64 0, .int .u32 0, .int .i64 16] := by rw [hst.out, List.flatMap_append]; simp
                  have HCS := Lib.hid hcs
                  clear hcs
                  have hrd := rd_box w3 (.cells #[.int .u32 xa, .int .i64 xn, .int .i64 0, .int .u32 0, .int .i64 16] 80) 80 [.int .u32 xa, .int .i64 xn, .int .i64 0, .int .u32 0, .int .i64 16]
                  have hO5 := (hO3.alloc (.cells #[.int .u32 xa, .int .i64 xn, .int .i64 0, .int .u32 0, .int .i64 16] 80)).alloc (.cells #[.int .u32 xa, .int .i64 xn, .int .i64 0, .int .u32 0, .int .i64 16] 80)
                  have hF5 := (hF03.alloc (.cells #[.int .u32 xa, .int .i64 xn, .int .i64 0, .int .u32 0, .int .i64 16] 80)).alloc (.cells #[.int .u32 xa, .int .i64 xn, .int .i64 0, .int .u32 0, .int .i64 16] 80)
                  have hM6 := hM4.fr (((Fr.refl (fun _ => False) w3).alloc (.cells #[.int .u32 xa, .int .i64 xn, .int .i64 0, .int .u32 0, .int .i64 16] 80)).alloc (.cells #[.int .u32 xa, .int .i64 xn, .int .i64 0, .int .u32 0, .int .i64 16] 80)) (fun h => h)
                  clear hM5 hO4 hF04
                  go_wp2_with (at_builtin; refine wpList_app rfl _ _ 70 rfl Try.underlying70 infoEn rfl (by decide) rfl rfl hO5 hrd (by simp [Value.oneCell']) (by omega) (by omega) ?_)
                  intro a' c' w6 ob' z1 z2 z3
                  have hF6 := Fr.app hF5 z2 (fun g h => Nat.le_of_lt (hN g h))
                  have hN6 : ∀ g, ob' = some g → w.heap.size < g := fun g hg => by
                    rcases z3 with z3 | ⟨g', z3, z4⟩
                    · exact hN g (by rw [← z3, hg])
                    · rw [z3] at hg; cases hg; have := hF03.size; omega
                  have hM7 := hM6.fr z2 (fun h => by have := hN _ h; omega)
                  have hOut' : Hid (m + 1 = (viewOut tq true (l.take (k + 1))).length ∧ xs ++ [.int .u32 xa, .int .i64 xn, .int .i64 0, .int .u32 0, .int .i64 16] = (viewOut tq true (l.take (k + 1))).flatMap En.cells) := Lib.hid (by
                    rw [HCS.out, hst.out, ← hOut.out.2]
                    exact ⟨by rw [List.length_append, ← hOut.out.1]; rfl, rfl⟩)
                  have HO7 := Lib.hid z1
                  clear z1 z2 z3 hrd hO5 hO3
                  go_wp2
                  go_roundw
                  case rel => exact ⟨k + 1, m + 1, _, a', c', ob', _, by omega, by go_num, rfl, by omega, hM7, by simp; omega, hws', HO7.out, hN6, hF6, hX2, hOut'⟩
                  case measure => simp [intOf]; omega
              · rw [decide_eq_false hto]
                have hst : Hid (viewOut tq poison (l.take (k + 1)) = viewOut tq poison (l.take k) ++ [⟨xa, xn, 0, 0, xm⟩]) := Lib.hid (by rw [HO1.out]; unfold viewStep; rw [if_neg hto])
                clear hto
                have hcs : (viewOut tq poison (l.take (k + 1))).flatMap En.cells = (viewOut tq poison (l.take k)).flatMap En.cells ++ [.int .u32 xa, .int .i64 xn, .int .i64 0, .int .u32 0, .int .i64 xm] := by rw [hst.out, List.flatMap_append]; simp
                have HCS := Lib.hid hcs
                clear hcs
                have hrd := rd_box w3 (.cells #[.int .u32 xa, .int .i64 xn, .int .i64 0, .int .u32 0, .int .i64 xm] 80) 80 [.int .u32 xa, .int .i64 xn, .int .i64 0, .int .u32 0, .int .i64 xm]
                have hO5 := (hO3.alloc (.cells #[.int .u32 xa, .int .i64 xn, .int .i64 0, .int .u32 0, .int .i64 xm] 80)).alloc (.cells #[.int .u32 xa, .int .i64 xn, .int .i64 0, .int .u32 0, .int .i64 xm] 80)
                have hF5 := (hF03.alloc (.cells #[.int .u32 xa, .int .i64 xn, .int .i64 0, .int .u32 0, .int .i64 xm] 80)).alloc (.cells #[.int .u32 xa, .int .i64 xn, .int .i64 0, .int .u32 0, .int .i64 xm] 80)
                have hM6 := hM4.fr (((Fr.refl (fun _ => False) w3).alloc (.cells #[.int .u32 xa, .int .i64 xn, .int .i64 0, .int .u32 0, .int .i64 xm] 80)).alloc (.cells #[.int .u32 xa, .int .i64 xn, .int .i64 0, .int .u32 0, .int .i64 xm] 80)) (fun h => h)
                clear hM5 hO4 hF04
                go_wp2_with (at_builtin; refine wpList_app rfl _ _ 70 rfl Try.underlying70 infoEn rfl (by decide) rfl rfl hO5 hrd (by simp [Value.oneCell']) (by omega) (by omega) ?_)
                intro a' c' w6 ob' z1 z2 z3
                have hF6 := Fr.app hF5 z2 (fun g h => Nat.le_of_lt (hN g h))
                have hN6 : ∀ g, ob' = some g → w.heap.size < g := fun g hg => by
                  rcases z3 with z3 | ⟨g', z3, z4⟩
                  · exact hN g (by rw [← z3, hg])
                  · rw [z3] at hg; cases hg; have := hF03.size; omega
                have hM7 := hM6.fr z2 (fun h => by have := hN _ h; omega)
                have hOut' : Hid (m + 1 = (viewOut tq poison (l.take (k + 1))).length ∧ xs ++ [.int .u32 xa, .int .i64 xn, .int .i64 0, .int .u32 0, .int .i64 xm] = (viewOut tq poison (l.take (k + 1))).flatMap En.cells) := Lib.hid (by
                  rw [HCS.out, hst.out, ← hOut.out.2]
                  exact ⟨by rw [List.length_append, ← hOut.out.1]; rfl, rfl⟩)
                have HO7 := Lib.hid z1
                clear z1 z2 z3 hrd hO5 hO3
                go_wp2
                go_roundw
                case rel => exact ⟨k + 1, m + 1, _, a', c', ob', _, by omega, by go_num, rfl, by omega, hM7, by simp; omega, hws', HO7.out, hN6, hF6, hX2, hOut'⟩
                case measure => simp [intOf]; omega
      · obtain rfl : k = l.length := by omega
        have hX2 : Hid (E = none) := Lib.hid (by rw [hEk.out, List.drop_length]; rfl)
        have hOut2 : Hid (m = (viewOut tq poison l).length ∧ xs = (viewOut tq poison l).flatMap En.cells) := Lib.hid (by have := hOut.out; rwa [List.take_length] at this)
        go_wp2
        go_ret2
        exact RetView.ok hX2.out rfl hOut2.out.1 hOut2.out.2 hO hF (fun g h => Nat.le_of_lt (hN g h))
end Go.Proofs.Ytgfbkebbnfcgkaa
end

section
namespace Go.Proofs.Ytgfbkebbnfcgkaa
open Go.RowKit Go.Maps

theorem i64_wf' {x : Int} (h0 : -9223372036854775808 ≤ x) (h1 : x ≤ 9223372036854775807) : (Lit.int .i64 x).wf = true := by
  have e1 : IntKind.i64.min = -9223372036854775808 := rfl
  have e2 : IntKind.i64.max = 9223372036854775807 := rfl
  simp only [Lit.wf, Bool.and_eq_true, decide_eq_true_eq]
  omega
theorem viewErrL_none : ∀ (l : List BestR) (seen : List Nt), (∀ b ∈ l, netErr b.a b.n = none ∧ 1 ≤ b.m ∧ b.m ≤ 16 ∧ bnet b ∉ seen) → (l.map bnet).Nodup → viewErrL seen l = none := by
  intro l
  induction l with
  | nil => intro seen _ _; rfl
  | cons b l ih =>
    intro seen h hn
    obtain ⟨h1, h2, h3, h4⟩ := h b (by simp)
    obtain ⟨n1, n2⟩ := List.nodup_cons.1 hn
    have e : viewErr1 seen b = none := by
      unfold viewErr1
      rw [h1]
      simp only
      rw [if_neg (by omega), if_neg (show b.net ∉ seen from h4)]
    unfold viewErrL
    rw [e]
    refine ih _ (fun c hc => ?_) n2
    obtain ⟨k1, k2, k3, k4⟩ := h c (by simp [hc])
    refine ⟨k1, k2, k3, fun hh => ?_⟩
    rcases List.mem_cons.1 hh with hh | hh
    · exact n1 (List.mem_map.2 ⟨c, hc, hh⟩)
    · exact k4 hh
/-- Each way that a router has. -/
theorem AllR.each {w : World} {base : Nat} {D : DC} {now : Int} {l : List Td} {bad : Int} {R : List BestR} (hD : Dmn w base D now l bad) (h : AllR D l R) : ∀ r ∈ R, netErr r.a r.n = none ∧ (0 ≤ r.a ∧ r.a < 4294967296) ∧ 1 ≤ r.m ∧ r.m ≤ 16 ∧ r.h.length ≤ 4 ∧ ∀ z ∈ r.h, 0 ≤ z ∧ z < D.costs.length := fun r hr => by
  have h1 := h.val r hr
  obtain ⟨b1, b2, b3, b4⟩ := bestD_bd hD (bnet r)
  have hm : r.m = _ := congrArg Prod.fst h1
  have hh : r.h = _ := congrArg Prod.snd h1
  rw [← hm] at b1 b2
  rw [← hh] at b3 b4
  rcases (h.mem (bnet r)).1 (List.mem_map.2 ⟨r, hr, rfl⟩) with ho | ⟨x, hx, he⟩
  · obtain ⟨k1, k2⟩ := hD.net _ ho
    exact ⟨k1, k2, b1, b2, b3, b4⟩
  · have k1 := (hD.by' x hx).2
    have k2 := hD.ok.each x hx
    have e1 : x.a = r.a := congrArg Nt.a he
    have e2 : x.n = r.n := congrArg Nt.n he
    rw [e1, e2] at k1
    have k3 := k2.a0
    have k4 := k2.a1
    rw [e1] at k3 k4
    exact ⟨k1, ⟨k3, k4⟩, b1, b2, b3, b4⟩
theorem Alls.view {base : Nat} {w0 w : World} {bb : Nat} {D : DC} {now : Int} {l : List Td} {bad : Int} {R : List BestR} {aR : Option Addr} {cR : Nat} {ob : Option Nat} (h : Alls base w.heap R aR cR ob) (hD : Dmn w0 bb D now l bad) (hR : AllR D l R) : Bests w.heap aR R := by
  have he := hR.each hD
  have hc8 := hD.c8
  refine ⟨h.own.rd, fun x hx => ?_, fun x hx => by obtain ⟨o, h1, -⟩ := h.row x hx; exact h1.rd⟩
  obtain ⟨k1, k2, k3, k4, k5, k6⟩ := he x hx
  obtain ⟨o, h1, -⟩ := h.row x hx
  obtain ⟨n1, n2⟩ := netErr_rng k1
  have hcap := h1.cap
  have hmx : maxLen = 9223372036854775807 := rfl
  refine ⟨⟨k2.1, k2.2, i64_wf' (by simp only; omega) (by simp only; omega)⟩, i64_wf' (by omega) (by omega), hcap, ?_, fun z hz => by have := k6 z hz; exact i64_wf' (by omega) (by omega), fun hA => ?_⟩
  · rcases h1.is with ⟨_, _, q, _⟩ | ⟨_, _, _, _, _, _, q, _⟩
    · omega
    · exact q
  · rcases h1.is with ⟨_, q, _⟩ | ⟨_, _, q, _⟩
    · exact List.eq_nil_of_length_eq_zero q
    · rw [q] at hA; cases hA
/-- What is told of one way. -/
def tell1 (tq : Int) (b : BestR) : En := ⟨b.a, b.n, 0, 0, if tq ∈ b.h then 16 else b.m⟩
theorem viewOut_tell (tq : Int) (R : List BestR) : viewOut tq true R = R.map (tell1 tq) := by
  induction R with
  | nil => rfl
  | cons b R ih =>
    unfold viewOut at *
    rw [List.flatMap_cons, ih, List.map_cons]
    unfold viewStep tell1
    split
    · rfl
    · rfl
/-- What is told: so many ways as a message holds. -/
def tellL (tq : Int) (R : List BestR) : List En := (R.map (tell1 tq)).take 25
theorem tellL_mem {tq : Int} {R : List BestR} {e : En} (h : e ∈ tellL tq R) : ∃ b ∈ R, e = tell1 tq b := by
  obtain ⟨b, hb, rfl⟩ := List.mem_map.1 (List.mem_of_mem_take h)
  exact ⟨b, hb, rfl⟩
theorem entsErr_none : ∀ l : List En, (∀ e ∈ l, entErr e = none) → entsErr l = none := by
  intro l
  induction l with
  | nil => intro _; rfl
  | cons e l ih => intro h; unfold entsErr; rw [h e (by simp)]; exact ih (fun x hx => h x (by simp [hx]))
theorem tellL_ok {w : World} {base : Nat} {D : DC} {now : Int} {l : List Td} {bad tq : Int} {R : List BestR} (hD : Dmn w base D now l bad) (h : AllR D l R) : msgErr (tellL tq R) = none ∧ ∀ e ∈ tellL tq R, En.wf e := by
  have key : ∀ e ∈ tellL tq R, entErr e = none ∧ En.wf e := fun e he => by
    obtain ⟨b, hb, rfl⟩ := tellL_mem he
    obtain ⟨k1, k2, k3, k4, -, -⟩ := h.each hD b hb
    refine ⟨?_, ⟨k2, by show (0 : Int) ≤ 0 ∧ (0 : Int) < 4294967296; decide⟩⟩
    unfold entErr tell1
    simp only
    rw [k1]
    simp only
    rw [if_neg (by split <;> omega)]
  refine ⟨?_, fun e he => (key e he).2⟩
  unfold msgErr
  rw [if_neg (by unfold tellL; rw [List.length_take]; omega)]
  exact entsErr_none _ (fun e he => (key e he).1)
def RetTell (w : World) (D : DC) (l : List Td) (tq : Int) (e : Ending) (w' : World) : Prop :=
  ∃ (R : List BestR) (a : Option Addr) (c : Nat) (ob : Option Nat), AllR D l R ∧ e = .returned (.tuple #[.slice a (encD false (tellL tq R)).length c, .nilIface]) ∧ Ownd w'.heap 5 1 a (encD false (tellL tq R)).length c (ivals .u8 (encD false (tellL tq R))) ob ∧ Fr (fun _ => False) w w' ∧ ∀ g, ob = some g → w.heap.size ≤ g

set_option maxRecDepth 100000 in
set_option maxHeartbeats 4000000 in
theorem dtell_any {base : Nat} {D : DC} {now : Int} {l : List Td} {bad : Int} (tq : Int) (w : World) (hD : Dmn w base D now l bad) (ht : ¬ (tq < 0 ∨ (D.costs.length : Int) ≤ tq)) :
    Calls Try.prog 9 #[.pointer (some ⟨D.bd, 0, none⟩), .int .i64 tq] w (RetTell w D l tq) := by
  have hc8 := hD.c8
  have HD := Lib.hid hD
  have hnear := dnear_yes tq w hD ht
  have hall := dall_any w hD
  clear hD
  go_enter Try.func9, Try.ntmps9
  go_wp2_with (fail)
  refine hnear.mono ?_
  rintro e1 w1 ⟨rfl, rfl⟩
  go_wp2_with (fail)
  refine hall.mono ?_
  rintro e2 w2 ⟨R, aR, cR, ob, rfl, hA, hR, hF2⟩
  have hRl := hR.len
  have hv := view_any R aR cR tq true w2 (hA.view HD.out hR) (by omega)
  have hve : viewErr tq R = none := by
    unfold viewErr
    rw [if_neg (by omega)]
    exact viewErrL_none R [] (fun b hb => by obtain ⟨k1, -, k3, k4, -⟩ := hR.each HD.out b hb; exact ⟨k1, k3, k4, by simp⟩) (nsn hR.srt)
  rw [hve] at hv
  obtain ⟨k1, k2⟩ := tellL_ok (tq := tq) HD.out hR
  have HK1 := Lib.hid k1
  have HK2 := Lib.hid k2
  have HR := Lib.hid hR
  clear hnear hall hA hR hve k1 k2
  go_wp2_with (fail)
  refine hv.mono ?_
  rintro e3 w3 ⟨a3, c3, ob3, rfl, hO3, hF3, hN3⟩
  rw [viewOut_tell] at hO3 ⊢
  have hcap := hO3.cap
  have hl3 : (R.map (tell1 tq)).length = R.length := by simp
  have hF03 := hF2.trans hF3
  have hrd := Rd.takeK hO3.rd (min (R.map (tell1 tq)).length 25) (by omega)
  have hflat : ((R.map (tell1 tq)).flatMap En.cells).take (min (R.map (tell1 tq)).length 25 * 5) = (tellL tq R).flatMap En.cells := by
    have key : ∀ (l : List En) (k : Nat), (l.flatMap En.cells).take (k * 5) = (l.take k).flatMap En.cells := by
      intro l
      induction l with
      | nil => intro k; simp
      | cons e l ih =>
        intro k
        cases k with
        | zero => simp
        | succ k =>
          have h5 : (En.cells e).length = 5 := rfl
          rw [List.flatMap_cons, List.take_succ_cons, List.flatMap_cons, ← ih k, show (k + 1) * 5 = k * 5 + 5 by omega, List.take_append, List.take_of_length_le (by rw [h5]; omega), h5, show k * 5 + 5 - 5 = k * 5 by omega]
    rw [key, Nat.min_comm, ← List.take_take, List.take_length]
    rfl
  rw [hflat] at hrd
  have hlt : (tellL tq R).length = min (R.map (tell1 tq)).length 25 := by unfold tellL; rw [List.length_take]; omega
  have hrec : Recs w3.heap a3 5 En.cells (tellL tq R) := by
    show Rd _ _ _ _ _
    rw [hlt]; exact hrd
  have hcallE := encode_any (M := min R.length 25) false (tellL tq R) a3 c3 w3 hrec HK2.out (by rw [hlt]; omega) (by rw [hlt, hl3])
  have HF := Lib.hid hF03
  rw [hl3] at hcap ⊢
  obtain ⟨n, hn⟩ : ∃ n, n = R.length := ⟨_, rfl⟩
  rw [← hn] at hRl hcap hcallE ⊢
  have HL := Lib.hid (show tellL tq R = tellL tq R from rfl)
  clear hrec hlt hrd hflat hO3 hF3 hF2 hF03 hv hl3 hN3 hn
  have hmin : (min (n : Int) 25) = ((min n 25 : Nat) : Int) := by omega
  go_wp2_with (fail)
  refine hcallE.mono ?_
  intro e4 w4 R4
  obtain ⟨a4, c4, ob4, rfl, hO4, hF4, hN4⟩ := R4.okE HK1.out
  have hs := HF.out.size
  have hFe := HF.out.trans hF4
  obtain ⟨bs, hbs⟩ : ∃ bs, bs = encD false (tellL tq R) := ⟨_, rfl⟩
  rw [← hbs] at hO4 ⊢
  have HBS := Lib.hid hbs
  clear R4 hcallE hF4 hbs
  go_wp2
  go_ret2
  refine ⟨R, a4, c4, ob4, HR.out, ?_, ?_, hFe, fun g hg => by have := hN4 g hg; omega⟩
  · rw [← HBS.out]; rfl
  · rw [← HBS.out]; exact hO4
end Go.Proofs.Ytgfbkebbnfcgkaa
end

section
namespace Go.Proofs.Ytgfbkebbnfcgkaa
open Go.RowKit

theorem lastE_some {es : List En} {a n m : Int} (h1 : ∀ e ∈ es, e.a = a ∧ e.n = n → e.m = m) (h2 : ∃ e ∈ es, e.a = a ∧ e.n = n) : lastE es a n = some m := by
  revert h1 h2
  refine snocI (P := fun es => (∀ e ∈ es, e.a = a ∧ e.n = n → e.m = m) → (∃ e ∈ es, e.a = a ∧ e.n = n) → lastE es a n = some m) (fun _ h => by obtain ⟨_, h, _⟩ := h; cases h) (fun l x ih h1 h2 => ?_) es
  rw [lastE_snoc]
  by_cases hx : x.a = a ∧ x.n = n
  · rw [if_pos hx, h1 x (by simp) hx]
  · rw [if_neg hx]
    refine ih (fun y hy => h1 y (by simp [hy])) ?_
    obtain ⟨y, hy, hk⟩ := h2
    rcases List.mem_append.1 hy with hy | hy
    · exact ⟨y, hy, hk⟩
    · rw [List.mem_singleton.1 hy] at hk; exact absurd hk hx
theorem lastE_none {es : List En} {a n : Int} (h : ∀ e ∈ es, ¬ (e.a = a ∧ e.n = n)) : lastE es a n = none := by
  revert h
  refine snocI (P := fun es => (∀ e ∈ es, ¬ (e.a = a ∧ e.n = n)) → lastE es a n = none) (fun _ => rfl) (fun l x ih h => ?_) es
  rw [lastE_snoc, if_neg (h x (by simp))]
  exact ih (fun y hy => h y (by simp [hy]))
/-- What is known was told. -/
theorem hearL_mem {D : DC} {f t : Int} {x : Td} : ∀ (es : List En) (l : List Td), x ∈ hearL D f t l es → (∃ y ∈ l, y.a = x.a ∧ y.n = x.n) ∨ ∃ e ∈ es, e.a = x.a ∧ e.n = x.n := by
  intro es l
  refine snocI (P := fun es => ∀ x, x ∈ hearL D f t l es → (∃ y ∈ l, y.a = x.a ∧ y.n = x.n) ∨ ∃ e ∈ es, e.a = x.a ∧ e.n = x.n) (fun x h => .inl ⟨x, h, rfl, rfl⟩) (fun es e ih x h => ?_) es x
  have hst : hearL D f t l (es ++ [e]) = hear1 D f t (hearL D f t l es) e := by unfold hearL; rw [List.foldl_append]; rfl
  rw [hst] at h
  have lift : x ∈ hearL D f t l es → (∃ y ∈ l, y.a = x.a ∧ y.n = x.n) ∨ ∃ e' ∈ es ++ [e], e'.a = x.a ∧ e'.n = x.n := fun h => by
    rcases ih x h with h1 | ⟨e', h1, h2⟩
    · exact .inl h1
    · exact .inr ⟨e', by simp [h1], h2⟩
  unfold hear1 at h
  split at h
  · exact lift h
  · split at h
    · rename_i l' hl'
      unfold learnE at hl'
      split at hl'
      · cases hl'
      · split at hl'
        · cases hl'
        · split at hl'
          · cases hl'
          · rcases rPut_mem hl' h with ⟨-, h2, h3⟩ | h4
            · exact .inr ⟨e, by simp, h2.symm, h3.symm⟩
            · obtain ⟨y, hy, k1, k2, k3⟩ := age1_mem h4
              rcases ih y hy with ⟨z, z1, z2, z3⟩ | ⟨e', z1, z2, z3⟩
              · exact .inl ⟨z, z1, by rw [z2, k2], by rw [z3, k3]⟩
              · exact .inr ⟨e', by simp [z1], by rw [z2, k2], by rw [z3, k3]⟩
    · exact lift h
/-- Hearing a router's word. -/
theorem hears_M {w : World} {base : Nat} {D E : DC} {l : List Td} {bad : Int} {R : List BestR} (hD : Dmn w base D 0 l bad) (hR : AllR D l R) (hc : E.costs.length = 1) (l' : List Td) (bad' : Int) : hearM E 0 l' bad' (encD false (tellL 0 R)) 0 0 = ⟨none, 0, hearL E 0 0 (rAged 0 l') (tellL 0 R), bad'⟩ := by
  obtain ⟨k1, k2⟩ := tellL_ok (tq := 0) hD hR
  exact hearM_ok (by unfold timeErr; omega) (decD_encD false _ k2 k1)
theorem tell_own {w : World} {base : Nat} {D : DC} {R : List BestR} (hD : Dmn w base D 0 [] 0) (hR : AllR D [] R) (a n : Int) : lastE (tellL 0 R) a n = if (⟨a, n⟩ : Nt) ∈ D.own then some 1 else none := by
  have hmem : ∀ q, q ∈ R.map bnet ↔ q ∈ D.own := fun q => by
    rw [hR.mem]
    exact ⟨fun h => h.elim id (fun ⟨x, hx, _⟩ => nomatch hx), fun h => .inl h⟩
  have hlen : R.length ≤ 25 := by
    have := lensub (nsn hR.srt) (fun q hq => (hmem q).1 hq)
    have := hD.o25
    simp at *
    omega
  have he : tellL 0 R = R.map (tell1 0) := by unfold tellL; rw [List.take_of_length_le (by simpa using hlen)]
  rw [he]
  by_cases hq : (⟨a, n⟩ : Nt) ∈ D.own
  · rw [if_pos hq]
    obtain ⟨r, hr, hb⟩ := List.mem_map.1 ((hmem _).2 hq)
    refine lastE_some (fun e hE hk => ?_) ⟨tell1 0 r, List.mem_map.2 ⟨r, hr, rfl⟩, congrArg Nt.a hb, congrArg Nt.n hb⟩
    obtain ⟨r', hr', rfl⟩ := List.mem_map.1 hE
    have hv := hR.val r' hr'
    rw [bestD_own ((hmem _).1 (List.mem_map.2 ⟨r', hr', rfl⟩))] at hv
    have e1 : r'.m = 1 := congrArg Prod.fst hv
    have e2 : r'.h = [] := congrArg Prod.snd hv
    unfold tell1
    rw [e2, e1]
    rfl
  · rw [if_neg hq]
    refine lastE_none (fun e hE hk => ?_)
    obtain ⟨r', hr', rfl⟩ := List.mem_map.1 hE
    have : bnet r' = ⟨a, n⟩ := by unfold bnet; rw [← hk.1, ← hk.2]; rfl
    exact hq (this ▸ (hmem _).1 (List.mem_map.2 ⟨r', hr', rfl⟩))
theorem tellL_25 (tq : Int) (R : List BestR) : (tellL tq R).length ≤ 25 := by unfold tellL; rw [List.length_take]; omega
theorem tellL_ok' {w : World} {base : Nat} {D : DC} {now : Int} {l : List Td} {bad tq : Int} {R : List BestR} (hD : Dmn w base D now l bad) (h : AllR D l R) : ∀ e ∈ tellL tq R, entErr e = none ∧ En.wf e := fun e he => by
  obtain ⟨k1, k2⟩ := tellL_ok (tq := tq) hD h
  exact ⟨(msgErr_ok k1).2 e he, k2 e he⟩
/-- By one neighbour. -/
theorem best_one {l : List Td} (h : RibOk 0 l) {c : Int} (hc : 1 ≤ c ∧ c ≤ 16) (a n : Int) : (bestM (hdL l) [c] a n).1 = plusM c (lastOf (hdL l) 0 a n) := by
  have hl : ∀ x ∈ hdL l, 1 ≤ x.m ∧ x.m ≤ 16 := fun x hx => by
    obtain ⟨y, hy, rfl⟩ := List.mem_map.1 hx
    have := h.each y hy
    exact ⟨this.m0, this.m1⟩
  rw [bestM_eq a n hl (fun x hx => by rw [List.mem_singleton.1 hx]; exact hc)]
  show (if pOf (hdL l) [c] a n 0 < 16 then pOf (hdL l) [c] a n 0 else 16) = _
  have e : pOf (hdL l) [c] a n 0 = plusM c (lastOf (hdL l) 0 a n) := rfl
  rw [e]
  have : plusM c (lastOf (hdL l) 0 a n) ≤ 16 := by unfold plusM; split <;> omega
  split <;> omega
/-- What one tells the other one hears. -/
theorem hears_law {w : World} {base : Nat} {D E : DC} {R S : List BestR} {c : Int} (hD : Dmn w base D 0 [] 0) (hR : AllR D [] R) {w' : World} {base' : Nat} {bad : Int} (hE : Dmn w' base' E 0 (hearL E 0 0 [] (tellL 0 R)) bad) (hec : E.costs = [c]) (hS : TabR E (hearL E 0 0 [] (tellL 0 R)) S) :
    (∀ s ∈ S, (bnet s ∈ E.own → s.m = 1) ∧ (bnet s ∉ E.own → bnet s ∈ D.own ∧ s.m = 1 + c)) ∧ S.length = E.own.length + if 1 + c < 16 then (D.own.filter fun q => decide (q ∉ E.own)).length else 0 := by
  have hc : 1 ≤ c ∧ c ≤ 16 := (nearE_ok hE.near).2 c (by rw [hec]; simp)
  have h25 := tellL_25 0 R
  obtain ⟨i1, -, i3⟩ := hear_last (D := E) (f := 0) (by omega) ribOk_nil (tellL 0 R) (tellL_ok' hD hR) (by simp; omega)
  obtain ⟨L, hL⟩ : ∃ L, L = hearL E 0 0 [] (tellL 0 R) := ⟨_, rfl⟩
  rw [← hL] at i1 i3 hE hS
  have hone : ∀ q : Nt, q ∉ E.own → (bestM (hdL L) E.costs q.a q.n).1 = if q ∈ D.own ∧ 1 + c < 16 then 1 + c else 16 := fun q hq => by
    rw [hec, best_one i1 hc, i3, if_pos ⟨rfl, hq⟩, tell_own hD hR]
    by_cases hp : q ∈ D.own
    · rw [if_pos hp]
      show plusM c 1 = _
      unfold plusM
      by_cases h1 : 1 + c < 16
      · rw [if_pos (show c + 1 < 16 by omega), if_pos ⟨hp, h1⟩]; omega
      · rw [if_neg (show ¬ c + 1 < 16 by omega), if_neg (fun hh => h1 hh.2)]
    · rw [if_neg hp, if_neg (fun hh => hp hh.1)]
      show plusM c (lastOf (hdL []) 0 q.a q.n) = 16
      rw [lastOf_no (fun _ h => by cases h)]
      unfold plusM
      rw [if_neg (by omega)]
  have hmem : ∀ q : Nt, q ∉ E.own → (q ∈ S.map bnet ↔ q ∈ D.own ∧ 1 + c < 16) := fun q hq => by
    rw [TabR.other hE hS hq, hone q hq]
    constructor
    · intro h
      by_cases hh : q ∈ D.own ∧ 1 + c < 16
      · exact hh
      · rw [if_neg hh] at h; omega
    · intro h
      rw [if_pos h]; exact h.2
  refine ⟨fun s hs => ⟨fun ho => ?_, fun ho => ?_⟩, ?_⟩
  · have := hS.val s hs
    rw [bestD_own ho] at this
    exact congrArg Prod.fst this
  · have h1 := (hmem _ ho).1 (List.mem_map.2 ⟨s, hs, rfl⟩)
    have h2 := hS.val s hs
    rw [bestD_other ho] at h2
    have h3 : s.m = (bestM (hdL L) E.costs (bnet s).a (bnet s).n).1 := congrArg Prod.fst h2
    rw [hone _ ho, if_pos h1] at h3
    exact ⟨h1.1, h3⟩
  · have hnS := nsn hS.srt
    obtain ⟨F, hF⟩ : ∃ F, F = if 1 + c < 16 then D.own.filter (fun q => decide (q ∉ E.own)) else [] := ⟨_, rfl⟩
    have hFm : ∀ q, q ∈ F ↔ (q ∈ D.own ∧ q ∉ E.own) ∧ 1 + c < 16 := fun q => by
      rw [hF]
      split
      · rename_i h; rw [List.mem_filter]; simp [h]
      · rename_i h; simp [h]
    have hnF : (E.own ++ F).Nodup := by
      rw [List.nodup_append]
      refine ⟨hE.nodup, ?_, fun x hx y hy e => ?_⟩
      · rw [hF]; split
        · exact hD.nodup.sublist List.filter_sublist
        · exact List.nodup_nil
      · subst e; exact ((hFm x).1 hy).1.2 hx
    have hlenF : F.length = if 1 + c < 16 then (D.own.filter fun q => decide (q ∉ E.own)).length else 0 := by rw [hF]; split <;> rfl
    rw [← hlenF]
    have a1 := lensub hnS (m := E.own ++ F) (fun q hq => by
      by_cases ho : q ∈ E.own
      · simp [ho]
      · have := (hmem q ho).1 hq
        exact List.mem_append.2 (.inr ((hFm q).2 ⟨⟨this.1, ho⟩, this.2⟩)))
    have a2 := lensub hnF (m := S.map bnet) (fun q hq => by
      rcases List.mem_append.1 hq with h | h
      · exact hS.own h
      · have := (hFm q).1 h
        exact (hmem q this.1.2).2 ⟨this.1.1, this.2⟩)
    simp at a1 a2
    omega
/-- And what comes back is known. -/
theorem back_law {D E : DC} {S T : List BestR} {bad bad' : Int} {w' w'' : World} {base' base'' : Nat} {L : List Td} (hLm : ∀ x ∈ L, (⟨x.a, x.n⟩ : Nt) ∈ D.own) (hE : Dmn w' base' E 0 L bad) (hS : AllR E L S) (hD : Dmn w'' base'' D 0 (hearL D 0 0 [] (tellL 0 S)) bad') (hT : TabR D (hearL D 0 0 [] (tellL 0 S)) T) : ∀ t ∈ T, bnet t ∈ D.own ∨ bnet t ∈ E.own := fun t ht => by
  rcases ((hT.mem _).1 (List.mem_map.2 ⟨t, ht, rfl⟩)).1 with h | ⟨x, hx, he⟩
  · exact .inl h
  · rcases hearL_mem _ _ hx with ⟨y, hy, -⟩ | ⟨e, hE', h1, h2⟩
    · cases hy
    · obtain ⟨b, hb, rfl⟩ := tellL_mem hE'
      have hbt : bnet b = bnet t := by rw [← he]; unfold bnet; rw [← h1, ← h2]; rfl
      rcases (hS.mem _).1 (List.mem_map.2 ⟨b, hb, hbt⟩) with h | ⟨y, hy, he2⟩
      · exact .inr h
      · exact .inl (he2 ▸ hLm y hy)
theorem heard_own {w : World} {base : Nat} {D E : DC} {R : List BestR} (hD : Dmn w base D 0 [] 0) (hR : AllR D [] R) : ∀ x ∈ hearL E 0 0 [] (tellL 0 R), (⟨x.a, x.n⟩ : Nt) ∈ D.own := fun x hx => by
  rcases hearL_mem _ _ hx with ⟨y, hy, -⟩ | ⟨e, he, h1, h2⟩
  · cases hy
  · obtain ⟨b, hb, rfl⟩ := tellL_mem he
    have hbt : bnet b = ⟨x.a, x.n⟩ := by unfold bnet; rw [← h1, ← h2]; rfl
    rcases (hR.mem _).1 (List.mem_map.2 ⟨b, hb, hbt⟩) with h | ⟨y, hy, -⟩
    · exact h
    · cases hy
end Go.Proofs.Ytgfbkebbnfcgkaa
end
