import Derived.Test.YtfglidaicjjpfaaArgBest
import Derived.Test.YtfglidaicjjpfaaQTop4
import Derived.Test.YtfglidaicjjpfaaQTop1
import Derived.Test.YtfglidaicjjpfaaNets
import Derived.Lib.SmallJoins
import Derived.Test.YtfglidaicjjpfaaQTop2
import Derived.Test.YtfglidaicjjpfaaBestB
import Derived.Test.YtfglidaicjjpfaaRow
import Derived.Test.YtfglidaicjjpfaaRows
section
namespace Go.Proofs.Ytfglidaicjjpfaa
open Go.RowKit

/-- Ways that are handed in. -/
structure BestsR (H : Array Obj) (a : Option Addr) (l : List BestR) : Prop where
  top : Recs H a 4 BestR.cells l
  row : ∀ x ∈ l, Ints H x.A x.h
  len : ∀ x ∈ l, x.h.length ≤ 9223372036854775807
theorem BestsR.fr0 {S : Nat → Prop} {w w' : World} {a : Option Addr} {l : List BestR} (h : BestsR w.heap a l) (f : Fr S w w') (hs : ∀ k, k < w.heap.size → ¬ S k) : BestsR w'.heap a l :=
  ⟨h.top.fr0 f hs, fun x hx => (h.row x hx).fr0 f hs, h.len⟩
/-- Are two ways the same? -/
def bEq (x y : BestR) : Bool := decide (x.h = y.h ∧ x.a = y.a ∧ x.n = y.n ∧ x.m = y.m)
set_option maxRecDepth 100000 in
set_option maxHeartbeats 1000000 in
theorem sbest_any (x y : BestR) (w : World) (hx : Ints w.heap x.A x.h) (hy : Ints w.heap y.A y.h) (lx : x.h.length ≤ 9223372036854775807) (ly : y.h.length ≤ 9223372036854775807) :
    Calls Try.prog 15 #[.agg #[.int .u32 x.a, .int .i64 x.n, .int .i64 x.m, .slice x.A x.h.length x.C], .agg #[.int .u32 y.a, .int .i64 y.n, .int .i64 y.m, .slice y.A y.h.length y.C]] w (RetV w (.bool (bEq x y))) := by
  obtain ⟨xa, xn, xm, xh, xA, xC⟩ := x
  obtain ⟨ya, yn, ym, yh, yA, yC⟩ := y
  simp only at hx hy lx ly ⊢
  have hF := ((Fr.refl (fun _ => False) w).alloc (.cells #[.int .u32 xa, .int .i64 xn, .int .i64 xm, .slice xA xh.length xC] 50)).alloc (.cells #[.int .u32 ya, .int .i64 yn, .int .i64 ym, .slice yA yh.length yC] 50)
  have hx' := hx.fr0 hF (fun _ _ h => h)
  have hy' := hy.fr0 hF (fun _ _ h => h)
  have hbx := (Blk.made w 50 [.int .u32 xa, .int .i64 xn, .int .i64 xm, .slice xA xh.length xC]).alloc (.cells #[.int .u32 ya, .int .i64 yn, .int .i64 ym, .slice yA yh.length yC] 50)
  have hby := Blk.made (w.alloc (.cells #[.int .u32 xa, .int .i64 xn, .int .i64 xm, .slice xA xh.length xC] 50)) 50 [.int .u32 ya, .int .i64 yn, .int .i64 ym, .slice yA yh.length yC]
  obtain ⟨B, hB⟩ : ∃ B, B = bEq ⟨xa, xn, xm, xh, xA, xC⟩ ⟨ya, yn, ym, yh, yA, yC⟩ := ⟨_, rfl⟩
  rw [← hB]
  have HB := Lib.hid hB
  have HBX := Lib.hid hbx
  have HBY := Lib.hid hby
  clear hB hx hy hbx hby
  go_enter Try.func15, Try.ntmps15
  go_wp2_with (fail)
  refine (ints_any' xh yh _ _ _ _ _ hx' hy' lx ly rfl rfl).mono ?_
  rintro e1 w1 ⟨rfl, n1, rfl⟩
  have hF1 := hF.drewN n1
  by_cases hh : xh = yh
  · rw [decide_eq_true hh]
    by_cases hn : xa = ya ∧ xn = yn
    · have e1 : (xa == ya) = true := by simp [hn.1]
      have e2 : (xn == yn) = true := by simp [hn.2]
      by_cases hm : xm = ym
      · have e3 : (xm == ym) = true := by simp [hm]
        have HV := Lib.hid (HB.out.trans (show _ = true from decide_eq_true ⟨hh, hn.1, hn.2, hm⟩))
        clear hh hn hm
        go_wp2
        go_ret
        exact RetV.mk (show Value.bool true = _ by rw [HV.out]) rfl hF1
      · have e3 : (xm == ym) = false := by simp [hm]
        have HV := Lib.hid (HB.out.trans (show _ = false from decide_eq_false fun h => hm h.2.2.2))
        clear hh hn hm
        go_wp2
        go_ret
        exact RetV.mk (show Value.bool false = _ by rw [HV.out]) rfl hF1
    · have q : (xa == ya) = false ∨ ((xa == ya) = true ∧ (xn == yn) = false) := by
        simp only [beq_eq_false_iff_ne, beq_iff_eq, ne_eq]
        omega
      have HV := Lib.hid (HB.out.trans (show _ = false from decide_eq_false fun h => hn ⟨h.2.1, h.2.2.1⟩))
      clear hh hn
      rcases q with e1 | ⟨e1, e2⟩
      all_goals
        go_wp2
        go_ret
        exact RetV.mk (show Value.bool false = _ by rw [HV.out]) rfl hF1
  · rw [decide_eq_false hh]
    have HV := Lib.hid (HB.out.trans (show _ = false from decide_eq_false fun h => hh h.1))
    clear hh
    go_wp2
    go_ret
    exact RetV.mk (show Value.bool false = _ by rw [HV.out]) rfl hF1

set_option maxRecDepth 100000 in
set_option maxHeartbeats 1000000 in
theorem sbests_true {n k : Nat} (l m : List BestR) (a b : Option Addr) (c d : Nat) (w : World) (ha : BestsR w.heap a l) (hb : BestsR w.heap b m) (hE : Hid (∀ i, i < l.length → bEq (nth l i) (nth m i) = true)) (hlm : m.length = l.length) (hl : l.length ≤ 9223372036854775806) (hn : n = l.length) (hk : k = l.length) :
    Calls Try.prog 20 #[.slice a n c, .slice b k d] w (RetV w (.bool true)) := by
  subst hn
  subst hk
  have HA := Lib.hid ha
  have HBb := Lib.hid hb
  have HLM := Lib.hid hlm
  clear ha hb hlm
  go_enter Try.func20, Try.ntmps20
  go_wp2
  go_loopw [5] (fun i wr => ∃ k : Nat, k ≤ l.length ∧ i = .int .i64 k ∧ Fr (fun _ => False) w wr) (fun i _ => l.length - (intOf i).toNat)
  case atStart => exact ⟨0, by omega, rfl, Fr.refl _ _⟩
  case round =>
    obtain ⟨k, hk, rfl, hF⟩ := hrel
    by_cases hlt : k < l.length
    · have hA := HA.out.fr0 hF (fun _ _ h => h)
      have hB := HBb.out.fr0 hF (fun _ _ h => h)
      have hlm : k < m.length := by have := HLM.out; omega
      obtain ⟨g1, o1, rfl, q1, c1⟩ := Recs.pos hA.top BestR.cells_len (by omega) (by omega)
      obtain ⟨g2, o2, rfl, q2, c2⟩ := Recs.pos hB.top BestR.cells_len (by omega) (by omega)
      have d0 := c1 wr rfl k 0 hlt (by omega)
      have d1 := c1 wr rfl k 1 hlt (by omega)
      have d2 := c1 wr rfl k 2 hlt (by omega)
      have d3 := c1 wr rfl k 3 hlt (by omega)
      have f0 := c2 wr rfl k 0 hlm (by omega)
      have f1 := c2 wr rfl k 1 hlm (by omega)
      have f2 := c2 wr rfl k 2 hlm (by omega)
      have f3 := c2 wr rfl k 3 hlm (by omega)
      have hx := hA.row _ (nth_mem l k hlt)
      have hy := hB.row _ (nth_mem m k hlm)
      have lx := hA.len _ (nth_mem l k hlt)
      have ly := hB.len _ (nth_mem m k hlm)
      have he := hE.out k hlt
      obtain ⟨x, hxe⟩ : ∃ x, x = nth l k := ⟨_, rfl⟩
      obtain ⟨y, hye⟩ : ∃ y, y = nth m k := ⟨_, rfl⟩
      rw [← hxe] at d0 d1 d2 d3 hx lx he
      rw [← hye] at f0 f1 f2 f3 hy ly he
      simp only [BestR.cells, List.getElem?_cons_zero, List.getElem?_cons_succ, ← Nat.add_assoc, Nat.add_zero] at d0 d1 d2 d3 f0 f1 f2 f3
      have HEq := Lib.hid he
      clear c1 c2 hxe hye hA hB he
      go_wp2
      (refine wp_region_mix (fun _ => True) 8 (by kernel_rfl) (by kernel_rfl) (trivial) ?_; simp only [List.take_succ_cons, List.take_zero, List.drop_succ_cons, List.drop_zero])
      (refine wpMix_earlyN 8 (by kernel_rfl) (by kernel_rfl) ?_; simp only [List.take_succ_cons, List.take_zero, List.drop_succ_cons, List.drop_zero]; (repeat (go_big_quiet_step (fail))); refine wpQuiet_nil ?_)
      refine wpMix_nil ?_
      go_wp2_with (fail)
      refine (sbest_any x y wr.drew hx hy lx ly).mono ?_
      rintro e1 w1 ⟨rfl, hF1⟩
      rw [HEq.out]
      have hF01 := hF.drew.trans hF1
      go_wp2
      go_roundw
      case rel => exact ⟨k + 1, by omega, by go_num, hF01⟩
      case measure => simp [intOf]; omega
    · obtain rfl : k = l.length := by omega
      go_wp2
      go_ret
      exact RetV.mk rfl rfl hF
end Go.Proofs.Ytfglidaicjjpfaa
end

section
namespace Go.Proofs.Ytfglidaicjjpfaa
open Go.RowKit

/-- What a message of a neighbour says. -/
def msgH (f : Int) (es : List En) : List Hea := es.map fun e => ⟨f, e.a, e.n, e.m⟩
theorem msgH_snoc (f : Int) (es : List En) {j : Nat} (h : j < es.length) : msgH f (es.take (j + 1)) = msgH f (es.take j) ++ [⟨f, (nth es j).a, (nth es j).n, (nth es j).m⟩] := by
  unfold msgH; rw [take_succ_nth es j h, List.map_append]; rfl
theorem msgH_last (f : Int) (l : List Hea) (es : List En) (k a n : Int) : lastOf (l ++ msgH f es) k a n = if k = f then (lastE es a n).getD (lastOf l k a n) else lastOf l k a n := by
  have key : lastO (l ++ msgH f es) k a n = if k = f then (match lastE es a n with | some m => some m | none => lastO l k a n) else lastO l k a n := by
    refine snocI (P := fun es => lastO (l ++ msgH f es) k a n = if k = f then (match lastE es a n with | some m => some m | none => lastO l k a n) else lastO l k a n) (by simp [msgH, lastE]) (fun es e ih => ?_) es
    have e1 : l ++ msgH f (es ++ [e]) = (l ++ msgH f es) ++ [⟨f, e.a, e.n, e.m⟩] := by unfold msgH; simp
    rw [e1, lastO_snoc, ih, lastE_snoc]
    by_cases hk : k = f
    · by_cases hq : e.a = a ∧ e.n = n
      · rw [if_pos ⟨hk.symm, hq⟩, if_pos hk, if_pos hq]
      · rw [if_neg (fun hh => hq hh.2), if_pos hk, if_pos hk, if_neg hq]
    · rw [if_neg (fun hh => hk hh.1.symm), if_neg hk, if_neg hk]
  unfold lastOf
  rw [key]
  by_cases hk : k = f
  · rw [if_pos hk, if_pos hk]
    cases lastE es a n <;> rfl
  · rw [if_neg hk, if_neg hk]
/-- A rib holds what was told. -/
def Holds (own : List Nt) (l : List Td) (all : List Hea) : Prop := l.length ≤ all.length ∧ ∀ k a n, (⟨a, n⟩ : Nt) ∉ own → lastOf (hdL l) k a n = lastOf all k a n
theorem holds_nil (own : List Nt) : Holds own [] [] := ⟨Nat.le_refl _, fun _ _ _ _ => rfl⟩
theorem holds_more {D : DC} {f : Int} (hf : 0 ≤ f ∧ f < 8) {l : List Td} {all : List Hea} (h : RibOk 0 l) (hh : Holds D.own l all) {es : List En} (he : ∀ e ∈ es, entErr e = none ∧ En.wf e) (hl : all.length + es.length ≤ 64) : Holds D.own (hearL D f 0 l es) (all ++ msgH f es) := by
  obtain ⟨h1, h2⟩ := hh
  obtain ⟨i1, i2, i3⟩ := hear_last (D := D) hf h es he (by omega)
  refine ⟨by unfold msgH; rw [List.length_append, List.length_map]; omega, fun k a n hq => ?_⟩
  rw [i3, msgH_last]
  by_cases hk : k = f
  · rw [if_pos ⟨hk, hq⟩, if_pos hk, h2 k a n hq]
  · rw [if_neg (fun hh => hk hh.1), if_neg hk, h2 k a n hq]
/-- The table is the best of all that was told. -/
theorem top_law {w : World} {base : Nat} {D : DC} {l : List Td} {bad : Int} {R : List BestR} {all : List Hea} (hD : Dmn w base D 0 l bad) (h : TabR D l R) (hh : Holds D.own l all) (ha : ∀ x ∈ all, 1 ≤ x.m ∧ x.m ≤ 16) {a n : Int} (hq : (⟨a, n⟩ : Nt) ∉ D.own) {b : BestR} (hb : b.a = a ∧ b.n = n ∧ (b.m, b.h) = bestM all D.costs a n) :
    (∃ i, i < R.length ∧ bEq (nth R i) b = true) ↔ b.m < 16 := by
  have hc := (nearE_ok hD.near).2
  have hl : ∀ x ∈ hdL l, 1 ≤ x.m ∧ x.m ≤ 16 := fun x hx => by
    obtain ⟨y, hy, rfl⟩ := List.mem_map.1 hx
    have := hD.ok.each y hy
    exact ⟨this.m0, this.m1⟩
  have hsame : bestM (hdL l) D.costs a n = bestM all D.costs a n := by
    rw [bestM_eq a n hl hc, bestM_eq a n ha hc]
    have : pOf (hdL l) D.costs a n = pOf all D.costs a n := by
      funext k
      unfold pOf
      rw [hh.2 k a n hq]
    rw [this]
  have hm : b.m = (bestM (hdL l) D.costs a n).1 := by rw [hsame, ← hb.2.2]
  have hot := TabR.other hD h hq
  simp only at hot
  rw [← hm] at hot
  constructor
  · rintro ⟨i, hi, he⟩
    have he := of_decide_eq_true he
    refine hot.1 (List.mem_map.2 ⟨nth R i, nth_mem R i hi, ?_⟩)
    unfold bnet
    rw [he.2.1, he.2.2.1, hb.1, hb.2.1]
  · intro hlt
    obtain ⟨r, hr, hbr⟩ := List.mem_map.1 (hot.2 hlt)
    have mem_at : ∀ (l : List BestR), r ∈ l → ∃ i, i < l.length ∧ nth l i = r := by
      intro l
      induction l with
      | nil => intro h; cases h
      | cons y l ih =>
        intro h
        rcases List.mem_cons.1 h with rfl | h
        · exact ⟨0, by simp, rfl⟩
        · obtain ⟨i, h1, h2⟩ := ih h
          exact ⟨i + 1, by simpa using h1, h2⟩
    obtain ⟨i, hi, he⟩ := mem_at R hr
    refine ⟨i, hi, ?_⟩
    rw [he]
    have hv := h.val r hr
    rw [hbr, bestD_other hq, hsame, ← hb.2.2] at hv
    exact decide_eq_true ⟨congrArg Prod.snd hv, by rw [hb.1]; exact congrArg Nt.a hbr, by rw [hb.2.1]; exact congrArg Nt.n hbr, congrArg Prod.fst hv⟩
end Go.Proofs.Ytfglidaicjjpfaa
end

section
namespace Go
open Go.ChangeShapes Go.WideShapes Go.ChangeAt Go.RowKit Go.Deep
section
variable {H : Type} {enc : TypeId × Value → H} {P : Program} {W : World}
/-- A slice of records, opened where it stands. -/
theorem open_recs1 {α : Type} [Inhabited α] {f : α → List Value} {k : Nat} {wf : α → Prop} (hk : 0 < k) (hlen : ∀ q, (f q).length = k) {t e : TypeId} {fuel : Nat} {cs : List Value} {x : DataW H × List MemPlace} (ht : P.underlying t = some (.slice e)) (ce : P.cellsOf e = k)
    (open1 : ∀ fuel cs x, DataW.trod enc P W 0 (fun _ => true) true fuel e cs = some x → ∃ q, cs = f q ∧ wf q)
    (hf : DataW.trod enc P W 0 (fun _ => true) true fuel t cs = some x) :
    ∃ (a : Option Addr) (l : List α) (c : Nat), cs = [.slice a l.length c] ∧ ((∀ y ∈ x.2, y.block < W.heap.size) → Recs W.heap a k f l) ∧ l.length ≤ c ∧ c ≤ maxLen ∧ (∀ x ∈ l, wf x) ∧ (a = none → l = []) ∧
      (c = 0 ∨ ∃ el sp, x.1 = .slice el sp ∧ el.length + sp.length = c) := by
  rcases open_slice ht hf with ⟨hcs, hx⟩ | ⟨a, len', cap', m, n, D, Pl, hcs, _, hl, hm, hmm, hx, hel⟩
  · exact ⟨none, [], 0, hcs, fun _ => Rd.nil _ _ _, by simp, by decide, (by simp), fun _ => rfl, .inl rfl⟩
  · simp only [if_true] at hmm
    subst hmm
    subst hx
    have each : ∀ i, i < m → ∃ q : α, (∀ j, j < k → W.cell? (a.add (i * k + j)) = (f q)[j]?) ∧ wf q := by
      intro i hi
      obtain ⟨cs', h1, h2⟩ := hel i hi
      rw [ce] at h1
      obtain ⟨_, hcl, hcell⟩ := World.cells?_some h1
      obtain ⟨q, rfl, hw⟩ := open1 _ _ _ h2
      refine ⟨q, fun j hj => ?_, hw⟩
      have := hcell j (by omega)
      rw [add_add] at this
      rw [this]
    obtain ⟨q, hq⟩ := choose_lt each
    have hrl : ((List.range len').map q).length = len' := by simp
    refine ⟨some a, (List.range len').map q, m, by rw [hrl]; exact hcs, fun hlt => ?_, by omega, hm, ?_, (fun h => nomatch h), .inr ⟨_, _, rfl, by simp; omega⟩⟩
    · refine ⟨by rw [flat_len _ k hlen], ?_⟩
      by_cases h0 : len' = 0
      · left; subst h0; rfl
      · right
        have hz : ∀ j, j < k → W.cell? (a.add (0 * k + j)) = (f (q 0))[j]? := fun j hj => (hq 0 (by omega)).1 j hj
        have hf0 : ∃ u, (f (q 0))[0]? = some u := ⟨_, List.getElem?_eq_getElem (by rw [hlen]; exact hk)⟩
        obtain ⟨u, hu⟩ := hf0
        obtain ⟨b, off, spot⟩ := a
        have hspot : spot = none := by
          have := hz 0 hk
          rw [hu] at this
          simpa [Addr.add] using World.cell?_spot this
        subst hspot
        refine ⟨b, off, rfl, hlt (.cell b off) (List.mem_append_left _ (MemPlace.mem_row.2 ⟨0, ?_, by simp⟩)), fun w hw i hi => ?_⟩
        · rw [ce]; exact Nat.mul_pos (by omega) hk
        rw [flat_len _ k hlen, hrl] at hi
        have e : w.cell? ⟨b, off + i, none⟩ = W.cell? ⟨b, off + i, none⟩ := by simp only [World.cell?, hw]
        have hd : i = i / k * k + i % k := by rw [Nat.mul_comm]; exact (Nat.div_add_mod i k).symm
        have hi3 : i / k < len' := Nat.div_lt_of_lt_mul (by rw [Nat.mul_comm]; exact hi)
        have hmk : i % k < k := Nat.mod_lt _ hk
        have z0 := (hq (i / k) (by omega)).1 (i % k) hmk
        simp only [add_plain] at z0
        have hn : nth ((List.range len').map q) (i / k) = q (i / k) := by simp [nth, List.getD, hi3]
        rw [e]
        conv => lhs; rw [hd]
        conv => rhs; rw [hd]
        rw [flat_get _ k hlen _ _ _ (by rw [hrl]; exact hi3) hmk, hn]
        exact z0
    · intro x hx
      obtain ⟨i, hi, rfl⟩ := List.mem_map.1 hx
      exact (hq i (by have := List.mem_range.1 hi; omega)).2

open Go.Proofs.Ytfglidaicjjpfaa
def EnW (x : En) : Prop := Nt.wf ⟨x.a, x.n⟩ ∧ (Lit.int .i64 x.t).wf = true ∧ (0 ≤ x.p ∧ x.p < 4294967296) ∧ (Lit.int .i64 x.m).wf = true
theorem open_ent {t : TypeId} {f0 f1 f2 f3 g0 g1 : Field} (ht : P.underlying t = some (.struct #[f0, f1, f2, f3])) (ct : P.cellsOf t = 5) (o0 : f0.offset = 0) (o1 : f1.offset = 2) (o2 : f2.offset = 3) (o3 : f3.offset = 4)
    (kn : P.underlying f0.type = some (.struct #[g0, g1])) (cn : P.cellsOf f0.type = 2) (p0 : g0.offset = 0) (p1 : g1.offset = 1) (j0 : P.underlying g0.type = some (.int .u32)) (j1 : P.underlying g1.type = some (.int .i64)) (b0 : P.cellsOf g0.type = 1) (b1 : P.cellsOf g1.type = 1)
    (k1 : P.underlying f1.type = some (.int .i64)) (c1 : P.cellsOf f1.type = 1) (k2 : P.underlying f2.type = some (.int .u32)) (c2 : P.cellsOf f2.type = 1) (k3 : P.underlying f3.type = some (.int .i64)) (c3 : P.cellsOf f3.type = 1) :
    ∀ fuel cs x, DataW.trod enc P W 0 (fun _ => true) true fuel t cs = some x → ∃ q : En, cs = En.cells q ∧ EnW q := by
  intro fuel cs x h
  obtain ⟨y0, y1, y2, y3, n', hx, hl, h0, h1, h2, h3⟩ := Go.Joins.trod_struct4 ht h
  rw [ct] at hl
  match cs, hl with
  | [v0, v1, v2, v3, v4], _ =>
    simp [o0, o1, o2, o3, cn, c1, c2, c3] at h0 h1 h2 h3
    obtain ⟨q, hq, hqw⟩ := open_net kn cn p0 p1 j0 j1 b0 b1 _ _ _ h0
    obtain ⟨x1, q1, _, w1⟩ := DataW.trod_int k1 h1
    obtain ⟨x2, q2, _, w2⟩ := DataW.trod_int k2 h2
    obtain ⟨x3, q3, _, w3⟩ := DataW.trod_int k3 h3
    simp at hq q1 q2 q3
    obtain ⟨rfl, rfl⟩ := hq
    subst q1
    subst q2
    subst q3
    exact ⟨⟨q.a, q.n, x1, x2, x3⟩, rfl, hqw, w1, u32_wf w2, w3⟩
/-- A message, opened. -/
theorem arg_msg {t te : TypeId} {f0 f1 : Field} {r : Reach} {base : Nat} {v : Value} {d : DataW H} {p : List MemPlace} (ht : P.underlying t = some (.struct #[f0, f1])) (ct : P.cellsOf t = 2) (o0 : f0.offset = 0) (o1 : f1.offset = 1)
    (k0 : P.underlying f0.type = some .bool) (c0 : P.cellsOf f0.type = 1) (k1 : P.underlying f1.type = some (.slice te)) (c1 : P.cellsOf f1.type = 1) (ce : P.cellsOf te = 5)
    (open1 : ∀ fuel cs x, DataW.trod enc P W 0 (fun _ => true) true fuel te cs = some x → ∃ q : En, cs = En.cells q ∧ EnW q)
    (hv : Value.okWide P W r base t v) (h : DataW.Trod enc P W 0 (fun _ => true) true t v d p) (hlt : ∀ x ∈ p, x.block < W.heap.size) :
    ∃ (ask : Bool) (a : Option Addr) (l : List En) (c : Nat), v = .agg #[.bool ask, .slice a l.length c] ∧ Recs W.heap a 5 En.cells l ∧ l.length ≤ c ∧ c ≤ maxLen ∧ (∀ x ∈ l, EnW x) ∧
      (c = 0 ∨ ∃ u0 el sp, d = .agg [u0, .slice el sp] ∧ el.length + sp.length = c) := by
  obtain ⟨cs, rfl, hsz⟩ := okWide_struct ht hv
  obtain ⟨fuel, hf⟩ := h
  obtain ⟨y0, y1, n', hx, hl, h0, h1⟩ := trod_struct2 ht hf
  rw [ct] at hl
  simp only [Value.cells] at hl h0 h1
  obtain ⟨cl⟩ := cs
  match cl, hl with
  | [v0, v1], _ =>
    simp [o0, o1, c0, c1] at h0 h1
    obtain ⟨b, q0, _⟩ := DataW.trod_bool k0 h0
    obtain ⟨a, l, c, hcs, hI, hlc, hcm, hlw, hnil, hsy⟩ := open_recs1 (by decide) En.cells_len k1 ce open1 h1
    simp at q0 hcs
    subst q0
    subst hcs
    simp only [Prod.mk.injEq] at hx
    obtain ⟨rfl, rfl⟩ := hx
    refine ⟨b, a, l, c, rfl, hI (fun y hy => hlt y (by simp [hy])), hlc, hcm, hlw, ?_⟩
    rcases hsy with h | ⟨el, sp, h3, h4⟩
    · exact .inl h
    · exact .inr ⟨y0.1, el, sp, by rw [h3], h4⟩
/-- How many bytes a slice within a record that came in may take. -/
theorem part_small {ts : List TypeId} {ds : List (DataW H)} {j k : Nat} {t q r : TypeId} {fs : Array Field} {e' s' parts : List (DataW H)} (hsz : (DataW.weightsEach P ts ds).all (· ≤ reachBytes) = true) (ht : ts[j]? = some t) (hd : ds[j]? = some (.agg parts))
    (he : P.underlying t = some (.struct fs)) (hp : parts[k]? = some (.slice e' s')) (hf : (fs.toList.map (·.type))[k]? = some q) (hq : P.underlying q = some (.slice r)) : (e'.length + s'.length) * P.bytesOf r ≤ reachBytes := by
  refine of_decide_eq_true (List.all_eq_true.1 hsz _ (DataW.weights_mem_each ht hd _ ?_))
  simp only [DataW.weights, he]
  exact DataW.weights_mem_each hf hp _ (by simp [DataW.weights, hq])
end
end Go
end

section
namespace Go
open Go.ChangeShapes Go.WideShapes Go.ChangeAt Go.RowKit Go.Deep Go.Proofs.Ytfglidaicjjpfaa
section
variable {H : Type} {enc : TypeId × Value → H} {P : Program} {W : World}
/-- A message: does it ask; its entries, where they lie. -/
structure MsgR where
  ask : Bool
  es : List En
  A : Option Addr
  C : Nat
deriving Inhabited
abbrev MsgR.cells (x : MsgR) : List Value := [.bool x.ask, .slice x.A x.es.length x.C]
theorem MsgR.cells_len (x : MsgR) : (MsgR.cells x).length = 2 := rfl
def MsgR.wf (x : MsgR) : Prop := x.es.length ≤ x.C ∧ x.C ≤ maxLen ∧ (∀ e ∈ x.es, EnW e)
/-- What lies behind a message that is handed in. -/
def msgOpen (W : World) (q : MsgR) (d : DataW H) (pl : List MemPlace) : Prop := MsgR.wf q ∧ ((∀ y ∈ pl, y.block < W.heap.size) → Recs W.heap q.A 5 En.cells q.es) ∧ (q.C = 0 ∨ ∃ u0 el sp, d = .agg [u0, .slice el sp] ∧ el.length + sp.length = q.C)
theorem open_msg1 {t te : TypeId} {f0 f1 : Field} (ht : P.underlying t = some (.struct #[f0, f1])) (ct : P.cellsOf t = 2) (o0 : f0.offset = 0) (o1 : f1.offset = 1)
    (k0 : P.underlying f0.type = some .bool) (c0 : P.cellsOf f0.type = 1) (k1 : P.underlying f1.type = some (.slice te)) (c1 : P.cellsOf f1.type = 1) (ce : P.cellsOf te = 5)
    (open1 : ∀ fuel cs x, DataW.trod enc P W 0 (fun _ => true) true fuel te cs = some x → ∃ q : En, cs = En.cells q ∧ EnW q) :
    ∀ fuel cs x, DataW.trod enc P W 0 (fun _ => true) true fuel t cs = some x → ∃ q : MsgR, cs = MsgR.cells q ∧ msgOpen W q x.1 x.2 := by
  intro fuel cs x h
  obtain ⟨y0, y1, n', hx, hl, h0, h1⟩ := trod_struct2 ht h
  rw [ct] at hl
  match cs, hl with
  | [v0, v1], _ =>
    simp [o0, o1, c0, c1] at h0 h1
    obtain ⟨b, q0, _⟩ := DataW.trod_bool k0 h0
    obtain ⟨a, l, c, hcs, hI, hlc, hcm, hlw, hnil, hsy⟩ := open_recs1 (by decide) En.cells_len k1 ce open1 h1
    simp at q0 hcs
    subst q0
    subst hcs
    refine ⟨⟨b, l, a, c⟩, rfl, ⟨hlc, hcm, hlw⟩, fun hlt => hI (fun y hy => hlt y (by rw [hx]; simp [hy])), ?_⟩
    rcases hsy with h | ⟨el, sp, h3, h4⟩
    · exact .inl h
    · exact .inr ⟨y0.1, el, sp, by rw [hx, h3], h4⟩
end
/-- Messages that are handed in. -/
structure Msgs (H : Array Obj) (a : Option Addr) (l : List MsgR) : Prop where
  top : Recs H a 2 MsgR.cells l
  row : ∀ x ∈ l, Recs H x.A 5 En.cells x.es ∧ (∀ e ∈ x.es, En.wf e) ∧ x.es.length ≤ 9223372036854775806
theorem Msgs.fr0 {w w' : World} {a : Option Addr} {l : List MsgR} (h : Msgs w.heap a l) (f : Fr (fun _ => False) w w') : Msgs w'.heap a l :=
  ⟨h.top.fr f (fun _ _ _ h => h), fun x hx => ⟨(h.row x hx).1.fr f (fun _ _ _ h => h), (h.row x hx).2⟩⟩
theorem enW_wf {e : En} (h : EnW e) : En.wf e := ⟨⟨h.1.1, h.1.2.1⟩, h.2.2.1⟩
end Go
end

section
namespace Go.Proofs.Ytfglidaicjjpfaa
open Go.RowKit

theorem Own.notTold {H : Array Obj} {a : Option Addr} {n c k : Nat} {xs : List Value} {ob : Option Nat} (h : Own H 47 4 a n c xs ob) (hk : ob = some k) : ∀ cur, H[k]? ≠ some (.cells cur 108 (0, 0)) := by
  intro cur e
  rcases h.is with ⟨_, _, _, q⟩ | ⟨g, cur', _, q2, q3, _⟩
  · rw [q] at hk; cases hk
  · rw [q2] at hk; cases hk; rw [q3] at e; simp at e
/-- Is it among the first ones? -/
def ThereJ (t : Bool) (j : Nat) (R : List BestR) (b : BestR) : Prop := t = true ↔ ∃ i, i < j ∧ bEq (nth R i) b = true
/-- So far: a router; all that was told it. -/
structure TSt (w0 w : World) (base : Nat) (D : DC) (k : Nat) (l : List Td) (bad : Int) (all : List Hea) (aA : Option Addr) (cA : Nat) (obA : Option Nat) : Prop where
  dm : Dmn w base D 0 l bad
  bad0 : bad = 0
  fr : Fr (fun _ => False) w0 w
  sz : base ≤ w.heap.size
  own : Own w.heap 47 4 aA all.length cA (all.flatMap Hea.cells) obA
  new : ∀ g, obA = some g → D.hi ≤ g ∧ w0.heap.size ≤ g
  ok : ∀ x ∈ all, heardE D.costs.length x = none ∧ 0 ≤ x.a ∧ x.a < 4294967296
  len : all.length ≤ 25 * k
  holds : all.length ≤ 64 → Holds D.own l all
theorem TSt.skip {w0 w w' : World} {base : Nat} {D : DC} {k : Nat} {l : List Td} {bad : Int} {all : List Hea} {aA : Option Addr} {cA : Nat} {obA : Option Nat} (h : TSt w0 w base D k l bad all aA cA obA) (f : Fr (fun _ => False) w w') : TSt w0 w' base D (k + 1) l bad all aA cA obA :=
  ⟨h.dm.fr0 f, h.bad0, h.fr.trans f, Nat.le_trans h.sz f.size, h.own.fr f (fun _ _ h => h), h.new, h.ok, by have := h.len; omega, h.holds⟩

set_option maxRecDepth 100000 in
set_option maxHeartbeats 64000000 in
theorem topBest_any (costs : List Int) (ac : Option Addr) (cc : Nat) (own : List Nt) (ao : Option Addr) (co : Nat) (ms : List MsgR) (am : Option Addr) (cm : Nat) (q : Int) (w : World)
    (hC : Ints w.heap ac costs) (hcl : costs.length * 8 ≤ 140737488351232) (hcn : ac = none → costs = []) (hO : Recs w.heap ao 2 Nt.cells own) (how : ∀ x ∈ own, 0 ≤ x.a ∧ x.a < 4294967296) (hol : own.length * 16 ≤ 140737488351232) (hon : ao = none → own = []) (hcap : own.length ≤ co)
    (hM : Msgs w.heap am ms) (hml : ms.length ≤ 9223372036854774000) :
    Calls Try.prog 3 #[.slice ac costs.length cc, .slice ao own.length co, .slice am ms.length cm, .int .i64 q] w (RetV w (.bool true)) := by
  have HM := Lib.hid hM
  have HO := Lib.hid hO
  have HC := Lib.hid hC
  have hcall := dnew_any costs ac cc own ao co w hC hcl hcn hO how hol hon hcap rfl rfl
  clear hM hO hC hcn how hon
  go_enter Try.func3, Try.ntmps3
  go_wp2_with (fail)
  refine hcall.mono ?_
  intro e1 w1 R1
  have hL2 : Ints (w1.alloc (.cells #[.int .i64 1] 3)).heap (some ⟨w1.heap.size, 0, none⟩) [1] := (Own.made w1 3 1 1 [.int .i64 1] rfl (by decide)).rd
  have hcall2 := engNew_any (N := 1) [1] (some ⟨w1.heap.size, 0, none⟩) 1 (w1.alloc (.cells #[.int .i64 1] 3)) hL2 (by decide) rfl
  clear hL2 hcall
  cases hE : dnewE costs own with
  | some k0 =>
    obtain ⟨rfl, hF1⟩ := R1.errE hE
    clear R1 hE
    go_wp2_with (fail)
    refine hcall2.mono ?_
    intro e2 w2 R2
    obtain ⟨be, bn, ac2, cc2, rfl, -, hF2⟩ := R2.okE (by decide)
    have hF02 := (hF1.alloc (.cells #[.int .i64 1] 3)).trans hF2
    clear R2 hcall2 hF1 hF2
    go_wp2
    go_ret
    exact RetV.mk rfl rfl hF02
  | none =>
    obtain ⟨D, rfl, hDc, hDo, hlo, hhi, hD, hF1⟩ := R1.okE hE
    clear R1 hE
    go_wp2_with (fail)
    refine hcall2.mono ?_
    intro e2 w2 R2
    obtain ⟨be, bn, ac2, cc2, rfl, -, hF2⟩ := R2.okE (by decide)
    have hF12 := ((Fr.refl (fun _ => False) w1).alloc (.cells #[.int .i64 1] 3)).trans hF2
    have hF02 := hF1.trans hF12
    have hs12 := hF12.size
    have hD2 : Dmn w2 w2.heap.size D 0 [] 0 := (hD w2.heap.size hs12).fr0 hF12
    have HDC := Lib.hid hDc
    have HDO := Lib.hid hDo
    have hws := hF1.size
    have hbd := hD2.lbd
    have hbr := hD2.lbr
    have hcl8 := hD2.c8
    have hc8 : costs.length ≤ 8 := by rw [← hDc]; exact hcl8
    have hT0 : TSt w w2 w2.heap.size D 0 [] 0 [] none 0 none := ⟨hD2, rfl, hF02, Nat.le_refl _, Own.nil _ _ _, (fun _ h => nomatch h), (fun _ h => nomatch h), by simp, fun _ => holds_nil _⟩
    obtain ⟨base, hbase⟩ : ∃ b, b = w2.heap.size := ⟨_, rfl⟩
    rw [← hbase] at hT0
    clear R2 hcall2 hD hDc hDo hF1 hF2 hF12 hD2
    go_upto_block 0 with (fail)
    go_cut [13] (fun s13 wx => ∃ (k : Nat) (l : List Td) (bad : Int) (all : List Hea) (aA : Option Addr) (cA : Nat) (obA : Option Nat), s13 = .slice aA all.length cA ∧ k ≤ 8 ∧ TSt w wx base D k l bad all aA cA obA)
    case first =>
      go_wp2
      go_loopw [14, 13] (fun s14 s13 wr => ∃ (k : Nat) (l : List Td) (bad : Int) (all : List Hea) (aA : Option Addr) (cA : Nat) (obA : Option Nat), k ≤ 8 ∧ s14 = .int .i64 k ∧ s13 = .slice aA all.length cA ∧ TSt w wr base D k l bad all aA cA obA) (fun s _ _ => 8 - (intOf s).toNat)
      case atStart => exact ⟨0, [], 0, [], none, 0, none, by omega, rfl, rfl, hT0⟩
      case round =>
        clear hT0 hF02
        obtain ⟨k, l, bad, all, aA, cA, obA, hk, rfl, rfl, hT⟩ := hrel
        by_cases hgo : k < ms.length ∧ k < costs.length
        · obtain ⟨hg1, hg2⟩ := hgo
          have hF := hT.fr
          obtain ⟨g, o, rfl, hgl, hgc⟩ := Recs.pos HM.out.top MsgR.cells_len (by omega) (by omega)
          have d0 := (hgc w rfl k 0 hg1 (by omega))
          have d1 := (hgc w rfl k 1 hg1 (by omega))
          obtain ⟨x1, x2, x3⟩ := HM.out.row _ (nth_mem ms k hg1)
          generalize nth ms k = x at *
          obtain ⟨ask, es, A, C⟩ := x
          simp only at x1 x2 x3
          simp only [MsgR.cells, List.getElem?_cons_zero, List.getElem?_cons_succ, ← Nat.add_assoc, Nat.add_zero] at d0 d1
          have r0 := (hF.cell (p := ⟨g, o + k * 2, none⟩) hgl (fun h => h)).trans d0
          have r1 := (hF.cell (p := ⟨g, o + k * 2 + 1, none⟩) hgl (fun h => h)).trans d1
          have hcall := encode_any ask es A C wr (x1.fr hF (fun _ _ _ h => h)) x2 x3 rfl
          have HX1 := Lib.hid x1
          have HX2 := Lib.hid x2
          have HT := Lib.hid hT
          clear hgc x1 hT
          go_wp2_with (fail)
          refine hcall.mono ?_
          intro e3 w3 R3
          cases hme : msgErr es with
          | some q3 =>
            obtain ⟨rfl, hF3⟩ := R3.errE hme
            have hT3 := HT.out.skip hF3
            clear R3 hcall hme hF hF3 r0 r1 d0 d1
            go_wp2
            go_roundw
            case rel => exact ⟨k + 1, l, bad, all, aA, cA, obA, by omega, by go_num, rfl, hT3⟩
            case measure => simp [intOf]; omega
          | none =>
            obtain ⟨a3, c3, ob3, rfl, hO3, hF3, hN3⟩ := R3.okE hme
            have hF03 := hF.trans hF3
            have s0 := (hF3.cell (p := ⟨g, o + k * 2, none⟩) (Nat.lt_of_lt_of_le hgl hF.size) (fun h => h)).trans r0
            cases ask with
            | true =>
              have hT3 := HT.out.skip hF3
              clear R3 hcall hme hF hF3 hF03 r0 r1 d0 d1 hO3
              go_wp2
              go_roundw
              case rel => exact ⟨k + 1, l, bad, all, aA, cA, obA, by omega, by go_num, rfl, hT3⟩
              case measure => simp [intOf]; omega
            | false =>
              have hs3 := hF3.size
              have hel := encD_len false es
              obtain ⟨hes25, hee⟩ := msgErr_ok hme
              have hdec := decD_encD false es x2 hme
              obtain ⟨b, hbq⟩ : ∃ b, b = encD false es := ⟨_, rfl⟩
              have hbb : ∀ x ∈ b, 0 ≤ x ∧ x < 256 := by rw [hbq]; exact encD_bd false es
              rw [← hbq] at hO3 hel hdec ⊢
              have hcap3 := hO3.cap
              have hb504 : b.length ≤ 504 := by omega
              have hsz := HT.out.sz
              have hb0 := HT.out.bad0
              have hcall2 := dhear_any b a3 c3 k 0 w3 (HT.out.dm.fr0 hF3) (by omega) (by omega) hO3.rd hbb (by omega) (by omega) rfl
              have hMq : hearM D 0 l bad b k 0 = ⟨none, 0, hearL D k 0 l es, bad⟩ := by
                rw [hearM_ok (by unfold timeErr; rw [HDC.out]; omega) hdec, aged_0 HT.out.dm.ok]
              rw [hMq] at hcall2
              have HEE := Lib.hid (show ∀ e ∈ es, entErr e = none ∧ En.wf e from fun e he => ⟨hee e he, x2 e he⟩)
              have hlen := HT.out.len
              have HHO := Lib.hid (show all.length + es.length ≤ 64 → Holds D.own (hearL D k 0 l es) (all ++ msgH k es) from fun h64 => holds_more (by omega) HT.out.dm.ok (HT.out.holds (by omega)) HEE.out h64)
              have hO3' := HT.out.own.fr hF3 (fun _ _ h => h)
              clear R3 hcall hme hbq hbb hel hdec hMq hee hF r0 r1 hF3 hO3
              go_wp2_with (fail)
              refine hcall2.mono ?_
              rintro e4 w4 ⟨rfl, hD4, hF4⟩
              rw [show errO none = .nilIface from rfl]
              have hD4 : Dmn w4 base D 0 (hearL D k 0 l es) bad := hD4
              have hF04 := Fr.dm hF03 hF4 (by omega) (by omega)
              have hO4 := hO3'.fr hF4 (fun g' hg' e => by have := (HT.out.new g' hg').1; omega)
              have hs4 := hF4.size
              generalize hearL D k 0 l es = l4 at *
              have HNW := Lib.hid HT.out.new
              have HOK := Lib.hid HT.out.ok
              clear hcall2 hO3' hF4 hF03
              go_wp2
              go_loopw [17, 13] (fun s17 s13 wr => ∃ (j n : Nat) (aB : Option Addr) (cB : Nat) (obB : Option Nat), j ≤ es.length ∧ Hid (n = all.length + j) ∧ n ≤ 500 ∧ s17 = .int .i64 j ∧ s13 = .slice aB n cB ∧ Own wr.heap 47 4 aB n cB ((all ++ msgH k (es.take j)).flatMap Hea.cells) obB ∧ Hid (∀ g, obB = some g → D.hi ≤ g ∧ w.heap.size ≤ g) ∧ Dmn wr base D 0 l4 bad ∧ Fr (fun _ => False) w wr ∧ base ≤ wr.heap.size) (fun s _ _ => es.length - (intOf s).toNat)
              case atStart => exact ⟨0, all.length, aA, cA, obA, by omega, Lib.hid rfl, by omega, rfl, rfl, by simpa [msgH] using hO4, HNW, hD4, hF04, by omega⟩
              case round =>
                clear hO4 hD4 hF04
                obtain ⟨j, n, aB, cB, obB, hj, hnj, hn5, rfl, rfl, hOB, hNB, hDB, hFB, hsB⟩ := hrel
                have t1 := (hFB.cell (p := ⟨g, o + k * 2 + 1, none⟩) hgl (fun h => h)).trans d1
                by_cases hjl : j < es.length
                · obtain ⟨g2, o2, rfl, hgl2, hgc2⟩ := Recs.pos HX1.out En.cells_len (by omega) (by omega)
                  have f0 := (hFB.cell (p := ⟨g2, o2 + (j * 5 + 0), none⟩) hgl2 (fun h => h)).trans (hgc2 w rfl j 0 hjl (by omega))
                  have f1 := (hFB.cell (p := ⟨g2, o2 + (j * 5 + 1), none⟩) hgl2 (fun h => h)).trans (hgc2 w rfl j 1 hjl (by omega))
                  have f2 := (hFB.cell (p := ⟨g2, o2 + (j * 5 + 2), none⟩) hgl2 (fun h => h)).trans (hgc2 w rfl j 2 hjl (by omega))
                  have f3 := (hFB.cell (p := ⟨g2, o2 + (j * 5 + 3), none⟩) hgl2 (fun h => h)).trans (hgc2 w rfl j 3 hjl (by omega))
                  have f4 := (hFB.cell (p := ⟨g2, o2 + (j * 5 + 4), none⟩) hgl2 (fun h => h)).trans (hgc2 w rfl j 4 hjl (by omega))
                  have hsn := msgH_snoc k es hjl
                  generalize nth es j = x at *
                  obtain ⟨xa, xn, xt, xp, xm⟩ := x
                  simp only [En.cells, List.getElem?_cons_zero, List.getElem?_cons_succ, ← Nat.add_assoc, Nat.add_zero] at f0 f1 f2 f3 f4
                  have HSN := Lib.hid (show (all ++ msgH k (es.take (j + 1))).flatMap Hea.cells = (all ++ msgH k (es.take j)).flatMap Hea.cells ++ [.int .i64 k, .int .u32 xa, .int .i64 xn, .int .i64 xm] by rw [hsn]; simp)
                  have hrd := rd_lit1 wr (.cells #[.int .u32 xa, .int .i64 xn, .int .i64 xt, .int .u32 xp, .int .i64 xm] 45) 47 [.int .i64 k, .int .u32 xa, .int .i64 xn, .int .i64 xm]
                  have hOa := (hOB.alloc (.cells #[.int .u32 xa, .int .i64 xn, .int .i64 xt, .int .u32 xp, .int .i64 xm] 45)).alloc (.cells #[.int .i64 k, .int .u32 xa, .int .i64 xn, .int .i64 xm] 47)
                  clear hgc2 hsn
                  go_wp2_with (at_builtin; refine wpList_app rfl _ _ 33 rfl Try.underlying33 infoHd rfl (by decide) rfl rfl hOa hrd (by simp [Value.oneCell']) (by omega) (by omega) ?_)
                  intro a' c' w6 ob' z1 z2 z3
                  have hF2a := ((Fr.refl (fun _ => False) wr).alloc (.cells #[.int .u32 xa, .int .i64 xn, .int .i64 xt, .int .u32 xp, .int .i64 xm] 45)).alloc (.cells #[.int .i64 k, .int .u32 xa, .int .i64 xn, .int .i64 xm] 47)
                  have hD6 := (hDB.fr0 hF2a).frT z2 (fun k' hk' => ⟨.inr (Own.notTold hOa hk'), .inr (hNB.out k' hk').1⟩)
                  have hF6 := (hFB.trans hF2a).trans' z2 (fun k' hk' e => by have := (hNB.out k' e).2; omega)
                  have hs6 := hF2a.size
                  have hs6' := z2.size
                  have hN6 := Lib.hid (show ∀ g, ob' = some g → D.hi ≤ g ∧ w.heap.size ≤ g from fun g' hg' => by
                    rcases z3 with h | ⟨g3, h, h'⟩
                    · rw [h] at hg'; exact hNB.out g' hg'
                    · rw [hg'] at h; cases h; omega)
                  have hO6 : Own w6.heap 47 4 a' (n + 1) c' ((all ++ msgH k (es.take (j + 1))).flatMap Hea.cells) ob' := by rw [HSN.out, List.flatMap_append, List.append_assoc]; exact z1
                  have HN1 := Lib.hid (show n + 1 = all.length + (j + 1) by have := hnj.out; omega)
                  have hn6 : n + 1 ≤ 500 := by have := hnj.out; omega
                  clear z1 z2 z3 hrd hOa hOB hDB hFB hF2a f0 f1 f2 f3 f4 t1
                  go_wp2
                  go_roundw
                  case rel => exact ⟨j + 1, n + 1, a', c', ob', by omega, HN1, hn6, by go_num, by first | rfl | simp, hO6, hN6, hD6, hF6, by omega⟩
                  case measure => simp [intOf]; omega
                · obtain rfl : j = es.length := by omega
                  rw [List.take_length] at hOB
                  have hnl : n = (all ++ msgH k es).length := by rw [hnj.out, List.length_append]; unfold msgH; rw [List.length_map]
                  have hTn : TSt w wr base D (k + 1) l4 bad (all ++ msgH k es) aB cB obB := ⟨hDB, hb0, hFB, hsB, by rw [← hnl]; exact hOB, hNB.out, fun y hy => by
                    rcases List.mem_append.1 hy with h | h
                    · exact HOK.out y h
                    · obtain ⟨e, he, rfl⟩ := List.mem_map.1 h
                      obtain ⟨he1, he2⟩ := HEE.out e he
                      obtain ⟨p1, p2, p3⟩ := entErr_parts he1
                      refine ⟨?_, he2.1⟩
                      unfold heardE
                      simp only
                      rw [if_neg (by rw [HDC.out]; omega), p1]
                      simp only
                      rw [if_neg (by omega)], by rw [← hnl, hnj.out]; omega, fun h64 => HHO.out (by rw [← hnl, hnj.out] at h64; exact h64)⟩
                  have HNL := Lib.hid hnl
                  clear hOB hDB hFB hnl
                  go_wp2
                  go_roundw
                  case rel => exact ⟨k + 1, l4, bad, all ++ msgH k es, aB, cB, obB, by omega, by go_num, by rw [HNL.out], hTn⟩
                  case measure => simp [intOf]; omega
        · have hq : ¬ k < ms.length ∨ (k < ms.length ∧ ¬ k < costs.length) := by omega
          clear hgo
          rcases hq with g1 | ⟨g1, g2⟩
          all_goals
            go_wp2
            go_meet
            exact ⟨k, l, bad, all, aA, cA, obA, rfl, hk, hT⟩
    case rest =>
      clear hT0 hF02
      obtain ⟨k, l, bad, all, aA, cA, obA, rfl, hk, hT⟩ := hcut
      obtain ⟨n, hn⟩ : ∃ n, n = all.length := ⟨_, rfl⟩
      have hlen := hT.len
      have hO := hT.own
      have hF := hT.fr
      rw [← hn] at hlen hO ⊢
      have HN := Lib.hid hn
      have HT := Lib.hid hT
      clear hn hT
      by_cases h64 : 64 < n
      · have g1 : decide (64 < n) = true := decide_eq_true h64
        go_wp2
        go_ret
        exact RetV.mk rfl rfl hF
      · have g1 : decide (64 < n) = false := decide_eq_false h64
        by_cases hq0 : q < 0
        · have g2 : decide (q < 0) = true := decide_eq_true hq0
          go_wp2
          go_ret
          exact RetV.mk rfl rfl hF
        · have g2 : decide (q < 0) = false := decide_eq_false hq0
          by_cases hqn : (n : Int) ≤ q
          · have g3 : decide ((n : Int) ≤ q) = true := decide_eq_true hqn
            go_wp2
            go_ret
            exact RetV.mk rfl rfl hF
          · obtain ⟨i, rfl⟩ := Int.eq_ofNat_of_zero_le (show 0 ≤ q by omega)
            have g3 : decide (n ≤ i) = false := decide_eq_false (by omega)
            have g2' : decide ((i : Int) < 0) = false := g2
            have hin : i < n := by omega
            have hia : i < all.length := by rw [← HN.out]; exact hin
            obtain ⟨g, rfl, rfl, hgl, hgc, -⟩ := hO.pos (by omega)
            have d0 := (hgc (i * 4 + 0) (by omega)).trans (flat_get Hea.cells 4 (fun _ => rfl) all i 0 hia (by omega))
            have d1 := (hgc (i * 4 + 1) (by omega)).trans (flat_get Hea.cells 4 (fun _ => rfl) all i 1 hia (by omega))
            have d2 := (hgc (i * 4 + 2) (by omega)).trans (flat_get Hea.cells 4 (fun _ => rfl) all i 2 hia (by omega))
            have d3 := (hgc (i * 4 + 3) (by omega)).trans (flat_get Hea.cells 4 (fun _ => rfl) all i 3 hia (by omega))
            obtain ⟨y1, y2⟩ := HT.out.ok _ (nth_mem all i hia)
            generalize nth all i = x at *
            obtain ⟨xf, xa, xn, xm⟩ := x
            simp only at y2
            simp only [Hea.cells, List.getElem?_cons_zero, List.getElem?_cons_succ, Nat.add_zero] at d0 d1 d2 d3
            have HY1 := Lib.hid y1
            have hp := placesB_any own ⟨xa, xn⟩ ao co wc (HO.out.fr hF (fun _ _ _ h => h)) (by omega) rfl
            clear hgc y1 hqn hq0 g2
            go_wp2_with (fail)
            refine hp.mono ?_
            rintro e5 w5 ⟨p, rfl, hF5, hpp, -, -, -⟩
            have hF05 := hF.trans hF5
            have hp0 : decide (0 ≤ p) = decide ((⟨xa, xn⟩ : Nt) ∈ own) := hpp
            by_cases hm : (⟨xa, xn⟩ : Nt) ∈ own
            · rw [decide_eq_true hm] at hp0
              clear hp hpp hm
              go_wp2
              go_ret
              exact RetV.mk rfl rfl hF05
            · rw [decide_eq_false hm] at hp0
              have z1 := (hF5.cell (p := ⟨g, i * 4 + 1, none⟩) hgl (fun h => h)).trans d1
              have z2 := (hF5.cell (p := ⟨g, i * 4 + 2, none⟩) hgl (fun h => h)).trans d2
              have hO5 := hO.fr hF5 (fun _ _ h => h)
              have HMM := Lib.hid hm
              have hD5 := HT.out.dm.fr0 hF5
              have hheard : ∀ l : List Hea, (∀ x ∈ l, heardE costs.length x = none) → heardsE costs.length l = none := by
                intro l
                induction l with
                | nil => intro _; rfl
                | cons x l ih => intro h; unfold heardsE; rw [h x (by simp)]; exact ih (fun y hy => h y (by simp [hy]))
              have hbe : bestE all costs xa xn = none := by
                unfold bestE
                have h1 : nearE costs = none := by rw [← HDC.out]; exact HT.out.dm.near
                rw [h1]
                simp only
                rw [hheard all (fun y hy => by rw [← HDC.out]; exact (HT.out.ok y hy).1)]
                simp only
                exact (heardE_ok HY1.out).2.2.1
              have hcb := best_any (M := n) all (some ⟨g, 0, none⟩) cA costs ac cc xa xn w5 (by show Rd _ _ _ _ _; rw [← HN.out]; exact hO5.rd) (fun y hy => (HT.out.ok y hy).2) (by rw [← HN.out]; omega) (HC.out.fr0 hF05 (fun _ _ h => h)) (by omega) y2 HN.out rfl
              rw [hbe] at hcb
              clear hp hpp hm hF5 hO d0 d1 d2 d3 hheard hbe hF
              go_wp2_with (fail)
              refine hcb.mono ?_
              rintro e6 w6 ⟨ah, ch, obh, rfl, hOh, hF6, -⟩
              have hF06 := hF05.trans hF6
              have hD6 := hD5.fr0 hF6
              have hbd2 := bestD_bd hD6 ⟨xa, xn⟩
              have hlaw : ∀ R : List BestR, TabR D l R → ((∃ i, i < R.length ∧ bEq (nth R i) ⟨xa, xn, (bestM all costs xa xn).1, (bestM all costs xa xn).2, ah, ch⟩ = true) ↔ (bestM all costs xa xn).1 < 16) := fun R hR =>
                top_law hD6 hR (HT.out.holds (by rw [← HN.out]; omega)) (fun y hy => by have := heardE_ok (HT.out.ok y hy).1; omega) (by rw [HDO.out]; exact HMM.out) ⟨rfl, rfl, by rw [HDC.out]⟩
              have hop4 : (bestM all costs xa xn).2.length ≤ 4 := by
                obtain ⟨-, -, p3, -, -⟩ := chK_bd (fun i => lastO all i xa xn) costs (fun i m hm => lastO_bd (fun y hy => by have := heardE_ok (HT.out.ok y hy).1; omega) hm) (by rw [← HDC.out]; exact (nearE_ok HT.out.dm.near).2) costs.length (Nat.le_refl _)
                exact p3
              generalize (bestM all costs xa xn).1 = M at *
              generalize (bestM all costs xa xn).2 = hops at *
              have HLW := Lib.hid hlaw
              have hBk := Blk.made w6 50 [.int .u32 xa, .int .i64 xn, .int .i64 M, .slice ah hops.length ch]
              have hFa := (Fr.refl (fun _ => False) w6).alloc (.cells #[.int .u32 xa, .int .i64 xn, .int .i64 M, .slice ah hops.length ch] 50)
              have hOha := hOh.rd.fr0 hFa (fun _ _ h => h)
              have hD7 := hD6.fr0 hFa
              have hF07 := hF06.trans hFa
              have hct := dtab_any _ hD7
              have HBk := Lib.hid hBk
              have HD7 := Lib.hid hD7
              clear hcb hlaw hF05 hF6 hF06 hD5 hD6 hbd2 hOh hFa hBk hD7 z1 z2
              go_wp2_with (fail)
              refine hct.mono ?_
              rintro e8 w8 ⟨R, aR, cR, obR, rfl, hA, hR, hF8⟩
              have hF08 := hF07.trans hF8
              have hRl := hR.len
              have HB8 := Lib.hid (HBk.out.fr hF8 (fun h => h))
              have HOh8 := Lib.hid (hOha.fr0 hF8 (fun _ _ h => h))
              have HRB := Lib.hid (show BestsR w8.heap aR R from ⟨hA.own.rd, fun x hx => by obtain ⟨o, h1, -⟩ := hA.row x hx; exact h1.rd, fun x hx => by
                have h1 := hR.val x hx
                have h2 : x.h = _ := congrArg Prod.snd h1
                have := (bestD_bd HD7.out (bnet x)).2.2.1
                rw [h2]; omega⟩)
              have HL := Lib.hid (HLW.out R hR)
              obtain ⟨nR, hnR⟩ : ∃ n, n = R.length := ⟨_, rfl⟩
              rw [← hnR] at hRl ⊢
              have HNR := Lib.hid hnR
              clear hct hA hR hF8 hF07 hOha hnR
              go_wp2
              go_loopw [23, 22] (fun s23 s22 wq => ∃ (j : Nat) (t : Bool), j ≤ nR ∧ s23 = .int .i64 j ∧ s22 = .bool t ∧ Fr (fun _ => False) w8 wq ∧ Hid (ThereJ t j R ⟨xa, xn, M, hops, ah, ch⟩)) (fun s _ _ => nR - (intOf s).toNat)
              case atStart => exact ⟨0, false, by omega, rfl, rfl, Fr.refl _ _, Lib.hid ⟨fun h => (nomatch h), fun ⟨_, h, _⟩ => absurd h (Nat.not_lt_zero _)⟩⟩
              case round =>
                obtain ⟨j, t, hj, rfl, rfl, hFq, hno⟩ := hrel
                have hBq := HB8.out.fr hFq (fun h => h)
                have b0 := hBq.cell 0
                have b1 := hBq.cell 1
                have b2 := hBq.cell 2
                have b3 := hBq.cell 3
                have bl := hBq.lt
                simp only [List.getElem?_cons_zero, List.getElem?_cons_succ] at b0 b1 b2 b3
                clear hBq
                by_cases hjn : j < nR
                · have hjR : j < R.length := by rw [← HNR.out]; exact hjn
                  obtain ⟨g', o', rfl, hgl', hgc'⟩ := Recs.pos HRB.out.top BestR.cells_len (by omega) (by omega)
                  have f0 := (hFq.cell (p := ⟨g', o' + (j * 4 + 0), none⟩) hgl' (fun h => h)).trans (hgc' w8 rfl j 0 hjR (by omega))
                  have f1 := (hFq.cell (p := ⟨g', o' + (j * 4 + 1), none⟩) hgl' (fun h => h)).trans (hgc' w8 rfl j 1 hjR (by omega))
                  have f2 := (hFq.cell (p := ⟨g', o' + (j * 4 + 2), none⟩) hgl' (fun h => h)).trans (hgc' w8 rfl j 2 hjR (by omega))
                  have f3 := (hFq.cell (p := ⟨g', o' + (j * 4 + 3), none⟩) hgl' (fun h => h)).trans (hgc' w8 rfl j 3 hjR (by omega))
                  have v1 := HRB.out.row _ (nth_mem R j hjR)
                  have v2 := HRB.out.len _ (nth_mem R j hjR)
                  obtain ⟨y, hy⟩ : ∃ y, y = nth R j := ⟨_, rfl⟩
                  rw [← hy] at f0 f1 f2 f3 v1 v2
                  simp only [BestR.cells, List.getElem?_cons_zero, List.getElem?_cons_succ, ← Nat.add_assoc, Nat.add_zero] at f0 f1 f2 f3
                  have hsb := sbest_any y ⟨xa, xn, M, hops, ah, ch⟩ wr.drew (v1.fr0 hFq.drew (fun _ _ h => h)) (HOh8.out.fr0 hFq.drew (fun _ _ h => h)) v2 (by simp only; omega)
                  obtain ⟨B, hB⟩ : ∃ B, B = bEq y ⟨xa, xn, M, hops, ah, ch⟩ := ⟨_, rfl⟩
                  rw [← hB] at hsb
                  simp only at hsb
                  have HBB := Lib.hid hB
                  have HY := Lib.hid hy
                  clear hgc' v1 hB hy
                  go_wp2
                  (refine wp_region_mix (fun _ => True) 5 (by kernel_rfl) (by kernel_rfl) (trivial) ?_; simp only [List.take_succ_cons, List.take_zero, List.drop_succ_cons, List.drop_zero])
                  (refine wpMix_earlyN 5 (by kernel_rfl) (by kernel_rfl) ?_; simp only [List.take_succ_cons, List.take_zero, List.drop_succ_cons, List.drop_zero]; (repeat (go_big_quiet_step (fail))); refine wpQuiet_nil ?_)
                  refine wpMix_nil ?_
                  go_wp2_with (fail)
                  refine hsb.mono ?_
                  rintro e9 w9 ⟨rfl, hF9⟩
                  have hFq9 := hFq.drew.trans hF9
                  clear hsb hF9 hFq f0 f1 f2 f3 b0 b1 b2 b3
                  cases t with
                  | true =>
                    have HN2 := Lib.hid (show ThereJ true (j + 1) R ⟨xa, xn, M, hops, ah, ch⟩ from ⟨fun _ => by obtain ⟨i, h1, h2⟩ := hno.out.1 rfl; exact ⟨i, by omega, h2⟩, fun _ => rfl⟩)
                    go_wp2
                    go_roundw
                    case rel => exact ⟨j + 1, true, by omega, by go_num, rfl, hFq9, HN2⟩
                    case measure => simp [intOf]; omega
                  | false =>
                    have HN2 := Lib.hid (show ThereJ B (j + 1) R ⟨xa, xn, M, hops, ah, ch⟩ from ⟨fun h => ⟨j, by omega, by rw [← HY.out, ← HBB.out]; exact h⟩, fun ⟨i, h1, h2⟩ => by
                      by_cases hij : i < j
                      · exact absurd (hno.out.2 ⟨i, hij, h2⟩) (by decide)
                      · obtain rfl : i = j := by omega
                        rw [HBB.out, HY.out]; exact h2⟩)
                    go_wp2
                    go_roundw
                    case rel => exact ⟨j + 1, B, by omega, by go_num, rfl, hFq9, HN2⟩
                    case measure => simp [intOf]; omega
                · obtain rfl : j = nR := by omega
                  have hFe := hF08.trans hFq
                  have ht : t = decide (M < 16) := by
                    have h1 := HL.out
                    rw [← HNR.out] at h1
                    have h2 := hno.out.trans h1
                    by_cases hM : M < 16
                    · rw [decide_eq_true hM]; exact h2.2 hM
                    · rw [decide_eq_false hM]
                      cases t with
                      | true => exact absurd (h2.1 rfl) hM
                      | false => rfl
                  subst ht
                  by_cases hM : M < 16
                  · have g5 : decide (M < 16) = true := decide_eq_true hM
                    rw [g5]
                    go_wp2
                    go_ret
                    exact RetV.mk rfl rfl hFe
                  · have g5 : decide (M < 16) = false := decide_eq_false hM
                    rw [g5]
                    go_wp2
                    go_ret
                    exact RetV.mk rfl rfl hFe
end Go.Proofs.Ytfglidaicjjpfaa
end

section
namespace Go.Proofs.Ytfglidaicjjpfaa
open Go.ChangeShapes Go.WideShapes Go.ChangeAt Go.RowKit

theorem own : ownKnob Try.prog.godebug = none := by kernel_rfl
theorem laidOut : laidOutB Try.prog = true := by kernel_rfl
theorem cellsInt : Try.prog.cellsOf 3 = 1 := by kernel_rfl
theorem cellsInts : Try.prog.cellsOf 22 = 1 := by kernel_rfl

theorem bulk_len {H : Type} (l : List (DataW H)) : l.length ≤ Rows.uptoBulkAll l := by
  induction l with
  | nil => simp [Rows.uptoBulkAll]
  | cons d r ih =>
    have : 1 ≤ Rows.uptoBulk d := by
      cases d with
      | lit l => cases l <;> simp [Rows.uptoBulk]
      | _ => simp [Rows.uptoBulk]
    simp only [List.length_cons, Rows.uptoBulkAll]
    omega
/-- A slice's cells are counted. -/
theorem bulk_slice {H : Type} {d : DataW H} {c : Nat} (h : c = 0 ∨ ∃ el sp, d = .slice el sp ∧ el.length + sp.length = c) : c ≤ Rows.uptoBulk d := by
  rcases h with rfl | ⟨el, sp, rfl, rfl⟩
  · omega
  · have h1 := bulk_len el
    have h2 := bulk_len sp
    simp only [Rows.uptoBulk]
    omega
theorem small_all {H : Type} {l : List (DataW H)} (hk : Rows.uptoSmall H l = true) : Rows.uptoBulkAll l ≤ 1048576 := of_decide_eq_true hk
end Go.Proofs.Ytfglidaicjjpfaa
end

section
namespace Go
open Go.ChangeShapes Go.WideShapes Go.ChangeAt Go.RowKit
/-- How many bytes a slice that came in may take. -/
theorem slice_small {H : Type} {P : Program} {ts : List TypeId} {ds : List (DataW H)} {j n c k : Nat} {t e : TypeId} (hsz : (DataW.weightsEach P ts ds).all (· ≤ reachBytes) = true) {d : DataW H} (ht : ts[j]? = some t) (hd : ds[j]? = some d)
    (hu : P.underlying t = some (.slice e)) (hk : P.bytesOf e = k) (hn : n ≤ c) (hs : c = 0 ∨ ∃ el sp, d = .slice el sp ∧ el.length + sp.length = c) : n * k ≤ 140737488351232 := by
  subst hk
  rcases hs with h | ⟨el, sp, rfl, h⟩
  · have : n = 0 := by omega
    subst this; simp
  · have := sized_slice hsz ht hd hu
    have hr : reachBytes = 140737488351232 := rfl
    rw [h, hr] at this
    exact Nat.le_trans (Nat.mul_le_mul_right _ hn) this
/-- How many bytes a slice within a record of a slice that came in may take. -/
theorem field_small {H : Type} {P : Program} {ts : List TypeId} {ds : List (DataW H)} {j k : Nat} {t e q r : TypeId} {fs : Array Field} {el sp e' s' parts : List (DataW H)} (hsz : (DataW.weightsEach P ts ds).all (· ≤ reachBytes) = true) (ht : ts[j]? = some t) (hd : ds[j]? = some (.slice el sp))
    (hu : P.underlying t = some (.slice e)) (he : P.underlying e = some (.struct fs)) (hm : DataW.agg parts ∈ el) (hp : parts[k]? = some (.slice e' s')) (hf : (fs.toList.map (·.type))[k]? = some q) (hq : P.underlying q = some (.slice r)) : (e'.length + s'.length) * P.bytesOf r ≤ reachBytes := by
  refine of_decide_eq_true (List.all_eq_true.1 hsz _ (DataW.weights_mem_each ht hd _ ?_))
  have key : ∀ l : List (DataW H), DataW.agg parts ∈ l → (e'.length + s'.length) * P.bytesOf r ∈ DataW.weightsAll P e l := by
    intro l
    induction l with
    | nil => intro h; cases h
    | cons x l ih =>
      intro h
      simp only [DataW.weightsAll, List.mem_append]
      rcases List.mem_cons.1 h with rfl | h
      · left
        simp only [DataW.weights, he]
        exact DataW.weights_mem_each hf hp _ (by simp [DataW.weights, hq])
      · right; exact ih h
  simp only [DataW.weights, hu, List.mem_cons, List.mem_append]
  exact .inr (.inl (key el hm))
end Go
end

section
namespace Go
open Go.ChangeShapes Go.WideShapes Go.ChangeAt Go.RowKit Go.Deep Go.Proofs.Ytfglidaicjjpfaa
/-- Messages that came in. -/
theorem msgs_of {H : Type} {P : Program} {W : World} {ts : List TypeId} {ds : List (DataW H)} {j : Nat} {t e q r : TypeId} {fs : Array Field} {d : DataW H} {p : List MemPlace} {a : Option Addr} {l : List MsgR} (hsz : (DataW.weightsEach P ts ds).all (· ≤ reachBytes) = true) (ht : ts[j]? = some t) (hd : ds[j]? = some d)
    (hu : P.underlying t = some (.slice e)) (he : P.underlying e = some (.struct fs)) (hf : (fs.toList.map (·.type))[1]? = some q) (hq : P.underlying q = some (.slice r)) (hb : P.bytesOf r = 40)
    (hI : Recs W.heap a 2 MsgR.cells l) (hlt : ∀ y ∈ p, y.block < W.heap.size) (hn : ∀ x ∈ l, ∃ dd pl, msgOpen W x dd pl ∧ (∀ y ∈ pl, y ∈ p) ∧ ∃ el sp, d = .slice el sp ∧ dd ∈ el) : Msgs W.heap a l := by
  refine ⟨hI, fun x hx => ?_⟩
  obtain ⟨dd, pl, ⟨hw, hR, hs⟩, hp, el, sp, rfl, hm⟩ := hn x hx
  refine ⟨hR (fun y hy => hlt y (hp y hy)), fun e' he' => enW_wf (hw.2.2 e' he'), ?_⟩
  have h1 := hw.1
  rcases hs with h | ⟨u0, el', sp', rfl, h⟩
  · omega
  · have h2 := field_small (k := 1) hsz ht hd hu he hm rfl hf hq
    have hr : reachBytes = 140737488351232 := rfl
    rw [hb, hr] at h2
    omega
end Go
end

section
namespace Go.Proofs.Ytfglidaicjjpfaa
open Go.ChangeShapes Go.WideShapes Go.ChangeAt Go.RowKit

set_option maxRecDepth 100000 in
theorem topBest_lifted (os : Os) (started : os.Started) (H : Type) (enc : TypeId × Value → H) :
    ReturnsInHanded {} Try.checked os 3 .any (Rows.topBestSpec.pre6 enc Try.prog Try.f3 Rows.topBestRow.domain false) (Rows.topBestSpec.post enc Try.prog Try.f3 false true false false) := by
  refine law_lift (C := Try.checked) own laidOut (by kernel_rfl) Try.func3 rfl rfl Try.underlying4 (by kernel_rfl) os started H enc
    (ChangeSpec.witness6 (enc := enc) (C := Try.checked) false ⟨#[], #[.slice none 0 0, .slice none 0 0, .slice none 0 0, .int .i64 0], []⟩ 8 (by kernel_rfl) (by kernel_rfl) (by kernel_rfl) (by kernel_rfl)) ?_
  intro W base args ds p hval hA hlt hsz
  rw [Try.params3] at hA hval hsz
  obtain ⟨v0, vs0, d0, ds0, p0, q0, hargs, rfl, rfl, h0, r0⟩ := trodAll_cons hA
  obtain ⟨v1, vs1, d1, ds1, p1, q1, rfl, rfl, rfl, h1, r1⟩ := trodAll_cons r0
  obtain ⟨v2, vs2, d2, ds2, p2, q2, rfl, rfl, rfl, h2, r2⟩ := trodAll_cons r1
  obtain ⟨v3, vs3, d3, ds3, p3, q3, rfl, rfl, rfl, h3, r3⟩ := trodAll_cons r2
  obtain ⟨rfl, rfl, rfl⟩ := trodAll_nil r3
  obtain rfl : args = #[v0, v1, v2, v3] := by cases args; simp_all
  obtain ⟨a0, x0, c0, rfl, k0, j0, i0, n0, y0, s0⟩ := arg_ints Try.underlying22 Try.underlying3 cellsInt (hval 0 22 v0 rfl rfl) h0 (fun x hx => hlt x (by simp [hx]))
  obtain ⟨a1, x1, c1, rfl, k1, j1, i1, n1, y1, s1⟩ := arg_recs (by decide) Nt.cells_len Try.underlying23 (by kernel_rfl) (open_net Try.underlying43 (by kernel_rfl) rfl rfl Try.underlying41 Try.underlying3 cellsNt1 cellsNt2) (hval 1 23 v1 rfl rfl) h1 (fun x hx => hlt x (by simp [hx]))
  obtain ⟨a2, x2, c2, rfl, k2, j2, i2, n2, y2, s2⟩ := arg_recsP (wf := msgOpen W) (by decide) MsgR.cells_len Try.underlying24 (by kernel_rfl) (open_msg1 Try.underlying39 (by kernel_rfl) rfl rfl Try.underlying4 (by kernel_rfl) Try.underlying37 (by kernel_rfl) (by kernel_rfl) (open_ent Try.underlying45 (by kernel_rfl) rfl rfl rfl rfl Try.underlying43 (by kernel_rfl) rfl rfl Try.underlying41 Try.underlying3 cellsNt1 cellsNt2 Try.underlying3 cellsNt2 Try.underlying41 cellsNt1 Try.underlying3 cellsNt2)) (hval 2 24 v2 rfl rfl) h2 (fun x hx => hlt x (by simp [hx]))
  obtain ⟨x3, rfl, rfl, rfl, k3⟩ := open_int Try.underlying3 (hval 3 3 v3 rfl rfl) h3
  refine ⟨?_, rfl, rfl, rfl⟩
  have hM := msgs_of hsz (j := 2) rfl rfl Try.underlying24 Try.underlying39 rfl Try.underlying37 (by kernel_rfl) k2 (fun x hx => hlt x (by simp [hx])) n2
  exact topBest_any x0 a0 c0 x1 a1 c1 x2 a2 c2 x3 W k0 (slice_small (k := 8) hsz (j := 0) rfl rfl Try.underlying22 (by kernel_rfl) j0 s0) y0 k1 (fun x hx => ⟨(n1 x hx).1, (n1 x hx).2.1⟩) (slice_small (k := 16) hsz (j := 1) rfl rfl Try.underlying23 (by kernel_rfl) j1 s1) y1 j1 hM (by have := slice_small (k := 32) hsz (j := 2) rfl rfl Try.underlying24 (by kernel_rfl) j2 s2; omega)

theorem topBest_over : Rows.topBestRow.holds Try.pinned (OpenSpec.ofChange Rows.topBestSpec) :=
  OpenClaim.holds_of_wide 3 Try.f3 rfl rfl rfl rfl rfl rfl rfl ⟨rfl, rfl, rfl, rfl, rfl⟩ rfl rfl rfl rfl rfl (by kernel_rfl) Try.func3 (by kernel_rfl)
    (of_decide_eq_true (by kernel_rfl)) (by unfold Func.isWrapper; first | (rw [if_pos (by decide +kernel)]; kernel_rfl) | (rw [if_neg (by decide +kernel)]; exact ⟨rfl, rfl⟩))
    (fun os started H enc _ => topBest_lifted os started H enc)

theorem topBest_holds : Rows.TopBestSaid := topBest_over
end Go.Proofs.Ytfglidaicjjpfaa
end
