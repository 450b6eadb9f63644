import Derived.Test.YtfglidaicjjpfaaGreatDoorQBad2
import Derived.Test.YtfglidaicjjpfaaGreatDoorQBad4
import Derived.Test.YtfglidaicjjpfaaGreatDoorQBad7
import Derived.Test.YtfglidaicjjpfaaGreatDoorSl
import Derived.Test.YtfglidaicjjpfaaGreatDoorArgBest
section
namespace Go
theorem lensub {l m : List Nt} (hn : l.Nodup) (hs : ∀ x ∈ l, x ∈ m) : l.length ≤ m.length := by
  induction l generalizing m with
  | nil => exact Nat.zero_le _
  | cons x l ih =>
    obtain ⟨h1, h2⟩ := List.nodup_cons.1 hn
    have hx := hs x (by simp)
    have := ih (m := m.erase x) h2 (fun y hy => (List.mem_erase_of_ne (fun e : y = x => h1 (by rw [← e]; exact hy))).2 (hs y (by simp [hy])))
    have hl := List.length_erase_of_mem hx
    have hp := List.length_pos_of_mem hx
    simp only [List.length_cons]
    omega
theorem nsx {l m : List Nt} (hl : NSorted l) (hm : NSorted m) (h : ∀ x, x ∈ l ↔ x ∈ m) : l = m := by
  induction l generalizing m with
  | nil =>
    cases m with
    | nil => rfl
    | cons y m => exact absurd ((h y).2 (by simp)) (by simp)
  | cons x l ih =>
    cases m with
    | nil => exact absurd ((h x).1 (by simp)) (by simp)
    | cons y m =>
      obtain ⟨h1, h2⟩ := List.pairwise_cons.1 hl
      obtain ⟨h3, h4⟩ := List.pairwise_cons.1 hm
      have hxy : x = y := by
        rcases List.mem_cons.1 ((h x).1 (by simp)) with e | e
        · exact e
        · rcases List.mem_cons.1 ((h y).2 (by simp)) with e2 | e2
          · exact e2.symm
          · exact absurd (h1 y e2) (ntLt_asymm (h3 x e))
      subst hxy
      congr 1
      refine ih h2 h4 (fun z => ?_)
      constructor
      · intro hz
        rcases List.mem_cons.1 ((h z).1 (by simp [hz])) with e | e
        · subst e; exact absurd (h1 z hz) (ntLt_irrefl z)
        · exact e
      · intro hz
        rcases List.mem_cons.1 ((h z).2 (by simp [hz])) with e | e
        · subst e; exact absurd (h3 z hz) (ntLt_irrefl z)
        · exact e
theorem nsn {l : List Nt} (h : NSorted l) : l.Nodup := List.Pairwise.imp (fun {a b} (hab : ntLt a b) (e : a = b) => ntLt_irrefl a (by rw [← e] at hab; exact hab)) h
end Go
namespace Go.Proofs.YtfglidaicjjpfaaGreatDoor
open Go.RowKit
theorem TabR.own {D : DC} {l : List Td} {R : List BestR} (h : TabR D l R) {q : Nt} (hq : q ∈ D.own) : q ∈ R.map bnet := (h.mem q).2 ⟨.inl hq, by rw [bestD_own hq]; decide⟩
theorem TabR.ge {D : DC} {l : List Td} {R : List BestR} (h : TabR D l R) (hn : D.own.Nodup) : D.own.length ≤ R.length := by
  have := lensub hn (fun x hx => h.own hx)
  simpa using this
/-- Where all that was heard is that there is no way. -/
theorem bestM_16 {l : List Hea} {costs : List Int} (a n : Int) (h : ∀ x ∈ l, x.m = 16) (hc : ∀ c ∈ costs, 1 ≤ c ∧ c ≤ 16) : bestM l costs a n = (16, []) := by
  have hl : ∀ x ∈ l, 1 ≤ x.m ∧ x.m ≤ 16 := fun x hx => by rw [h x hx]; decide
  have h1 : ∀ f, lastOf l f a n = 16 := fun f => by
    unfold lastOf
    have : ∀ m, lastO l f a n = some m → m = 16 := fun m hm => by
      have key : ∀ l : List Hea, (∀ x ∈ l, x.m = 16) → ∀ m, lastO l f a n = some m → m = 16 := by
        intro l
        refine snocI (P := fun l => (∀ x ∈ l, x.m = 16) → ∀ m, lastO l f a n = some m → m = 16) (fun _ m hm => by cases hm) (fun l x ih hx m hm => ?_) l
        rw [lastO_snoc] at hm
        split at hm
        · cases hm; exact hx x (by simp)
        · exact ih (fun y hy => hx y (by simp [hy])) m hm
      exact key l h m hm
    cases ho : lastO l f a n with
    | none => rfl
    | some m => exact this m ho
  rw [bestM_eq a n hl hc]
  have h2 : ∀ k, k < costs.length → pOf l costs a n k = 16 := fun k hk => by
    unfold pOf plusM
    rw [h1]
    have := hc _ (nth_mem costs k hk)
    rw [if_neg (by omega)]
  have h3 : ∀ k, k ≤ costs.length → mK (pOf l costs a n) k = 16 := by
    intro k
    induction k with
    | zero => intro _; rfl
    | succ k ih =>
      intro hk
      unfold mK
      rw [ih (by omega), h2 k (by omega)]
      rfl
  rw [h3 _ (Nat.le_refl _), hopsK_16 _ (by decide)]
theorem hearM_0 {D : DC} {l : List Td} {bad : Int} {b : List Int} {f : Int} : (hearM D 0 l bad b f 0).now = 0 ∧ bad ≤ (hearM D 0 l bad b f 0).bad ∧ (hearM D 0 l bad b f 0).bad ≤ bad + 1 := by
  unfold hearM
  split
  · exact ⟨rfl, by simp only; omega, by simp only; omega⟩
  · split
    · exact ⟨rfl, by simp only; omega, by simp only; omega⟩
    · exact ⟨rfl, by simp only; omega, by simp only; omega⟩
    · exact ⟨rfl, by simp only; omega, by simp only; omega⟩
/-- A router's blocks are its own: what was there ahead of it stays. -/
theorem Fr.dm {w0 w w' : World} {D : DC} (h : Fr (fun _ => False) w0 w) (f : Fr (fun k => k = D.bd ∨ k = D.br) w w') (h1 : w0.heap.size ≤ D.bd) (h2 : w0.heap.size ≤ D.br) : Fr (fun _ => False) w0 w' := h.trans' f (fun k hk e => by omega)
set_option maxRecDepth 100000 in
set_option maxHeartbeats 2000000 in
theorem routed_any (w : World) : Calls Tryz.prog 5 #[] w (RetV w (.bool true)) := by
  go_enter Tryz.func5, Tryz.ntmps5
  go_wp2_with (fail)
  refine (ten3_any _).mono ?_
  rintro e1 w1 ⟨rfl, hw1⟩
  have hC : Ints w1.heap (some ⟨w.heap.size, 0, none⟩) [1, 2] := by
    rw [hw1]; exact ((Own.made w 3 1 2 [.int .i64 1, .int .i64 2] rfl (by decide)).alloc _).rd
  have hF1 : Fr (fun _ => False) w w1 := by rw [hw1]; exact ((Fr.refl _ _).alloc _).alloc _
  have hN : Recs (w1.alloc (.cells #[.int .u32 167772160, .int .i64 8] 52)).heap (some ⟨w1.heap.size, 0, none⟩) 2 Nt.cells [⟨167772160, 8⟩] := (Own.made w1 52 2 1 (Nt.cells ⟨167772160, 8⟩) rfl (by decide)).rd
  have hFa := (Fr.refl (fun _ => False) w1).alloc (.cells #[.int .u32 167772160, .int .i64 8] 52)
  clear hw1
  go_wp2_with (fail)
  refine (dnew_any [1, 2] _ 2 [⟨167772160, 8⟩] _ 1 _ (hC.fr hFa (fun _ _ _ h => h)) (by decide) (fun h => nomatch h) hN (fun x hx => by rw [List.mem_singleton.1 hx]; decide) (by decide) (fun h => nomatch h) (by decide) rfl rfl).mono ?_
  intro e2 w2 R2
  obtain ⟨D, rfl, hDc, hDo, hlo, -, hD, hF2⟩ := R2.okE (by decide)
  have hF02 := (hF1.trans hFa).trans hF2
  clear R2 hC hN hF1
  go_wp2_with (fail)
  refine (dtab_any w2 (hD w2.heap.size (Nat.le_refl _))).mono ?_
  rintro e3 w3 ⟨R, aR, cR, ob, rfl, hA, hR, hF3⟩
  have hk : R.map bnet = [⟨167772160, 8⟩] := nsx hR.srt (by simp) (fun q => by
    rw [hR.mem, hDo]
    constructor
    · rintro ⟨h | ⟨x, hx, _⟩, _⟩
      · exact h
      · cases hx
    · intro h
      exact ⟨.inl h, by rw [bestD_own (by rw [hDo]; exact h)]; decide⟩)
  have hR1 : R.length = 1 := by have := congrArg List.length hk; simpa using this
  match R, hR1 with
  | [r], _ =>
    have hr : bnet r = ⟨167772160, 8⟩ := by simpa using hk
    have hv := hR.val r (by simp)
    rw [bestD_own (by rw [hDo, hr]; simp)] at hv
    obtain ⟨g, rfl, -, hgl, hgc, -⟩ := hA.own.pos (by simp)
    have d := hgc 2 (by simp)
    have hm : r.m = 1 := congrArg Prod.fst hv
    simp only [List.flatMap_cons, List.flatMap_nil, List.append_nil, BestR.cells, List.getElem?_cons_succ, List.getElem?_cons_zero] at d
    rw [hm] at d
    have hFe := hF02.trans hF3
    clear hgc hA hR hv hm hk hr hD hF3 hF02 hF2
    go_wp2
    go_ret
    exact RetV.mk rfl rfl hFe
end Go.Proofs.YtfglidaicjjpfaaGreatDoor
end

section
namespace Go.Proofs.YtfglidaicjjpfaaGreatDoor
open Go.RowKit

set_option maxRecDepth 100000 in
set_option maxHeartbeats 1000000 in
theorem ints_any (l m : List Int) (a b : Option Addr) (c d : Nat) (w : World) (ha : Ints w.heap a l) (hb : Ints w.heap b m) (hl : l.length ≤ 9223372036854775807) (hm : m.length ≤ 9223372036854775807) :
    Calls Tryz.prog 79 #[.slice a l.length c, .slice b m.length d] w (RetQ w (.bool (decide (l = m)))) := by
  go_enter Tryz.func79, Tryz.ntmps79
  by_cases hlen : l.length = m.length
  · have hne : ((l.length : Int) != (m.length : Int)) = false := by simp [hlen]
    have HL : Hid (l.length = m.length) := Lib.hid hlen
    clear hlen
    go_wp2
    go_loopw [5] (fun i wr => ∃ k n : Nat, k ≤ l.length ∧ i = .int .i64 k ∧ wr = w.drewN n ∧ Hid (l.take k = m.take k)) (fun i _ => l.length - (intOf i).toNat)
    case atStart => exact ⟨0, 0, by omega, rfl, rfl, rfl⟩
    case round =>
      obtain ⟨k, n, hk, rfl, rfl, hE⟩ := hrel
      by_cases hlt : k < l.length
      · have hlm : k < m.length := by have := HL.out; omega
        obtain ⟨g1, o1, rfl, q1, c1⟩ := Ints.pos ha (by omega)
        obtain ⟨g2, o2, rfl, q2, c2⟩ := Ints.pos hb (by omega)
        have d1 := c1 w rfl k hlt
        have d2 := c2 w rfl k hlm
        clear c1 c2
        by_cases he : nth l k = nth m k
        · have hb : (nth l k != nth m k) = false := by simp [he]
          have hE' : Hid (l.take (k + 1) = m.take (k + 1)) := (by rw [take_succ_nth l k hlt, take_succ_nth m k hlm, hE.out, he] : l.take (k + 1) = m.take (k + 1))
          clear he
          go_wp2
          go_quiet (fail)
          go_wp2
          go_roundw
          case rel => exact ⟨k + 1, n + nq, by omega, by go_num, by simp, hE'⟩
          case measure => simp [intOf]; omega
        · have hb : (nth l k != nth m k) = true := by simp [he]
          have hX : Hid (decide (l = m) = false) := (by
            apply decide_eq_false
            intro h
            exact he (by rw [h]) : decide (l = m) = false)
          clear he
          go_wp2
          go_quiet (fail)
          go_wp2
          go_ret
          exact RetQ.mk (show Value.bool false = _ from (by rw [hX.out])) rfl (n + nq) (by simp)
      · obtain rfl : k = l.length := by omega
        have hX : Hid (decide (l = m) = true) := (by
          apply decide_eq_true
          have h := hE.out
          rw [List.take_length, HL.out, List.take_length] at h
          exact h : decide (l = m) = true)
        go_wp2
        go_ret
        exact RetQ.mk (show Value.bool true = _ from (by rw [hX.out])) rfl (n) (rfl)
  · have hne : ((l.length : Int) != (m.length : Int)) = true := by simp; omega
    have hX : Hid (decide (l = m) = false) := (by
      apply decide_eq_false
      intro h
      exact hlen (by rw [h]) : decide (l = m) = false)
    clear hlen
    go_wp2
    go_ret
    exact RetQ.mk (show Value.bool false = _ from (by rw [hX.out])) rfl (0) (rfl)
theorem ints_any' {n k : Nat} (l m : List Int) (a b : Option Addr) (c d : Nat) (w : World) (ha : Ints w.heap a l) (hb : Ints w.heap b m) (hl : l.length ≤ 9223372036854775807) (hm : m.length ≤ 9223372036854775807) (hn : n = l.length) (hk : k = m.length) :
    Calls Tryz.prog 79 #[.slice a n c, .slice b k d] w (RetQ w (.bool (decide (l = m)))) := by
  subst hn; subst hk; exact ints_any l m a b c d w ha hb hl hm
end Go.Proofs.YtfglidaicjjpfaaGreatDoor
end

section
namespace Go.Proofs.YtfglidaicjjpfaaGreatDoor
open Go.RowKit

/-- Ways that are handed in. -/
structure BestsR (H : Array Obj) (a : Option Addr) (l : List BestR) : Prop where
  top : Recs H a 4 BestR.cells l
  row : ∀ x ∈ l, Ints H x.A x.h
  len : ∀ x ∈ l, x.h.length ≤ 9223372036854775807
theorem BestsR.fr0 {S : Nat → Prop} {w w' : World} {a : Option Addr} {l : List BestR} (h : BestsR w.heap a l) (f : Fr S w w') (hs : ∀ k, k < w.heap.size → ¬ S k) : BestsR w'.heap a l :=
  ⟨h.top.fr0 f hs, fun x hx => (h.row x hx).fr0 f hs, h.len⟩
/-- Are two ways the same? -/
def bEq (x y : BestR) : Bool := decide (x.h = y.h ∧ x.a = y.a ∧ x.n = y.n ∧ x.m = y.m)
set_option maxRecDepth 100000 in
set_option maxHeartbeats 1000000 in
theorem sbest_any (x y : BestR) (w : World) (hx : Ints w.heap x.A x.h) (hy : Ints w.heap y.A y.h) (lx : x.h.length ≤ 9223372036854775807) (ly : y.h.length ≤ 9223372036854775807) :
    Calls Tryz.prog 48 #[.agg #[.int .u32 x.a, .int .i64 x.n, .int .i64 x.m, .slice x.A x.h.length x.C], .agg #[.int .u32 y.a, .int .i64 y.n, .int .i64 y.m, .slice y.A y.h.length y.C]] w (RetV w (.bool (bEq x y))) := by
  obtain ⟨xa, xn, xm, xh, xA, xC⟩ := x
  obtain ⟨ya, yn, ym, yh, yA, yC⟩ := y
  simp only at hx hy lx ly ⊢
  have hF := ((Fr.refl (fun _ => False) w).alloc (.cells #[.int .u32 xa, .int .i64 xn, .int .i64 xm, .slice xA xh.length xC] 66)).alloc (.cells #[.int .u32 ya, .int .i64 yn, .int .i64 ym, .slice yA yh.length yC] 66)
  have hx' := hx.fr0 hF (fun _ _ h => h)
  have hy' := hy.fr0 hF (fun _ _ h => h)
  have hbx := (Blk.made w 66 [.int .u32 xa, .int .i64 xn, .int .i64 xm, .slice xA xh.length xC]).alloc (.cells #[.int .u32 ya, .int .i64 yn, .int .i64 ym, .slice yA yh.length yC] 66)
  have hby := Blk.made (w.alloc (.cells #[.int .u32 xa, .int .i64 xn, .int .i64 xm, .slice xA xh.length xC] 66)) 66 [.int .u32 ya, .int .i64 yn, .int .i64 ym, .slice yA yh.length yC]
  obtain ⟨B, hB⟩ : ∃ B, B = bEq ⟨xa, xn, xm, xh, xA, xC⟩ ⟨ya, yn, ym, yh, yA, yC⟩ := ⟨_, rfl⟩
  rw [← hB]
  have HB := Lib.hid hB
  have HBX := Lib.hid hbx
  have HBY := Lib.hid hby
  clear hB hx hy hbx hby
  go_enter Tryz.func48, Tryz.ntmps48
  go_wp2_with (fail)
  refine (ints_any' xh yh _ _ _ _ _ hx' hy' lx ly rfl rfl).mono ?_
  rintro e1 w1 ⟨rfl, n1, rfl⟩
  have hF1 := hF.drewN n1
  by_cases hh : xh = yh
  · rw [decide_eq_true hh]
    by_cases hn : xa = ya ∧ xn = yn
    · have e1 : (xa == ya) = true := by simp [hn.1]
      have e2 : (xn == yn) = true := by simp [hn.2]
      by_cases hm : xm = ym
      · have e3 : (xm == ym) = true := by simp [hm]
        have HV := Lib.hid (HB.out.trans (show _ = true from decide_eq_true ⟨hh, hn.1, hn.2, hm⟩))
        clear hh hn hm
        go_wp2
        go_ret
        exact RetV.mk (show Value.bool true = _ by rw [HV.out]) rfl hF1
      · have e3 : (xm == ym) = false := by simp [hm]
        have HV := Lib.hid (HB.out.trans (show _ = false from decide_eq_false fun h => hm h.2.2.2))
        clear hh hn hm
        go_wp2
        go_ret
        exact RetV.mk (show Value.bool false = _ by rw [HV.out]) rfl hF1
    · have q : (xa == ya) = false ∨ ((xa == ya) = true ∧ (xn == yn) = false) := by
        simp only [beq_eq_false_iff_ne, beq_iff_eq, ne_eq]
        omega
      have HV := Lib.hid (HB.out.trans (show _ = false from decide_eq_false fun h => hn ⟨h.2.1, h.2.2.1⟩))
      clear hh hn
      rcases q with e1 | ⟨e1, e2⟩
      all_goals
        go_wp2
        go_ret
        exact RetV.mk (show Value.bool false = _ by rw [HV.out]) rfl hF1
  · rw [decide_eq_false hh]
    have HV := Lib.hid (HB.out.trans (show _ = false from decide_eq_false fun h => hh h.1))
    clear hh
    go_wp2
    go_ret
    exact RetV.mk (show Value.bool false = _ by rw [HV.out]) rfl hF1

set_option maxRecDepth 100000 in
set_option maxHeartbeats 1000000 in
theorem sbests_true {n k : Nat} (l m : List BestR) (a b : Option Addr) (c d : Nat) (w : World) (ha : BestsR w.heap a l) (hb : BestsR w.heap b m) (hE : Hid (∀ i, i < l.length → bEq (nth l i) (nth m i) = true)) (hlm : m.length = l.length) (hl : l.length ≤ 9223372036854775806) (hn : n = l.length) (hk : k = l.length) :
    Calls Tryz.prog 12 #[.slice a n c, .slice b k d] w (RetV w (.bool true)) := by
  subst hn
  subst hk
  have HA := Lib.hid ha
  have HBb := Lib.hid hb
  have HLM := Lib.hid hlm
  clear ha hb hlm
  go_enter Tryz.func12, Tryz.ntmps12
  go_wp2
  go_loopw [5] (fun i wr => ∃ k : Nat, k ≤ l.length ∧ i = .int .i64 k ∧ Fr (fun _ => False) w wr) (fun i _ => l.length - (intOf i).toNat)
  case atStart => exact ⟨0, by omega, rfl, Fr.refl _ _⟩
  case round =>
    obtain ⟨k, hk, rfl, hF⟩ := hrel
    by_cases hlt : k < l.length
    · have hA := HA.out.fr0 hF (fun _ _ h => h)
      have hB := HBb.out.fr0 hF (fun _ _ h => h)
      have hlm : k < m.length := by have := HLM.out; omega
      obtain ⟨g1, o1, rfl, q1, c1⟩ := Recs.pos hA.top BestR.cells_len (by omega) (by omega)
      obtain ⟨g2, o2, rfl, q2, c2⟩ := Recs.pos hB.top BestR.cells_len (by omega) (by omega)
      have d0 := c1 wr rfl k 0 hlt (by omega)
      have d1 := c1 wr rfl k 1 hlt (by omega)
      have d2 := c1 wr rfl k 2 hlt (by omega)
      have d3 := c1 wr rfl k 3 hlt (by omega)
      have f0 := c2 wr rfl k 0 hlm (by omega)
      have f1 := c2 wr rfl k 1 hlm (by omega)
      have f2 := c2 wr rfl k 2 hlm (by omega)
      have f3 := c2 wr rfl k 3 hlm (by omega)
      have hx := hA.row _ (nth_mem l k hlt)
      have hy := hB.row _ (nth_mem m k hlm)
      have lx := hA.len _ (nth_mem l k hlt)
      have ly := hB.len _ (nth_mem m k hlm)
      have he := hE.out k hlt
      obtain ⟨x, hxe⟩ : ∃ x, x = nth l k := ⟨_, rfl⟩
      obtain ⟨y, hye⟩ : ∃ y, y = nth m k := ⟨_, rfl⟩
      rw [← hxe] at d0 d1 d2 d3 hx lx he
      rw [← hye] at f0 f1 f2 f3 hy ly he
      simp only [BestR.cells, List.getElem?_cons_zero, List.getElem?_cons_succ, ← Nat.add_assoc, Nat.add_zero] at d0 d1 d2 d3 f0 f1 f2 f3
      have HEq := Lib.hid he
      clear c1 c2 hxe hye hA hB he
      go_wp2
      (refine wp_region_mix (fun _ => True) 8 (by kernel_rfl) (by kernel_rfl) (trivial) ?_; simp only [List.take_succ_cons, List.take_zero, List.drop_succ_cons, List.drop_zero])
      (refine wpMix_earlyN 8 (by kernel_rfl) (by kernel_rfl) ?_; simp only [List.take_succ_cons, List.take_zero, List.drop_succ_cons, List.drop_zero]; (repeat (go_big_quiet_step (fail))); refine wpQuiet_nil ?_)
      refine wpMix_nil ?_
      go_wp2_with (fail)
      refine (sbest_any x y wr.drew hx hy lx ly).mono ?_
      rintro e1 w1 ⟨rfl, hF1⟩
      rw [HEq.out]
      have hF01 := hF.drew.trans hF1
      go_wp2
      go_roundw
      case rel => exact ⟨k + 1, by omega, by go_num, hF01⟩
      case measure => simp [intOf]; omega
    · obtain rfl : k = l.length := by omega
      go_wp2
      go_ret
      exact RetV.mk rfl rfl hF
end Go.Proofs.YtfglidaicjjpfaaGreatDoor
end

section
namespace Go.Proofs.YtfglidaicjjpfaaGreatDoor
open Go.RowKit

theorem Alls.tells {base : Nat} {H : Array Obj} {R : List BestR} {aR : Option Addr} {cR : Nat} {ob : Option Nat} (h : Alls base H R aR cR ob) (h4 : ∀ x ∈ R, x.h.length ≤ 4) : BestsR H aR R :=
  ⟨h.own.rd, fun x hx => by obtain ⟨o, h1, -⟩ := h.row x hx; exact h1.rd, fun x hx => by have := h4 x hx; omega⟩
theorem TabR.h4 {w : World} {base : Nat} {D : DC} {now : Int} {l : List Td} {bad : Int} (hD : Dmn w base D now l bad) {R : List BestR} (h : TabR D l R) : ∀ x ∈ R, x.h.length ≤ 4 := fun x hx => by
  have h1 := h.val x hx
  have h2 : x.h = _ := congrArg Prod.snd h1
  rw [h2]
  exact (bestD_bd hD _).2.2.1
theorem Alls.dm {base : Nat} {w w' : World} {R : List BestR} {aR : Option Addr} {cR : Nat} {ob : Option Nat} {D : DC} (h : Alls base w.heap R aR cR ob) (f : Fr (fun k => k = D.bd ∨ k = D.br) w w') (h1 : D.bd < base) (h2 : D.br < base) : Alls base w'.heap R aR cR ob :=
  h.frN f (fun g hg e => by have := h.new g hg; omega) (fun x hx b off e hb => by
    obtain ⟨o, q1, q2⟩ := h.row x hx
    rcases q1.is with ⟨q, _⟩ | ⟨g', _, e', e2, _⟩
    · rw [q] at e; cases e
    · rw [e'] at e; cases e; have := (q2 _ e2).1; omega)
theorem mem_at {α : Type} [Inhabited α] {x : α} : ∀ {l : List α}, x ∈ l → ∃ i, i < l.length ∧ nth l i = x := by
  intro l
  induction l with
  | nil => intro h; cases h
  | cons y l ih =>
    intro h
    rcases List.mem_cons.1 h with rfl | h
    · exact ⟨0, by simp, rfl⟩
    · obtain ⟨i, h1, h2⟩ := ih h
      exact ⟨i + 1, by simpa using h1, h2⟩
/-- What is heard hangs on costs and own nets alone. -/
theorem hearM_same {D E : DC} (hc : D.costs = E.costs) (ho : D.own = E.own) (now : Int) (l : List Td) (bad : Int) (b : List Int) (f t : Int) : hearM D now l bad b f t = hearM E now l bad b f t := by
  cases D; cases E; simp only at hc ho; subst hc; subst ho; rfl
theorem bestD_same {D E : DC} (hc : D.costs = E.costs) (ho : D.own = E.own) (l : List Td) (q : Nt) : bestD D l q = bestD E l q := by
  cases D; cases E; simp only at hc ho; subst hc; subst ho; rfl
theorem tab_same {D E : DC} (hc : D.costs = E.costs) (ho : D.own = E.own) {l : List Td} {R S : List BestR} (hR : TabR D l R) (hS : TabR E l S) : S.length = R.length ∧ ∀ i, i < R.length → bEq (nth R i) (nth S i) = true := by
  have hn : R.map bnet = S.map bnet := nsx hR.srt hS.srt (fun q => by rw [hR.mem, hS.mem, bestD_same hc ho, ho])
  have hl : S.length = R.length := by have := congrArg List.length hn; simpa using this.symm
  refine ⟨hl, fun i hi => ?_⟩
  have h1 : nth (R.map bnet) i = nth (S.map bnet) i := by rw [hn]
  rw [nth_map _ _ _ hi, nth_map _ _ _ (by omega)] at h1
  have hx := hR.val _ (nth_mem R i hi)
  have hy := hS.val _ (nth_mem S i (by omega))
  rw [bestD_same hc ho, h1, ← hy] at hx
  simp only [Prod.mk.injEq] at hx
  exact decide_eq_true ⟨hx.2, congrArg Nt.a h1, congrArg Nt.n h1, hx.1⟩
set_option maxRecDepth 100000 in
theorem dbad_any {base : Nat} {D : DC} {now : Int} {l : List Td} {bad : Int} (w : World) (hD : Dmn w base D now l bad) : Calls Tryz.prog 10 #[.pointer (some ⟨D.bd, 0, none⟩)] w (RetS w (.int .i64 bad)) := by
  obtain ⟨-, -, -, c3, -, cl⟩ := hD.cells
  go_enter Tryz.func10, Tryz.ntmps10
  go_wp2
  go_ret
  exact RetS.mk rfl rfl rfl
end Go.Proofs.YtfglidaicjjpfaaGreatDoor
end
