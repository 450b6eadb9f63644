import Derived.Test.YtfglidaicjjpfaaGreatDoorQTel19
import Derived.Test.YtfglidaicjjpfaaGreatDoorQTel21
import Derived.Test.YtfglidaicjjpfaaGreatDoorQTel24
import Derived.Test.YtfglidaicjjpfaaGreatDoorQTel7
import Derived.Test.YtfglidaicjjpfaaGreatDoorQTel6
import Derived.Test.YtfglidaicjjpfaaGreatDoorErr
import Derived.Test.YtfglidaicjjpfaaGreatDoorQTel10
import Derived.Test.YtfglidaicjjpfaaGreatDoorNetW
import Derived.Test.YtfglidaicjjpfaaGreatDoorQTel20
section
namespace Go
theorem lensub {l m : List Nt} (hn : l.Nodup) (hs : ∀ x ∈ l, x ∈ m) : l.length ≤ m.length := by
  induction l generalizing m with
  | nil => exact Nat.zero_le _
  | cons x l ih =>
    obtain ⟨h1, h2⟩ := List.nodup_cons.1 hn
    have hx := hs x (by simp)
    have := ih (m := m.erase x) h2 (fun y hy => (List.mem_erase_of_ne (fun e : y = x => h1 (by rw [← e]; exact hy))).2 (hs y (by simp [hy])))
    have hl := List.length_erase_of_mem hx
    have hp := List.length_pos_of_mem hx
    simp only [List.length_cons]
    omega
theorem nsx {l m : List Nt} (hl : NSorted l) (hm : NSorted m) (h : ∀ x, x ∈ l ↔ x ∈ m) : l = m := by
  induction l generalizing m with
  | nil =>
    cases m with
    | nil => rfl
    | cons y m => exact absurd ((h y).2 (by simp)) (by simp)
  | cons x l ih =>
    cases m with
    | nil => exact absurd ((h x).1 (by simp)) (by simp)
    | cons y m =>
      obtain ⟨h1, h2⟩ := List.pairwise_cons.1 hl
      obtain ⟨h3, h4⟩ := List.pairwise_cons.1 hm
      have hxy : x = y := by
        rcases List.mem_cons.1 ((h x).1 (by simp)) with e | e
        · exact e
        · rcases List.mem_cons.1 ((h y).2 (by simp)) with e2 | e2
          · exact e2.symm
          · exact absurd (h1 y e2) (ntLt_asymm (h3 x e))
      subst hxy
      congr 1
      refine ih h2 h4 (fun z => ?_)
      constructor
      · intro hz
        rcases List.mem_cons.1 ((h z).1 (by simp [hz])) with e | e
        · subst e; exact absurd (h1 z hz) (ntLt_irrefl z)
        · exact e
      · intro hz
        rcases List.mem_cons.1 ((h z).2 (by simp [hz])) with e | e
        · subst e; exact absurd (h3 z hz) (ntLt_irrefl z)
        · exact e
theorem nsn {l : List Nt} (h : NSorted l) : l.Nodup := List.Pairwise.imp (fun {a b} (hab : ntLt a b) (e : a = b) => ntLt_irrefl a (by rw [← e] at hab; exact hab)) h
end Go
namespace Go.Proofs.YtfglidaicjjpfaaGreatDoor
open Go.RowKit
theorem TabR.own {D : DC} {l : List Td} {R : List BestR} (h : TabR D l R) {q : Nt} (hq : q ∈ D.own) : q ∈ R.map bnet := (h.mem q).2 ⟨.inl hq, by rw [bestD_own hq]; decide⟩
theorem TabR.ge {D : DC} {l : List Td} {R : List BestR} (h : TabR D l R) (hn : D.own.Nodup) : D.own.length ≤ R.length := by
  have := lensub hn (fun x hx => h.own hx)
  simpa using this
/-- Where all that was heard is that there is no way. -/
theorem bestM_16 {l : List Hea} {costs : List Int} (a n : Int) (h : ∀ x ∈ l, x.m = 16) (hc : ∀ c ∈ costs, 1 ≤ c ∧ c ≤ 16) : bestM l costs a n = (16, []) := by
  have hl : ∀ x ∈ l, 1 ≤ x.m ∧ x.m ≤ 16 := fun x hx => by rw [h x hx]; decide
  have h1 : ∀ f, lastOf l f a n = 16 := fun f => by
    unfold lastOf
    have : ∀ m, lastO l f a n = some m → m = 16 := fun m hm => by
      have key : ∀ l : List Hea, (∀ x ∈ l, x.m = 16) → ∀ m, lastO l f a n = some m → m = 16 := by
        intro l
        refine snocI (P := fun l => (∀ x ∈ l, x.m = 16) → ∀ m, lastO l f a n = some m → m = 16) (fun _ m hm => by cases hm) (fun l x ih hx m hm => ?_) l
        rw [lastO_snoc] at hm
        split at hm
        · cases hm; exact hx x (by simp)
        · exact ih (fun y hy => hx y (by simp [hy])) m hm
      exact key l h m hm
    cases ho : lastO l f a n with
    | none => rfl
    | some m => exact this m ho
  rw [bestM_eq a n hl hc]
  have h2 : ∀ k, k < costs.length → pOf l costs a n k = 16 := fun k hk => by
    unfold pOf plusM
    rw [h1]
    have := hc _ (nth_mem costs k hk)
    rw [if_neg (by omega)]
  have h3 : ∀ k, k ≤ costs.length → mK (pOf l costs a n) k = 16 := by
    intro k
    induction k with
    | zero => intro _; rfl
    | succ k ih =>
      intro hk
      unfold mK
      rw [ih (by omega), h2 k (by omega)]
      rfl
  rw [h3 _ (Nat.le_refl _), hopsK_16 _ (by decide)]
theorem hearM_0 {D : DC} {l : List Td} {bad : Int} {b : List Int} {f : Int} : (hearM D 0 l bad b f 0).now = 0 ∧ bad ≤ (hearM D 0 l bad b f 0).bad ∧ (hearM D 0 l bad b f 0).bad ≤ bad + 1 := by
  unfold hearM
  split
  · exact ⟨rfl, by simp only; omega, by simp only; omega⟩
  · split
    · exact ⟨rfl, by simp only; omega, by simp only; omega⟩
    · exact ⟨rfl, by simp only; omega, by simp only; omega⟩
    · exact ⟨rfl, by simp only; omega, by simp only; omega⟩
/-- A router's blocks are its own: what was there ahead of it stays. -/
theorem Fr.dm {w0 w w' : World} {D : DC} (h : Fr (fun _ => False) w0 w) (f : Fr (fun k => k = D.bd ∨ k = D.br) w w') (h1 : w0.heap.size ≤ D.bd) (h2 : w0.heap.size ≤ D.br) : Fr (fun _ => False) w0 w' := h.trans' f (fun k hk e => by omega)
set_option maxRecDepth 100000 in
set_option maxHeartbeats 2000000 in
theorem routed_any (w : World) : Calls Tryz.prog 5 #[] w (RetV w (.bool true)) := by
  go_enter Tryz.func5, Tryz.ntmps5
  go_wp2_with (fail)
  refine (ten3_any _).mono ?_
  rintro e1 w1 ⟨rfl, hw1⟩
  have hC : Ints w1.heap (some ⟨w.heap.size, 0, none⟩) [1, 2] := by
    rw [hw1]; exact ((Ownd.made w 3 1 2 [.int .i64 1, .int .i64 2] rfl (by decide)).alloc _).rd
  have hF1 : Fr (fun _ => False) w w1 := by rw [hw1]; exact ((Fr.refl _ _).alloc _).alloc _
  have hN : Recs (w1.alloc (.cells #[.int .u32 167772160, .int .i64 8] 52)).heap (some ⟨w1.heap.size, 0, none⟩) 2 Nt.cells [⟨167772160, 8⟩] := (Ownd.made w1 52 2 1 (Nt.cells ⟨167772160, 8⟩) rfl (by decide)).rd
  have hFa := (Fr.refl (fun _ => False) w1).alloc (.cells #[.int .u32 167772160, .int .i64 8] 52)
  clear hw1
  go_wp2_with (fail)
  refine (dnew_any [1, 2] _ 2 [⟨167772160, 8⟩] _ 1 _ (hC.fr hFa (fun _ _ _ h => h)) (by decide) (fun h => nomatch h) hN (fun x hx => by rw [List.mem_singleton.1 hx]; decide) (by decide) (fun h => nomatch h) (by decide) rfl rfl).mono ?_
  intro e2 w2 R2
  obtain ⟨D, rfl, hDc, hDo, hlo, -, hD, hF2⟩ := R2.okE (by decide)
  have hF02 := (hF1.trans hFa).trans hF2
  clear R2 hC hN hF1
  go_wp2_with (fail)
  refine (dtab_any w2 (hD w2.heap.size (Nat.le_refl _))).mono ?_
  rintro e3 w3 ⟨R, aR, cR, ob, rfl, hA, hR, hF3⟩
  have hk : R.map bnet = [⟨167772160, 8⟩] := nsx hR.srt (by simp) (fun q => by
    rw [hR.mem, hDo]
    constructor
    · rintro ⟨h | ⟨x, hx, _⟩, _⟩
      · exact h
      · cases hx
    · intro h
      exact ⟨.inl h, by rw [bestD_own (by rw [hDo]; exact h)]; decide⟩)
  have hR1 : R.length = 1 := by have := congrArg List.length hk; simpa using this
  match R, hR1 with
  | [r], _ =>
    have hr : bnet r = ⟨167772160, 8⟩ := by simpa using hk
    have hv := hR.val r (by simp)
    rw [bestD_own (by rw [hDo, hr]; simp)] at hv
    obtain ⟨g, rfl, -, hgl, hgc, -⟩ := hA.own.pos (by simp)
    have d := hgc 2 (by simp)
    have hm : r.m = 1 := congrArg Prod.fst hv
    simp only [List.flatMap_cons, List.flatMap_nil, List.append_nil, BestR.cells, List.getElem?_cons_succ, List.getElem?_cons_zero] at d
    rw [hm] at d
    have hFe := hF02.trans hF3
    clear hgc hA hR hv hm hk hr hD hF3 hF02 hF2
    go_wp2
    go_ret
    exact RetV.mk rfl rfl hFe
end Go.Proofs.YtfglidaicjjpfaaGreatDoor
end

section
namespace Go.Proofs.YtfglidaicjjpfaaGreatDoor
open Go.RowKit

set_option maxRecDepth 100000 in
set_option maxHeartbeats 1000000 in
theorem ints_any (l m : List Int) (a b : Option Addr) (c d : Nat) (w : World) (ha : Ints w.heap a l) (hb : Ints w.heap b m) (hl : l.length ≤ 9223372036854775807) (hm : m.length ≤ 9223372036854775807) :
    Calls Tryz.prog 79 #[.slice a l.length c, .slice b m.length d] w (RetQ w (.bool (decide (l = m)))) := by
  go_enter Tryz.func79, Tryz.ntmps79
  by_cases hlen : l.length = m.length
  · have hne : ((l.length : Int) != (m.length : Int)) = false := by simp [hlen]
    have HL : Hid (l.length = m.length) := Lib.hid hlen
    clear hlen
    go_wp2
    go_loopw [5] (fun i wr => ∃ k n : Nat, k ≤ l.length ∧ i = .int .i64 k ∧ wr = w.drewN n ∧ Hid (l.take k = m.take k)) (fun i _ => l.length - (intOf i).toNat)
    case atStart => exact ⟨0, 0, by omega, rfl, rfl, rfl⟩
    case round =>
      obtain ⟨k, n, hk, rfl, rfl, hE⟩ := hrel
      by_cases hlt : k < l.length
      · have hlm : k < m.length := by have := HL.out; omega
        obtain ⟨g1, o1, rfl, q1, c1⟩ := Ints.pos ha (by omega)
        obtain ⟨g2, o2, rfl, q2, c2⟩ := Ints.pos hb (by omega)
        have d1 := c1 w rfl k hlt
        have d2 := c2 w rfl k hlm
        clear c1 c2
        by_cases he : nth l k = nth m k
        · have hb : (nth l k != nth m k) = false := by simp [he]
          have hE' : Hid (l.take (k + 1) = m.take (k + 1)) := (by rw [take_succ_nth l k hlt, take_succ_nth m k hlm, hE.out, he] : l.take (k + 1) = m.take (k + 1))
          clear he
          go_wp2
          go_quiet (fail)
          go_wp2
          go_roundw
          case rel => exact ⟨k + 1, n + nq, by omega, by go_num, by simp, hE'⟩
          case measure => simp [intOf]; omega
        · have hb : (nth l k != nth m k) = true := by simp [he]
          have hX : Hid (decide (l = m) = false) := (by
            apply decide_eq_false
            intro h
            exact he (by rw [h]) : decide (l = m) = false)
          clear he
          go_wp2
          go_quiet (fail)
          go_wp2
          go_ret
          exact RetQ.mk (show Value.bool false = _ from (by rw [hX.out])) rfl (n + nq) (by simp)
      · obtain rfl : k = l.length := by omega
        have hX : Hid (decide (l = m) = true) := (by
          apply decide_eq_true
          have h := hE.out
          rw [List.take_length, HL.out, List.take_length] at h
          exact h : decide (l = m) = true)
        go_wp2
        go_ret
        exact RetQ.mk (show Value.bool true = _ from (by rw [hX.out])) rfl (n) (rfl)
  · have hne : ((l.length : Int) != (m.length : Int)) = true := by simp; omega
    have hX : Hid (decide (l = m) = false) := (by
      apply decide_eq_false
      intro h
      exact hlen (by rw [h]) : decide (l = m) = false)
    clear hlen
    go_wp2
    go_ret
    exact RetQ.mk (show Value.bool false = _ from (by rw [hX.out])) rfl (0) (rfl)
theorem ints_any' {n k : Nat} (l m : List Int) (a b : Option Addr) (c d : Nat) (w : World) (ha : Ints w.heap a l) (hb : Ints w.heap b m) (hl : l.length ≤ 9223372036854775807) (hm : m.length ≤ 9223372036854775807) (hn : n = l.length) (hk : k = m.length) :
    Calls Tryz.prog 79 #[.slice a n c, .slice b k d] w (RetQ w (.bool (decide (l = m)))) := by
  subst hn; subst hk; exact ints_any l m a b c d w ha hb hl hm
end Go.Proofs.YtfglidaicjjpfaaGreatDoor
end

section
namespace Go.Proofs.YtfglidaicjjpfaaGreatDoor
open Go.RowKit

/-- Ways that are handed in. -/
structure BestsR (H : Array Obj) (a : Option Addr) (l : List BestR) : Prop where
  top : Recs H a 4 BestR.cells l
  row : ∀ x ∈ l, Ints H x.A x.h
  len : ∀ x ∈ l, x.h.length ≤ 9223372036854775807
theorem BestsR.fr0 {S : Nat → Prop} {w w' : World} {a : Option Addr} {l : List BestR} (h : BestsR w.heap a l) (f : Fr S w w') (hs : ∀ k, k < w.heap.size → ¬ S k) : BestsR w'.heap a l :=
  ⟨h.top.fr0 f hs, fun x hx => (h.row x hx).fr0 f hs, h.len⟩
/-- Are two ways the same? -/
def bEq (x y : BestR) : Bool := decide (x.h = y.h ∧ x.a = y.a ∧ x.n = y.n ∧ x.m = y.m)
set_option maxRecDepth 100000 in
set_option maxHeartbeats 1000000 in
theorem sbest_any (x y : BestR) (w : World) (hx : Ints w.heap x.A x.h) (hy : Ints w.heap y.A y.h) (lx : x.h.length ≤ 9223372036854775807) (ly : y.h.length ≤ 9223372036854775807) :
    Calls Tryz.prog 48 #[.agg #[.int .u32 x.a, .int .i64 x.n, .int .i64 x.m, .slice x.A x.h.length x.C], .agg #[.int .u32 y.a, .int .i64 y.n, .int .i64 y.m, .slice y.A y.h.length y.C]] w (RetV w (.bool (bEq x y))) := by
  obtain ⟨xa, xn, xm, xh, xA, xC⟩ := x
  obtain ⟨ya, yn, ym, yh, yA, yC⟩ := y
  simp only at hx hy lx ly ⊢
  have hF := ((Fr.refl (fun _ => False) w).alloc (.cells #[.int .u32 xa, .int .i64 xn, .int .i64 xm, .slice xA xh.length xC] 66)).alloc (.cells #[.int .u32 ya, .int .i64 yn, .int .i64 ym, .slice yA yh.length yC] 66)
  have hx' := hx.fr0 hF (fun _ _ h => h)
  have hy' := hy.fr0 hF (fun _ _ h => h)
  have hbx := (Blk.made w 66 [.int .u32 xa, .int .i64 xn, .int .i64 xm, .slice xA xh.length xC]).alloc (.cells #[.int .u32 ya, .int .i64 yn, .int .i64 ym, .slice yA yh.length yC] 66)
  have hby := Blk.made (w.alloc (.cells #[.int .u32 xa, .int .i64 xn, .int .i64 xm, .slice xA xh.length xC] 66)) 66 [.int .u32 ya, .int .i64 yn, .int .i64 ym, .slice yA yh.length yC]
  obtain ⟨B, hB⟩ : ∃ B, B = bEq ⟨xa, xn, xm, xh, xA, xC⟩ ⟨ya, yn, ym, yh, yA, yC⟩ := ⟨_, rfl⟩
  rw [← hB]
  have HB := Lib.hid hB
  have HBX := Lib.hid hbx
  have HBY := Lib.hid hby
  clear hB hx hy hbx hby
  go_enter Tryz.func48, Tryz.ntmps48
  go_wp2_with (fail)
  refine (ints_any' xh yh _ _ _ _ _ hx' hy' lx ly rfl rfl).mono ?_
  rintro e1 w1 ⟨rfl, n1, rfl⟩
  have hF1 := hF.drewN n1
  by_cases hh : xh = yh
  · rw [decide_eq_true hh]
    by_cases hn : xa = ya ∧ xn = yn
    · have e1 : (xa == ya) = true := by simp [hn.1]
      have e2 : (xn == yn) = true := by simp [hn.2]
      by_cases hm : xm = ym
      · have e3 : (xm == ym) = true := by simp [hm]
        have HV := Lib.hid (HB.out.trans (show _ = true from decide_eq_true ⟨hh, hn.1, hn.2, hm⟩))
        clear hh hn hm
        go_wp2
        go_ret
        exact RetV.mk (show Value.bool true = _ by rw [HV.out]) rfl hF1
      · have e3 : (xm == ym) = false := by simp [hm]
        have HV := Lib.hid (HB.out.trans (show _ = false from decide_eq_false fun h => hm h.2.2.2))
        clear hh hn hm
        go_wp2
        go_ret
        exact RetV.mk (show Value.bool false = _ by rw [HV.out]) rfl hF1
    · have q : (xa == ya) = false ∨ ((xa == ya) = true ∧ (xn == yn) = false) := by
        simp only [beq_eq_false_iff_ne, beq_iff_eq, ne_eq]
        omega
      have HV := Lib.hid (HB.out.trans (show _ = false from decide_eq_false fun h => hn ⟨h.2.1, h.2.2.1⟩))
      clear hh hn
      rcases q with e1 | ⟨e1, e2⟩
      all_goals
        go_wp2
        go_ret
        exact RetV.mk (show Value.bool false = _ by rw [HV.out]) rfl hF1
  · rw [decide_eq_false hh]
    have HV := Lib.hid (HB.out.trans (show _ = false from decide_eq_false fun h => hh h.1))
    clear hh
    go_wp2
    go_ret
    exact RetV.mk (show Value.bool false = _ by rw [HV.out]) rfl hF1

set_option maxRecDepth 100000 in
set_option maxHeartbeats 1000000 in
theorem sbests_true {n k : Nat} (l m : List BestR) (a b : Option Addr) (c d : Nat) (w : World) (ha : BestsR w.heap a l) (hb : BestsR w.heap b m) (hE : Hid (∀ i, i < l.length → bEq (nth l i) (nth m i) = true)) (hlm : m.length = l.length) (hl : l.length ≤ 9223372036854775806) (hn : n = l.length) (hk : k = l.length) :
    Calls Tryz.prog 12 #[.slice a n c, .slice b k d] w (RetV w (.bool true)) := by
  subst hn
  subst hk
  have HA := Lib.hid ha
  have HBb := Lib.hid hb
  have HLM := Lib.hid hlm
  clear ha hb hlm
  go_enter Tryz.func12, Tryz.ntmps12
  go_wp2
  go_loopw [5] (fun i wr => ∃ k : Nat, k ≤ l.length ∧ i = .int .i64 k ∧ Fr (fun _ => False) w wr) (fun i _ => l.length - (intOf i).toNat)
  case atStart => exact ⟨0, by omega, rfl, Fr.refl _ _⟩
  case round =>
    obtain ⟨k, hk, rfl, hF⟩ := hrel
    by_cases hlt : k < l.length
    · have hA := HA.out.fr0 hF (fun _ _ h => h)
      have hB := HBb.out.fr0 hF (fun _ _ h => h)
      have hlm : k < m.length := by have := HLM.out; omega
      obtain ⟨g1, o1, rfl, q1, c1⟩ := Recs.pos hA.top BestR.cells_len (by omega) (by omega)
      obtain ⟨g2, o2, rfl, q2, c2⟩ := Recs.pos hB.top BestR.cells_len (by omega) (by omega)
      have d0 := c1 wr rfl k 0 hlt (by omega)
      have d1 := c1 wr rfl k 1 hlt (by omega)
      have d2 := c1 wr rfl k 2 hlt (by omega)
      have d3 := c1 wr rfl k 3 hlt (by omega)
      have f0 := c2 wr rfl k 0 hlm (by omega)
      have f1 := c2 wr rfl k 1 hlm (by omega)
      have f2 := c2 wr rfl k 2 hlm (by omega)
      have f3 := c2 wr rfl k 3 hlm (by omega)
      have hx := hA.row _ (nth_mem l k hlt)
      have hy := hB.row _ (nth_mem m k hlm)
      have lx := hA.len _ (nth_mem l k hlt)
      have ly := hB.len _ (nth_mem m k hlm)
      have he := hE.out k hlt
      obtain ⟨x, hxe⟩ : ∃ x, x = nth l k := ⟨_, rfl⟩
      obtain ⟨y, hye⟩ : ∃ y, y = nth m k := ⟨_, rfl⟩
      rw [← hxe] at d0 d1 d2 d3 hx lx he
      rw [← hye] at f0 f1 f2 f3 hy ly he
      simp only [BestR.cells, List.getElem?_cons_zero, List.getElem?_cons_succ, ← Nat.add_assoc, Nat.add_zero] at d0 d1 d2 d3 f0 f1 f2 f3
      have HEq := Lib.hid he
      clear c1 c2 hxe hye hA hB he
      go_wp2
      (refine wp_region_mix (fun _ => True) 8 (by kernel_rfl) (by kernel_rfl) (trivial) ?_; simp only [List.take_succ_cons, List.take_zero, List.drop_succ_cons, List.drop_zero])
      (refine wpMix_earlyN 8 (by kernel_rfl) (by kernel_rfl) ?_; simp only [List.take_succ_cons, List.take_zero, List.drop_succ_cons, List.drop_zero]; (repeat (go_big_quiet_step (fail))); refine wpQuiet_nil ?_)
      refine wpMix_nil ?_
      go_wp2_with (fail)
      refine (sbest_any x y wr.drew hx hy lx ly).mono ?_
      rintro e1 w1 ⟨rfl, hF1⟩
      rw [HEq.out]
      have hF01 := hF.drew.trans hF1
      go_wp2
      go_roundw
      case rel => exact ⟨k + 1, by omega, by go_num, hF01⟩
      case measure => simp [intOf]; omega
    · obtain rfl : k = l.length := by omega
      go_wp2
      go_ret
      exact RetV.mk rfl rfl hF
end Go.Proofs.YtfglidaicjjpfaaGreatDoor
end

section
namespace Go.Proofs.YtfglidaicjjpfaaGreatDoor
open Go.RowKit

theorem Alls.tells {base : Nat} {H : Array Obj} {R : List BestR} {aR : Option Addr} {cR : Nat} {ob : Option Nat} (h : Alls base H R aR cR ob) (h4 : ∀ x ∈ R, x.h.length ≤ 4) : BestsR H aR R :=
  ⟨h.own.rd, fun x hx => by obtain ⟨o, h1, -⟩ := h.row x hx; exact h1.rd, fun x hx => by have := h4 x hx; omega⟩
theorem TabR.h4 {w : World} {base : Nat} {D : DC} {now : Int} {l : List Td} {bad : Int} (hD : Dmn w base D now l bad) {R : List BestR} (h : TabR D l R) : ∀ x ∈ R, x.h.length ≤ 4 := fun x hx => by
  have h1 := h.val x hx
  have h2 : x.h = _ := congrArg Prod.snd h1
  rw [h2]
  exact (bestD_bd hD _).2.2.1
theorem Alls.dm {base : Nat} {w w' : World} {R : List BestR} {aR : Option Addr} {cR : Nat} {ob : Option Nat} {D : DC} (h : Alls base w.heap R aR cR ob) (f : Fr (fun k => k = D.bd ∨ k = D.br) w w') (h1 : D.bd < base) (h2 : D.br < base) : Alls base w'.heap R aR cR ob :=
  h.frN f (fun g hg e => by have := h.new g hg; omega) (fun x hx b off e hb => by
    obtain ⟨o, q1, q2⟩ := h.row x hx
    rcases q1.is with ⟨q, _⟩ | ⟨g', _, e', e2, _⟩
    · rw [q] at e; cases e
    · rw [e'] at e; cases e; have := (q2 _ e2).1; omega)
theorem mem_at {α : Type} [Inhabited α] {x : α} : ∀ {l : List α}, x ∈ l → ∃ i, i < l.length ∧ nth l i = x := by
  intro l
  induction l with
  | nil => intro h; cases h
  | cons y l ih =>
    intro h
    rcases List.mem_cons.1 h with rfl | h
    · exact ⟨0, by simp, rfl⟩
    · obtain ⟨i, h1, h2⟩ := ih h
      exact ⟨i + 1, by simpa using h1, h2⟩
/-- What is heard hangs on costs and own nets alone. -/
theorem hearM_same {D E : DC} (hc : D.costs = E.costs) (ho : D.own = E.own) (now : Int) (l : List Td) (bad : Int) (b : List Int) (f t : Int) : hearM D now l bad b f t = hearM E now l bad b f t := by
  cases D; cases E; simp only at hc ho; subst hc; subst ho; rfl
theorem bestD_same {D E : DC} (hc : D.costs = E.costs) (ho : D.own = E.own) (l : List Td) (q : Nt) : bestD D l q = bestD E l q := by
  cases D; cases E; simp only at hc ho; subst hc; subst ho; rfl
theorem tab_same {D E : DC} (hc : D.costs = E.costs) (ho : D.own = E.own) {l : List Td} {R S : List BestR} (hR : TabR D l R) (hS : TabR E l S) : S.length = R.length ∧ ∀ i, i < R.length → bEq (nth R i) (nth S i) = true := by
  have hn : R.map bnet = S.map bnet := nsx hR.srt hS.srt (fun q => by rw [hR.mem, hS.mem, bestD_same hc ho, ho])
  have hl : S.length = R.length := by have := congrArg List.length hn; simpa using this.symm
  refine ⟨hl, fun i hi => ?_⟩
  have h1 : nth (R.map bnet) i = nth (S.map bnet) i := by rw [hn]
  rw [nth_map _ _ _ hi, nth_map _ _ _ (by omega)] at h1
  have hx := hR.val _ (nth_mem R i hi)
  have hy := hS.val _ (nth_mem S i (by omega))
  rw [bestD_same hc ho, h1, ← hy] at hx
  simp only [Prod.mk.injEq] at hx
  exact decide_eq_true ⟨hx.2, congrArg Nt.a h1, congrArg Nt.n h1, hx.1⟩
set_option maxRecDepth 100000 in
theorem dbad_any {base : Nat} {D : DC} {now : Int} {l : List Td} {bad : Int} (w : World) (hD : Dmn w base D now l bad) : Calls Tryz.prog 10 #[.pointer (some ⟨D.bd, 0, none⟩)] w (RetS w (.int .i64 bad)) := by
  obtain ⟨-, -, -, c3, -, cl⟩ := hD.cells
  go_enter Tryz.func10, Tryz.ntmps10
  go_wp2
  go_ret
  exact RetS.mk rfl rfl rfl
end Go.Proofs.YtfglidaicjjpfaaGreatDoor
end

section
namespace Go.Proofs.YtfglidaicjjpfaaGreatDoor
open Go.RowKit


/-- Where it stands first; -1: nowhere. -/
def IdxI (w : World) (l : List Int) (x : Int) (e : Ending) (w' : World) : Prop := ∃ i : Int, e = .returned (.int .i64 i) ∧ w' = w ∧ decide (i ≥ 0) = decide (x ∈ l) ∧ ((x ∈ l ∧ ∃ k : Nat, i = k ∧ k < l.length ∧ nth l k = x ∧ x ∉ l.take k) ∨ (x ∉ l ∧ i = -1))
set_option maxRecDepth 100000 in
set_option maxHeartbeats 1000000 in
theorem index_int {n : Nat} (l : List Int) (a : Option Addr) (c : Nat) (x : Int) (w : World) (hr : Ints w.heap a l) (hn : n = l.length) (hl : n ≤ 9223372036854775807) :
    Calls Tryz.prog 100 #[.slice a n c, .int .i64 x] w (IdxI w l x) := by
  subst hn
  go_enter Tryz.func100, Tryz.ntmps100
  go_wp2
  go_loopw [8] (fun s8 wr => ∃ k : Nat, k ≤ l.length ∧ s8 = .int .i64 k ∧ wr = w ∧ Hid (x ∉ l.take k)) (fun s _ => l.length - (intOf s).toNat)
  case atStart => exact ⟨0, by omega, rfl, rfl, Lib.hid (by simp)⟩
  case round =>
    obtain ⟨k, hk, rfl, rfl, hno⟩ := hrel
    by_cases hkl : k < l.length
    · obtain ⟨b, off, rfl, hb, hc⟩ := Ints.pos hr (by omega)
      have d := hc wr rfl k hkl
      have htk := take_succ_nth l k hkl
      have hdr := drop_nth l k hkl
      obtain ⟨y, hy⟩ : ∃ y, y = nth l k := ⟨_, rfl⟩
      rw [← hy] at d htk hdr
      clear hc
      by_cases hxy : x = y
      · have hX : Hid (x ∈ l ∧ nth l k = x) := Lib.hid ⟨by rw [← List.take_append_drop k l, hdr, hxy]; simp, by rw [hxy]; exact hy.symm⟩
        have e1 : (x == y) = true := by simpa using hxy
        clear hxy htk hdr hy
        go_wp2
        go_ret
        exact ⟨k, rfl, rfl, by simp [hX.out.1], .inl ⟨hX.out.1, k, rfl, hkl, hX.out.2, hno.out⟩⟩
      · have e1 : (x == y) = false := by simpa using hxy
        have hno' : Hid (x ∉ l.take (k + 1)) := Lib.hid (by
          rw [htk, List.mem_append]
          rintro (h | h)
          · exact hno.out h
          · exact hxy (by simpa using h))
        clear hxy htk hdr hy
        go_wp2
        go_roundw
        case rel => exact ⟨k + 1, by omega, by go_num, by first | trivial | rfl, hno'⟩
        case measure => simp [intOf]; omega
    · obtain rfl : k = l.length := by omega
      have hX : Hid (x ∉ l) := Lib.hid (by
        have := hno.out
        rwa [List.take_length] at this)
      go_wp2
      go_ret
      exact ⟨-1, rfl, rfl, by simp [hX.out], .inr ⟨hX.out, rfl⟩⟩


set_option maxRecDepth 100000 in
set_option maxHeartbeats 1000000 in
theorem contains_int {n : Nat} (l : List Int) (a : Option Addr) (c : Nat) (x : Int) (w : World) (hr : Ints w.heap a l) (hn : n = l.length) (hl : n ≤ 9223372036854775807) :
    Calls Tryz.prog 86 #[.slice a n c, .int .i64 x] w (fun e w' => e = .returned (.bool (decide (x ∈ l))) ∧ w' = w) := by
  subst hn
  obtain ⟨B, hB⟩ : ∃ B, B = decide (x ∈ l) := ⟨_, rfl⟩
  rw [← hB]
  have HB := Lib.hid hB
  clear hB
  go_enter Tryz.func86, Tryz.ntmps86
  go_wp2_with (fail)
  refine (index_int l a c x w hr rfl hl).mono ?_
  rintro e1 w1 ⟨i, rfl, rfl, hi, -⟩
  have HI := Lib.hid (HB.out.trans hi.symm)
  clear hi
  go_wp2
  go_ret
  exact ⟨by rw [HI.out]; rfl, rfl⟩


set_option maxRecDepth 100000 in
set_option maxHeartbeats 1000000 in
theorem in2_any {n : Nat} (l : List Int) (a : Option Addr) (c : Nat) (x : Int) (w : World) (hr : Ints w.heap a l) (hn : n = l.length) (hl : n ≤ 9223372036854775807) :
    Calls Tryz.prog 59 #[.slice a n c, .int .i64 x] w (fun e w' => e = .returned (.bool (decide (x ∈ l))) ∧ w' = w) := by
  subst hn
  go_enter Tryz.func59, Tryz.ntmps59
  go_wp2
  go_loopw [5] (fun s5 wr => ∃ k : Nat, k ≤ l.length ∧ s5 = .int .i64 k ∧ wr = w ∧ Hid (x ∉ l.take k)) (fun s _ => l.length - (intOf s).toNat)
  case atStart => exact ⟨0, by omega, rfl, rfl, Lib.hid (by simp)⟩
  case round =>
    obtain ⟨k, hk, rfl, rfl, hno⟩ := hrel
    by_cases hkl : k < l.length
    · obtain ⟨b, off, rfl, hb, hc⟩ := Ints.pos hr (by omega)
      have d := hc wr rfl k hkl
      have htk := take_succ_nth l k hkl
      have hdr := drop_nth l k hkl
      generalize nth l k = y at *
      clear hc
      by_cases hxy : y = x
      · have hX : Hid (decide (x ∈ l) = true) := Lib.hid (by
          have hm : x ∈ l := by rw [← List.take_append_drop k l, hdr, hxy]; simp
          simpa using hm)
        have e1 : (y == x) = true := by simpa using hxy
        clear hxy htk hdr
        go_wp2
        go_ret
        exact ⟨by rw [hX.out]; rfl, rfl⟩
      · have e1 : (y == x) = false := by simpa using hxy
        have hno' : Hid (x ∉ l.take (k + 1)) := Lib.hid (by
          rw [htk, List.mem_append]
          rintro (h | h)
          · exact hno.out h
          · exact hxy (Eq.symm (by simpa using h)))
        clear hxy htk hdr
        go_wp2
        go_roundw
        case rel => exact ⟨k + 1, by omega, by go_num, by first | trivial | rfl, hno'⟩
        case measure => simp [intOf]; omega
    · obtain rfl : k = l.length := by omega
      have hX : Hid (decide (x ∈ l) = false) := Lib.hid (by
        have := hno.out
        rw [List.take_length] at this
        simpa using this)
      go_wp2
      go_ret
      rw [hX.out]
      exact ⟨rfl, rfl⟩

end Go.Proofs.YtfglidaicjjpfaaGreatDoor
end

section
namespace Go.Proofs.YtfglidaicjjpfaaGreatDoor
open Go.RowKit Go.Maps

theorem rd_box (w : World) (o : Obj) (T : TypeId) (xs : List Value) : Rd ((w.alloc o).alloc (.cells xs.toArray T)).heap (some ⟨w.heap.size + 1, 0, none⟩) 1 xs.length xs := by
  have := (Ownd.made (w.alloc o) T xs.length 1 xs (by omega) (by decide)).rd
  rwa [show (w.alloc o).heap.size = w.heap.size + 1 by simp] at this
/-- Ways that are handed in. -/
structure Bests (H : Array Obj) (a : Option Addr) (l : List BestR) : Prop where
  top : Recs H a 4 BestR.cells l
  wf : ∀ x ∈ l, BestR.wf x
  row : ∀ x ∈ l, Ints H x.A x.h
theorem Bests.fr0 {S : Nat → Prop} {w w' : World} {a : Option Addr} {l : List BestR} (h : Bests w.heap a l) (f : Fr S w w') (hs : ∀ k, k < w.heap.size → ¬ S k) : Bests w'.heap a l :=
  ⟨h.top.fr0 f hs, h.wf, fun x hx => (h.row x hx).fr0 f hs⟩

def _root_.Go.BestR.net (b : BestR) : Nt := ⟨b.a, b.n⟩
def viewErr1 (seen : List Nt) (b : BestR) : Option Int :=
  match netErr b.a b.n with
  | some k => some k
  | none => if b.m < 1 ∨ 16 < b.m then some 1 else if b.net ∈ seen then some 5 else none
def viewErrL (seen : List Nt) : List BestR → Option Int
  | [] => none
  | b :: l => match viewErr1 seen b with
    | some k => some k
    | none => viewErrL (b.net :: seen) l
def viewErr (tq : Int) (l : List BestR) : Option Int := if tq < 0 ∨ 8 ≤ tq then some 1 else viewErrL [] l
def viewStep (tq : Int) (poison : Bool) (b : BestR) : List En := if tq ∈ b.h then (if poison then [⟨b.a, b.n, 0, 0, 16⟩] else []) else [⟨b.a, b.n, 0, 0, b.m⟩]
def viewOut (tq : Int) (poison : Bool) (l : List BestR) : List En := l.flatMap (viewStep tq poison)
theorem viewStep_len (tq : Int) (poison : Bool) (b : BestR) : (viewStep tq poison b).length ≤ 1 := by
  unfold viewStep
  split
  · split <;> simp
  · simp
theorem viewOut_len (tq : Int) (poison : Bool) : ∀ l : List BestR, (viewOut tq poison l).length ≤ l.length
  | [] => Nat.le_refl _
  | b :: l => by
    have h1 := viewOut_len tq poison l
    have h2 := viewStep_len tq poison b
    unfold viewOut at *
    rw [List.flatMap_cons, List.length_append, List.length_cons]
    omega
def RetView (w : World) (tq : Int) (poison : Bool) (l : List BestR) (r : Option Int) (e : Ending) (w' : World) : Prop :=
  match r with
  | some k => RetV w (.tuple #[.slice none 0 0, errv k]) e w'
  | none => ∃ a c ob, e = .returned (.tuple #[.slice a (viewOut tq poison l).length c, .nilIface]) ∧ Ownd w'.heap 87 5 a (viewOut tq poison l).length c ((viewOut tq poison l).flatMap En.cells) ob ∧ Fr (fun _ => False) w w' ∧ (∀ g, ob = some g → w.heap.size ≤ g)
theorem RetView.err {w w' : World} {tq : Int} {poison : Bool} {l : List BestR} {r : Option Int} {k : Int} {e : Ending} (h : r = some k) (he : e = .returned (.tuple #[.slice none 0 0, errv k])) (hF : Fr (fun _ => False) w w') : RetView w tq poison l r e w' := by subst h; exact ⟨he, hF⟩
theorem RetView.ok {w w' : World} {tq : Int} {poison : Bool} {l : List BestR} {r : Option Int} {a : Option Addr} {m c : Nat} {ob : Option Nat} {xs : List Value} {e : Ending} (h : r = none) (he : e = .returned (.tuple #[.slice a m c, .nilIface])) (hm : m = (viewOut tq poison l).length) (hx : xs = (viewOut tq poison l).flatMap En.cells)
    (hO : Ownd w'.heap 87 5 a m c xs ob) (hF : Fr (fun _ => False) w w') (hN : ∀ g, ob = some g → w.heap.size ≤ g) : RetView w tq poison l r e w' := by
  subst h; subst hm; subst hx; exact ⟨a, c, ob, he, hO, hF, hN⟩

abbrev unitL (seen : List Nt) : List (Nt × Value) := seen.map fun q => (q, .agg #[])
theorem mget_unitL (seen : List Nt) (q : Nt) : mget (unitL seen) q = if q ∈ seen then some (.agg #[]) else none := by
  induction seen with
  | nil => rfl
  | cons x l ih =>
    by_cases h : x = q
    · subst h
      simp [mget]
    · have h1 : mget (unitL (x :: l)) q = mget (unitL l) q := by
        unfold mget
        simp only [unitL]
        rw [List.map_cons, List.find?_cons_of_neg (by simpa using h)]
      rw [h1, ih]
      have h2 : (q ∈ x :: l) ↔ q ∈ l := by
        rw [List.mem_cons]
        constructor
        · rintro (h3 | h3)
          · exact absurd h3.symm h
          · exact h3
        · exact fun h3 => .inr h3
      by_cases h3 : q ∈ l
      · rw [if_pos h3, if_pos (h2.2 h3)]
      · rw [if_neg h3, if_neg (fun h4 => h3 (h2.1 h4))]
theorem zeroUnitN {w : World} : (zeroValue 151).run Tryz.prog w = .ok (.agg #[]) w := by kernel_rfl

set_option maxRecDepth 100000 in
set_option maxHeartbeats 4000000 in
theorem view_any (l : List BestR) (al : Option Addr) (c : Nat) (tq : Int) (poison : Bool) (w : World) (hL : Bests w.heap al l) (hl : l.length * 48 ≤ 140737488351232) :
    Calls Tryz.prog 61 #[.slice al l.length c, .int .i64 tq, .bool poison] w (RetView w tq poison l (viewErr tq l)) := by
  obtain ⟨E, hE⟩ : ∃ E, E = viewErr tq l := ⟨_, rfl⟩
  rw [← hE]
  have HE := Lib.hid hE
  clear hE
  have hmm := @run_makeMap Tryz.prog
  by_cases hto : tq < 0 ∨ 8 ≤ tq
  · have hX := Lib.hid (HE.out.trans (if_pos hto))
    go_enter Tryz.func61, Tryz.ntmps61
    go_wp2
    all_goals go_ret2
    all_goals exact RetView.err hX.out rfl (Fr.refl _ _)
  · have hX := Lib.hid (HE.out.trans (if_neg hto))
    have t1 : 0 ≤ tq := by omega
    have t2 : tq < 8 := by omega
    have HL := Lib.hid hL
    clear hto
    go_enter Tryz.func61, Tryz.ntmps61
    go_wp2
    go_loopw [26, 9] (fun s26 s9 wr => ∃ (k m : Nat) (seen : List Nt) (ao : Option Addr) (co : Nat) (ob : Option Nat) (xs : List Value), k ≤ l.length ∧ s26 = .int .i64 k ∧ s9 = .slice ao m co ∧ m ≤ k ∧ MapL wr Tryz.prog 52 kln w.heap.size (unitL seen) ∧ seen.length ≤ k ∧ Hid (∀ q ∈ seen, Nt.wf q) ∧ Ownd wr.heap 87 5 ao m co xs ob ∧ (∀ g, ob = some g → w.heap.size < g) ∧ Fr (fun _ => False) w wr ∧ Hid (E = viewErrL seen (l.drop k)) ∧ Hid (m = (viewOut tq poison (l.take k)).length ∧ xs = (viewOut tq poison (l.take k)).flatMap En.cells)) (fun s _ _ => l.length - (intOf s).toNat)
    case atStart => exact ⟨0, 0, [], none, 0, none, [], by omega, rfl, rfl, by omega, MapL.made _ _ _ _, Nat.le_refl _, Lib.hid (fun q hq => nomatch hq), Ownd.nil _ _ _, (fun g h => nomatch h), (Fr.refl _ _).alloc _, hX, Lib.hid ⟨rfl, rfl⟩⟩
    case round =>
      obtain ⟨k, m, seen, ao, co, ob, xs, hk, rfl, rfl, hmk, hM, hsk, hws, hO, hN, hF, hEk, hOut⟩ := hrel
      by_cases hkl : k < l.length
      · have hLr := HL.out.fr0 hF (fun _ _ h => h)
        obtain ⟨b, off, rfl, hbb, hc⟩ := Recs.pos hLr.top BestR.cells_len (by omega) (by omega)
        have dd := fun (j : Nat) (hj : j < 4) => hc wr rfl k j hkl hj
        have d0 := dd 0 (by omega)
        have d1 := dd 1 (by omega)
        have d2 := dd 2 (by omega)
        have d3 := dd 3 (by omega)
        have hxm := nth_mem l k hkl
        have hwf := hLr.wf _ hxm
        have hrow := HL.out.row _ hxm
        have hdr := drop_nth l k hkl
        have htk := take_succ_nth l k hkl
        obtain ⟨x, hx⟩ : ∃ x, x = nth l k := ⟨_, rfl⟩
        rw [← hx] at d0 d1 d2 d3 hwf hrow hdr htk
        have hE1 : E = match viewErr1 seen x with | some k => some k | none => viewErrL (x.net :: seen) (l.drop (k + 1)) := by rw [hEk.out, hdr]; rfl
        have hO1 : viewOut tq poison (l.take (k + 1)) = viewOut tq poison (l.take k) ++ viewStep tq poison x := by rw [htk]; unfold viewOut; rw [List.flatMap_append]; simp
        have HE1 := Lib.hid hE1
        have HO1 := Lib.hid hO1
        have HWF := Lib.hid hwf
        obtain ⟨xa, xn, xm, xh, xA, xC⟩ := x
        simp only [BestR.cells, List.getElem?_cons_zero, List.getElem?_cons_succ, ← Nat.add_assoc, Nat.add_zero] at d0 d1 d2 d3
        have hna : 0 ≤ xa ∧ xa < 4294967296 := ⟨hwf.1.1, hwf.1.2.1⟩
        have hxl : xh.length ≤ 9223372036854775807 := by
          have h1 : xh.length ≤ xC := hwf.2.2.1
          have h2 : xC ≤ 9223372036854775807 := hwf.2.2.2.1
          omega
        have hsz := hF.size
        clear hc dd hxm hwf hdr htk hx hE1 hO1 hLr hEk
        cases hne : netErr xa xn with
        | some e =>
          have hX2 := Lib.hid (HE1.out.trans (show _ = some e by unfold viewErr1; simp only [hne]))
          have HNE := Lib.hid hne
          clear hne hO hM
          go_wp2_with (fail)
          refine (pcheck_any xa xn _ hna).mono ?_
          rintro e1 w1 ⟨rfl, hF1⟩
          rw [HNE.out, show errO (some e) = errv e from rfl]
          have hF01 := (hF.alloc _).trans hF1
          go_wp2
          go_ret2
          exact RetView.err hX2.out rfl hF01
        | none =>
          have HNE := Lib.hid hne
          have hE2 : E = if xm < 1 ∨ 16 < xm then some 1 else match (if (⟨xa, xn⟩ : Nt) ∈ seen then some 5 else none : Option Int) with | some k => some k | none => viewErrL (⟨xa, xn⟩ :: seen) (l.drop (k + 1)) := by
            rw [HE1.out]
            unfold viewErr1
            simp only [hne]
            by_cases hm : xm < 1 ∨ 16 < xm
            · rw [if_pos hm, if_pos hm]
            · rw [if_neg hm, if_neg hm]
              rfl
          clear hne HE1
          by_cases hm : xm < 1 ∨ 16 < xm
          · have hX2 := Lib.hid (hE2.trans (if_pos hm))
            clear hE2 hO hM
            go_wp2_with (fail)
            refine (pcheck_any xa xn _ hna).mono ?_
            rintro e1 w1 ⟨rfl, hF1⟩
            rw [HNE.out, show errO none = .nilIface from rfl]
            have hF01 := (hF.alloc (.cells #[.int .u32 xa, .int .i64 xn, .int .i64 xm, .slice xA xh.length xC] 66)).trans hF1
            have hB := (Blk.made wr 66 [.int .u32 xa, .int .i64 xn, .int .i64 xm, .slice xA xh.length xC]).fr hF1 (fun h => h)
            have c2 := hB.cell 2
            simp only [List.getElem?_cons_succ, List.getElem?_cons_zero] at c2
            go_wp2
            all_goals go_ret2
            all_goals exact RetView.err hX2.out rfl hF01
          · have hE3 := hE2.trans (if_neg hm)
            have m1 : 1 ≤ xm := by omega
            have m2 : xm ≤ 16 := by omega
            have HSW : Hid (∀ p ∈ unitL seen, kln p.1 = kln ⟨xa, xn⟩ → p.1 = ⟨xa, xn⟩) := Lib.hid (fun p hp h => by
              obtain ⟨q, hq, rfl⟩ := List.mem_map.1 hp
              exact kln_inj (hws.out q hq) HWF.out.1 h)
            have hkey := nkey ⟨xa, xn⟩ HWF.out.1
            have HK := Lib.hid hkey
            have hul : (unitL seen).length ≤ k := by simpa using hsk
            clear hm hE2 hkey
            go_wp2_with (fail)
            refine (pcheck_any xa xn _ hna).mono ?_
            rintro e1 w1 ⟨rfl, hF1⟩
            rw [HNE.out, show errO none = .nilIface from rfl]
            have hFr1 := ((Fr.refl (fun _ => False) wr).alloc (.cells #[.int .u32 xa, .int .i64 xn, .int .i64 xm, .slice xA xh.length xC] 66)).trans hF1
            have hF01 := hF.trans hFr1
            have hB := (Blk.made wr 66 [.int .u32 xa, .int .i64 xn, .int .i64 xm, .slice xA xh.length xC]).fr hF1 (fun h => h)
            have hM1 := hM.fr hFr1 (fun h => h)
            have hO1 := hO.fr hFr1 (fun _ _ h => h)
            have c0 := hB.cell 0
            have c1 := hB.cell 1
            have c2 := hB.cell 2
            have c3 := hB.cell 3
            have hbl := hB.lt
            simp only [List.getElem?_cons_succ, List.getElem?_cons_zero] at c0 c1 c2 c3
            have hmg := mget_unitL seen ⟨xa, xn⟩
            have HROW := Lib.hid hrow
            have hmlt := hM.lt
            clear hM hO hrow hF1
            by_cases hin : (⟨xa, xn⟩ : Nt) ∈ seen
            · have hX2 := Lib.hid (hE3.trans (by rw [if_pos hin]))
              rw [if_pos hin] at hmg
              have HMG := Lib.hid hmg
              clear hE3 hin hmg hO1
              go_wp2_with (at_lookup; refine wpList_lookL_ok rfl _ _ 150 rfl 52 151 keyedN Tryz.underlying150 zeroUnitN w.heap.size (unitL seen) kln rfl hM1 _ ⟨xa, xn⟩ rfl HK.out HSW.out ?_; rw [HMG.out])
              go_ret2
              exact RetView.err hX2.out rfl (hF01.alloc _)
            · have hX2 := Lib.hid (hE3.trans (by rw [if_neg hin]))
              have HIN := Lib.hid hin
              rw [if_neg hin] at hmg
              have HMG := Lib.hid hmg
              clear hE3 hin hmg
              have hM2 := hM1.fr ((Fr.refl (fun _ => False) w1).alloc (.cells #[] 151)) (fun h => h)
              go_wp2_with (first | (at_lookup; refine wpList_lookL_ok rfl _ _ 150 rfl 52 151 keyedN Tryz.underlying150 zeroUnitN w.heap.size (unitL seen) kln rfl hM1 _ ⟨xa, xn⟩ rfl HK.out HSW.out ?_; rw [HMG.out]) | (at_mapUpdate; refine wpList_mput rfl _ _ _ 150 rfl 52 151 keyedN Tryz.underlying150 w.heap.size (unitL seen) kln rfl hM2 (Nat.lt_of_le_of_lt hul (by show k < 9223372036854775807; omega)) _ _ ⟨xa, xn⟩ rfl rfl HK.out HSW.out ?_))
              intro w3 hM3 hF3 hs3
              clear hs3
              have hF13 := ((Fr.refl (fun k => k = w.heap.size) w1).alloc (.cells #[] 151)).trans hF3
              have hlw := hF.size
              have hF03 : Fr (fun _ => False) w w3 := hF01.trans' hF13 (fun i hi h => by omega)
              have hB3 := hB.fr hF13 (fun h => by have h2 : wr.heap.size = w.heap.size := h; omega)
              have hM4 : MapL w3 Tryz.prog 52 kln w.heap.size (unitL (⟨xa, xn⟩ :: seen)) := by rw [mput_new HMG.out] at hM3; exact hM3
              have hO3 := hO1.fr hF13 (fun g hg h => by have := hN g hg; omega)
              have c0 := hB3.cell 0
              have c1 := hB3.cell 1
              have c2 := hB3.cell 2
              have c3 := hB3.cell 3
              have hbl3 := hB3.lt
              simp only [List.getElem?_cons_succ, List.getElem?_cons_zero] at c0 c1 c2 c3
              have hws' : Hid (∀ q ∈ (⟨xa, xn⟩ :: seen : List Nt), Nt.wf q) := Lib.hid (fun q hq => by
                rcases List.mem_cons.1 hq with rfl | hq
                · exact HWF.out.1
                · exact hws.out q hq)
              have hF04 := hF03.alloc (.cells #[.int .u32 xa, .int .i64 xn, .int .i64 0, .int .u32 0, .int .i64 xm] 87)
              have hM5 := hM4.fr ((Fr.refl (fun _ => False) w3).alloc (.cells #[.int .u32 xa, .int .i64 xn, .int .i64 0, .int .u32 0, .int .i64 xm] 87)) (fun h => h)
              have hO4 := hO3.alloc (.cells #[.int .u32 xa, .int .i64 xn, .int .i64 0, .int .u32 0, .int .i64 xm] 87)
              have hBe := Blk.made w3 87 [.int .u32 xa, .int .i64 xn, .int .i64 0, .int .u32 0, .int .i64 xm]
              have hcap := hO3.cap
              clear hM3 hO1 hM1 hM2 hF3 hB hB3
              go_wp2_with (fail)
              refine (contains_int xh xA xC tq _ (HROW.out.fr0 hF04 (fun _ _ h => h)) rfl hxl).mono ?_
              rintro e4 w4 ⟨rfl, rfl⟩
              by_cases hto : tq ∈ xh
              · rw [decide_eq_true hto]
                cases poison with
                | false =>
                  have hst : Hid (viewOut tq false (l.take (k + 1)) = viewOut tq false (l.take k)) := Lib.hid (by rw [HO1.out]; unfold viewStep; rw [if_pos hto]; simp)
                  clear hto
                  go_wp2
                  go_roundw
                  case rel => exact ⟨k + 1, m, _, ao, co, ob, xs, by omega, by go_num, rfl, by omega, hM5, by simp; omega, hws', hO4, hN, hF04, hX2, Lib.hid (by rw [hst.out]; exact hOut.out)⟩
                  case measure => simp [intOf]; omega
                | true =>
                  have hst : Hid (viewOut tq true (l.take (k + 1)) = viewOut tq true (l.take k) ++ [⟨xa, xn, 0, 0, 16⟩]) := Lib.hid (by rw [HO1.out]; unfold viewStep; rw [if_pos hto]; rfl)
                  clear hto
                  have hcs : (viewOut tq true (l.take (k + 1))).flatMap En.cells = (viewOut tq true (l.take k)).flatMap En.cells ++ [.int .u32 xa, .int .i64 xn, .int .i64 0, .int .u32 0, .int .i64 16] := by rw [hst.out, List.flatMap_append]; simp
                  have HCS := Lib.hid hcs
                  clear hcs
                  have hrd := rd_box w3 (.cells #[.int .u32 xa, .int .i64 xn, .int .i64 0, .int .u32 0, .int .i64 16] 87) 87 [.int .u32 xa, .int .i64 xn, .int .i64 0, .int .u32 0, .int .i64 16]
                  have hO5 := (hO3.alloc (.cells #[.int .u32 xa, .int .i64 xn, .int .i64 0, .int .u32 0, .int .i64 16] 87)).alloc (.cells #[.int .u32 xa, .int .i64 xn, .int .i64 0, .int .u32 0, .int .i64 16] 87)
                  have hF5 := (hF03.alloc (.cells #[.int .u32 xa, .int .i64 xn, .int .i64 0, .int .u32 0, .int .i64 16] 87)).alloc (.cells #[.int .u32 xa, .int .i64 xn, .int .i64 0, .int .u32 0, .int .i64 16] 87)
                  have hM6 := hM4.fr (((Fr.refl (fun _ => False) w3).alloc (.cells #[.int .u32 xa, .int .i64 xn, .int .i64 0, .int .u32 0, .int .i64 16] 87)).alloc (.cells #[.int .u32 xa, .int .i64 xn, .int .i64 0, .int .u32 0, .int .i64 16] 87)) (fun h => h)
                  clear hM5 hO4 hF04
                  go_wp2_with (at_builtin; refine wpList_app rfl _ _ 24 rfl Tryz.underlying24 infoEn rfl (by decide) rfl rfl hO5 hrd (by simp [Value.oneCell']) (by omega) (by omega) ?_)
                  intro a' c' w6 ob' z1 z2 z3
                  have hF6 := Fr.app hF5 z2 (fun g h => Nat.le_of_lt (hN g h))
                  have hN6 : ∀ g, ob' = some g → w.heap.size < g := fun g hg => by
                    rcases z3 with z3 | ⟨g', z3, z4⟩
                    · exact hN g (by rw [← z3, hg])
                    · rw [z3] at hg; cases hg; have := hF03.size; omega
                  have hM7 := hM6.fr z2 (fun h => by have := hN _ h; omega)
                  have hOut' : Hid (m + 1 = (viewOut tq true (l.take (k + 1))).length ∧ xs ++ [.int .u32 xa, .int .i64 xn, .int .i64 0, .int .u32 0, .int .i64 16] = (viewOut tq true (l.take (k + 1))).flatMap En.cells) := Lib.hid (by
                    rw [HCS.out, hst.out, ← hOut.out.2]
                    exact ⟨by rw [List.length_append, ← hOut.out.1]; rfl, rfl⟩)
                  have HO7 := Lib.hid z1
                  clear z1 z2 z3 hrd hO5 hO3
                  go_wp2
                  go_roundw
                  case rel => exact ⟨k + 1, m + 1, _, a', c', ob', _, by omega, by go_num, rfl, by omega, hM7, by simp; omega, hws', HO7.out, hN6, hF6, hX2, hOut'⟩
                  case measure => simp [intOf]; omega
              · rw [decide_eq_false hto]
                have hst : Hid (viewOut tq poison (l.take (k + 1)) = viewOut tq poison (l.take k) ++ [⟨xa, xn, 0, 0, xm⟩]) := Lib.hid (by rw [HO1.out]; unfold viewStep; rw [if_neg hto])
                clear hto
                have hcs : (viewOut tq poison (l.take (k + 1))).flatMap En.cells = (viewOut tq poison (l.take k)).flatMap En.cells ++ [.int .u32 xa, .int .i64 xn, .int .i64 0, .int .u32 0, .int .i64 xm] := by rw [hst.out, List.flatMap_append]; simp
                have HCS := Lib.hid hcs
                clear hcs
                have hrd := rd_box w3 (.cells #[.int .u32 xa, .int .i64 xn, .int .i64 0, .int .u32 0, .int .i64 xm] 87) 87 [.int .u32 xa, .int .i64 xn, .int .i64 0, .int .u32 0, .int .i64 xm]
                have hO5 := (hO3.alloc (.cells #[.int .u32 xa, .int .i64 xn, .int .i64 0, .int .u32 0, .int .i64 xm] 87)).alloc (.cells #[.int .u32 xa, .int .i64 xn, .int .i64 0, .int .u32 0, .int .i64 xm] 87)
                have hF5 := (hF03.alloc (.cells #[.int .u32 xa, .int .i64 xn, .int .i64 0, .int .u32 0, .int .i64 xm] 87)).alloc (.cells #[.int .u32 xa, .int .i64 xn, .int .i64 0, .int .u32 0, .int .i64 xm] 87)
                have hM6 := hM4.fr (((Fr.refl (fun _ => False) w3).alloc (.cells #[.int .u32 xa, .int .i64 xn, .int .i64 0, .int .u32 0, .int .i64 xm] 87)).alloc (.cells #[.int .u32 xa, .int .i64 xn, .int .i64 0, .int .u32 0, .int .i64 xm] 87)) (fun h => h)
                clear hM5 hO4 hF04
                go_wp2_with (at_builtin; refine wpList_app rfl _ _ 24 rfl Tryz.underlying24 infoEn rfl (by decide) rfl rfl hO5 hrd (by simp [Value.oneCell']) (by omega) (by omega) ?_)
                intro a' c' w6 ob' z1 z2 z3
                have hF6 := Fr.app hF5 z2 (fun g h => Nat.le_of_lt (hN g h))
                have hN6 : ∀ g, ob' = some g → w.heap.size < g := fun g hg => by
                  rcases z3 with z3 | ⟨g', z3, z4⟩
                  · exact hN g (by rw [← z3, hg])
                  · rw [z3] at hg; cases hg; have := hF03.size; omega
                have hM7 := hM6.fr z2 (fun h => by have := hN _ h; omega)
                have hOut' : Hid (m + 1 = (viewOut tq poison (l.take (k + 1))).length ∧ xs ++ [.int .u32 xa, .int .i64 xn, .int .i64 0, .int .u32 0, .int .i64 xm] = (viewOut tq poison (l.take (k + 1))).flatMap En.cells) := Lib.hid (by
                  rw [HCS.out, hst.out, ← hOut.out.2]
                  exact ⟨by rw [List.length_append, ← hOut.out.1]; rfl, rfl⟩)
                have HO7 := Lib.hid z1
                clear z1 z2 z3 hrd hO5 hO3
                go_wp2
                go_roundw
                case rel => exact ⟨k + 1, m + 1, _, a', c', ob', _, by omega, by go_num, rfl, by omega, hM7, by simp; omega, hws', HO7.out, hN6, hF6, hX2, hOut'⟩
                case measure => simp [intOf]; omega
      · obtain rfl : k = l.length := by omega
        have hX2 : Hid (E = none) := Lib.hid (by rw [hEk.out, List.drop_length]; rfl)
        have hOut2 : Hid (m = (viewOut tq poison l).length ∧ xs = (viewOut tq poison l).flatMap En.cells) := Lib.hid (by have := hOut.out; rwa [List.take_length] at this)
        go_wp2
        go_ret2
        exact RetView.ok hX2.out rfl hOut2.out.1 hOut2.out.2 hO hF (fun g h => Nat.le_of_lt (hN g h))
end Go.Proofs.YtfglidaicjjpfaaGreatDoor
end

section
namespace Go.Proofs.YtfglidaicjjpfaaGreatDoor
open Go.RowKit Go.Maps

theorem i64_wf' {x : Int} (h0 : -9223372036854775808 ≤ x) (h1 : x ≤ 9223372036854775807) : (Lit.int .i64 x).wf = true := by
  have e1 : IntKind.i64.min = -9223372036854775808 := rfl
  have e2 : IntKind.i64.max = 9223372036854775807 := rfl
  simp only [Lit.wf, Bool.and_eq_true, decide_eq_true_eq]
  omega
theorem viewErrL_none : ∀ (l : List BestR) (seen : List Nt), (∀ b ∈ l, netErr b.a b.n = none ∧ 1 ≤ b.m ∧ b.m ≤ 16 ∧ bnet b ∉ seen) → (l.map bnet).Nodup → viewErrL seen l = none := by
  intro l
  induction l with
  | nil => intro seen _ _; rfl
  | cons b l ih =>
    intro seen h hn
    obtain ⟨h1, h2, h3, h4⟩ := h b (by simp)
    obtain ⟨n1, n2⟩ := List.nodup_cons.1 hn
    have e : viewErr1 seen b = none := by
      unfold viewErr1
      rw [h1]
      simp only
      rw [if_neg (by omega), if_neg (show b.net ∉ seen from h4)]
    unfold viewErrL
    rw [e]
    refine ih _ (fun c hc => ?_) n2
    obtain ⟨k1, k2, k3, k4⟩ := h c (by simp [hc])
    refine ⟨k1, k2, k3, fun hh => ?_⟩
    rcases List.mem_cons.1 hh with hh | hh
    · exact n1 (List.mem_map.2 ⟨c, hc, hh⟩)
    · exact k4 hh
/-- Each way that a router has. -/
theorem AllR.each {w : World} {base : Nat} {D : DC} {now : Int} {l : List Td} {bad : Int} {R : List BestR} (hD : Dmn w base D now l bad) (h : AllR D l R) : ∀ r ∈ R, netErr r.a r.n = none ∧ (0 ≤ r.a ∧ r.a < 4294967296) ∧ 1 ≤ r.m ∧ r.m ≤ 16 ∧ r.h.length ≤ 4 ∧ ∀ z ∈ r.h, 0 ≤ z ∧ z < D.costs.length := fun r hr => by
  have h1 := h.val r hr
  obtain ⟨b1, b2, b3, b4⟩ := bestD_bd hD (bnet r)
  have hm : r.m = _ := congrArg Prod.fst h1
  have hh : r.h = _ := congrArg Prod.snd h1
  rw [← hm] at b1 b2
  rw [← hh] at b3 b4
  rcases (h.mem (bnet r)).1 (List.mem_map.2 ⟨r, hr, rfl⟩) with ho | ⟨x, hx, he⟩
  · obtain ⟨k1, k2⟩ := hD.net _ ho
    exact ⟨k1, k2, b1, b2, b3, b4⟩
  · have k1 := (hD.by' x hx).2
    have k2 := hD.ok.each x hx
    have e1 : x.a = r.a := congrArg Nt.a he
    have e2 : x.n = r.n := congrArg Nt.n he
    rw [e1, e2] at k1
    have k3 := k2.a0
    have k4 := k2.a1
    rw [e1] at k3 k4
    exact ⟨k1, ⟨k3, k4⟩, b1, b2, b3, b4⟩
theorem Alls.view {base : Nat} {w0 w : World} {bb : Nat} {D : DC} {now : Int} {l : List Td} {bad : Int} {R : List BestR} {aR : Option Addr} {cR : Nat} {ob : Option Nat} (h : Alls base w.heap R aR cR ob) (hD : Dmn w0 bb D now l bad) (hR : AllR D l R) : Bests w.heap aR R := by
  have he := hR.each hD
  have hc8 := hD.c8
  refine ⟨h.own.rd, fun x hx => ?_, fun x hx => by obtain ⟨o, h1, -⟩ := h.row x hx; exact h1.rd⟩
  obtain ⟨k1, k2, k3, k4, k5, k6⟩ := he x hx
  obtain ⟨o, h1, -⟩ := h.row x hx
  obtain ⟨n1, n2⟩ := netErr_rng k1
  have hcap := h1.cap
  have hmx : maxLen = 9223372036854775807 := rfl
  refine ⟨⟨k2.1, k2.2, i64_wf' (by simp only; omega) (by simp only; omega)⟩, i64_wf' (by omega) (by omega), hcap, ?_, fun z hz => by have := k6 z hz; exact i64_wf' (by omega) (by omega), fun hA => ?_⟩
  · rcases h1.is with ⟨_, _, q, _⟩ | ⟨_, _, _, _, _, _, q, _⟩
    · omega
    · exact q
  · rcases h1.is with ⟨_, q, _⟩ | ⟨_, _, q, _⟩
    · exact List.eq_nil_of_length_eq_zero q
    · rw [q] at hA; cases hA
/-- What is told of one way. -/
def tell1 (tq : Int) (b : BestR) : En := ⟨b.a, b.n, 0, 0, if tq ∈ b.h then 16 else b.m⟩
theorem viewOut_tell (tq : Int) (R : List BestR) : viewOut tq true R = R.map (tell1 tq) := by
  induction R with
  | nil => rfl
  | cons b R ih =>
    unfold viewOut at *
    rw [List.flatMap_cons, ih, List.map_cons]
    unfold viewStep tell1
    split
    · rfl
    · rfl
/-- What is told: so many ways as a message holds. -/
def tellL (tq : Int) (R : List BestR) : List En := (R.map (tell1 tq)).take 25
theorem tellL_mem {tq : Int} {R : List BestR} {e : En} (h : e ∈ tellL tq R) : ∃ b ∈ R, e = tell1 tq b := by
  obtain ⟨b, hb, rfl⟩ := List.mem_map.1 (List.mem_of_mem_take h)
  exact ⟨b, hb, rfl⟩
theorem entsErr_none : ∀ l : List En, (∀ e ∈ l, entErr e = none) → entsErr l = none := by
  intro l
  induction l with
  | nil => intro _; rfl
  | cons e l ih => intro h; unfold entsErr; rw [h e (by simp)]; exact ih (fun x hx => h x (by simp [hx]))
theorem tellL_ok {w : World} {base : Nat} {D : DC} {now : Int} {l : List Td} {bad tq : Int} {R : List BestR} (hD : Dmn w base D now l bad) (h : AllR D l R) : msgErr (tellL tq R) = none ∧ ∀ e ∈ tellL tq R, En.wf e := by
  have key : ∀ e ∈ tellL tq R, entErr e = none ∧ En.wf e := fun e he => by
    obtain ⟨b, hb, rfl⟩ := tellL_mem he
    obtain ⟨k1, k2, k3, k4, -, -⟩ := h.each hD b hb
    refine ⟨?_, ⟨k2, by show (0 : Int) ≤ 0 ∧ (0 : Int) < 4294967296; decide⟩⟩
    unfold entErr tell1
    simp only
    rw [k1]
    simp only
    rw [if_neg (by split <;> omega)]
  refine ⟨?_, fun e he => (key e he).2⟩
  unfold msgErr
  rw [if_neg (by unfold tellL; rw [List.length_take]; omega)]
  exact entsErr_none _ (fun e he => (key e he).1)
def RetTell (w : World) (D : DC) (l : List Td) (tq : Int) (e : Ending) (w' : World) : Prop :=
  ∃ (R : List BestR) (a : Option Addr) (c : Nat) (ob : Option Nat), AllR D l R ∧ e = .returned (.tuple #[.slice a (encD false (tellL tq R)).length c, .nilIface]) ∧ Ownd w'.heap 5 1 a (encD false (tellL tq R)).length c (ivals .u8 (encD false (tellL tq R))) ob ∧ Fr (fun _ => False) w w' ∧ ∀ g, ob = some g → w.heap.size ≤ g

set_option maxRecDepth 100000 in
set_option maxHeartbeats 4000000 in
theorem dtell_any {base : Nat} {D : DC} {now : Int} {l : List Td} {bad : Int} (tq : Int) (w : World) (hD : Dmn w base D now l bad) (ht : ¬ (tq < 0 ∨ (D.costs.length : Int) ≤ tq)) :
    Calls Tryz.prog 27 #[.pointer (some ⟨D.bd, 0, none⟩), .int .i64 tq] w (RetTell w D l tq) := by
  have hc8 := hD.c8
  have HD := Lib.hid hD
  have hnear := dnear_yes tq w hD ht
  have hall := dall_any w hD
  clear hD
  go_enter Tryz.func27, Tryz.ntmps27
  go_wp2_with (fail)
  refine hnear.mono ?_
  rintro e1 w1 ⟨rfl, rfl⟩
  go_wp2_with (fail)
  refine hall.mono ?_
  rintro e2 w2 ⟨R, aR, cR, ob, rfl, hA, hR, hF2⟩
  have hRl := hR.len
  have hv := view_any R aR cR tq true w2 (hA.view HD.out hR) (by omega)
  have hve : viewErr tq R = none := by
    unfold viewErr
    rw [if_neg (by omega)]
    exact viewErrL_none R [] (fun b hb => by obtain ⟨k1, -, k3, k4, -⟩ := hR.each HD.out b hb; exact ⟨k1, k3, k4, by simp⟩) (nsn hR.srt)
  rw [hve] at hv
  obtain ⟨k1, k2⟩ := tellL_ok (tq := tq) HD.out hR
  have HK1 := Lib.hid k1
  have HK2 := Lib.hid k2
  have HR := Lib.hid hR
  clear hnear hall hA hR hve k1 k2
  go_wp2_with (fail)
  refine hv.mono ?_
  rintro e3 w3 ⟨a3, c3, ob3, rfl, hO3, hF3, hN3⟩
  rw [viewOut_tell] at hO3 ⊢
  have hcap := hO3.cap
  have hl3 : (R.map (tell1 tq)).length = R.length := by simp
  have hF03 := hF2.trans hF3
  have hrd := Rd.takeK hO3.rd (min (R.map (tell1 tq)).length 25) (by omega)
  have hflat : ((R.map (tell1 tq)).flatMap En.cells).take (min (R.map (tell1 tq)).length 25 * 5) = (tellL tq R).flatMap En.cells := by
    have key : ∀ (l : List En) (k : Nat), (l.flatMap En.cells).take (k * 5) = (l.take k).flatMap En.cells := by
      intro l
      induction l with
      | nil => intro k; simp
      | cons e l ih =>
        intro k
        cases k with
        | zero => simp
        | succ k =>
          have h5 : (En.cells e).length = 5 := rfl
          rw [List.flatMap_cons, List.take_succ_cons, List.flatMap_cons, ← ih k, show (k + 1) * 5 = k * 5 + 5 by omega, List.take_append, List.take_of_length_le (by rw [h5]; omega), h5, show k * 5 + 5 - 5 = k * 5 by omega]
    rw [key, Nat.min_comm, ← List.take_take, List.take_length]
    rfl
  rw [hflat] at hrd
  have hlt : (tellL tq R).length = min (R.map (tell1 tq)).length 25 := by unfold tellL; rw [List.length_take]; omega
  have hrec : Recs w3.heap a3 5 En.cells (tellL tq R) := by
    show Rd _ _ _ _ _
    rw [hlt]; exact hrd
  have hcallE := encode_any (M := min R.length 25) false (tellL tq R) a3 c3 w3 hrec HK2.out (by rw [hlt]; omega) (by rw [hlt, hl3])
  have HF := Lib.hid hF03
  rw [hl3] at hcap ⊢
  obtain ⟨n, hn⟩ : ∃ n, n = R.length := ⟨_, rfl⟩
  rw [← hn] at hRl hcap hcallE ⊢
  have HL := Lib.hid (show tellL tq R = tellL tq R from rfl)
  clear hrec hlt hrd hflat hO3 hF3 hF2 hF03 hv hl3 hN3 hn
  have hmin : (min (n : Int) 25) = ((min n 25 : Nat) : Int) := by omega
  go_wp2_with (fail)
  refine hcallE.mono ?_
  intro e4 w4 R4
  obtain ⟨a4, c4, ob4, rfl, hO4, hF4, hN4⟩ := R4.okE HK1.out
  have hs := HF.out.size
  have hFe := HF.out.trans hF4
  obtain ⟨bs, hbs⟩ : ∃ bs, bs = encD false (tellL tq R) := ⟨_, rfl⟩
  rw [← hbs] at hO4 ⊢
  have HBS := Lib.hid hbs
  clear R4 hcallE hF4 hbs
  go_wp2
  go_ret2
  refine ⟨R, a4, c4, ob4, HR.out, ?_, ?_, hFe, fun g hg => by have := hN4 g hg; omega⟩
  · rw [← HBS.out]; rfl
  · rw [← HBS.out]; exact hO4
end Go.Proofs.YtfglidaicjjpfaaGreatDoor
end
