import Derived.Test.YtgfbkebbnfcgkaaQRt1
import Derived.WalkSpells
import Derived.Deep.QuietTactic
import Derived.BigQuiet
import Derived.Test.YtgfbkebbnfcgkaaQRt3
import Derived.Test.YtgfbkebbnfcgkaaQRt13
section
namespace Go.Proofs.Ytgfbkebbnfcgkaa
open Go.RowKit
theorem nts_one (l : List Nt) : ∀ u ∈ l.flatMap Nt.cells, u.oneCell' = true := fun u hu => by
  obtain ⟨x, _, hx⟩ := List.mem_flatMap.1 hu
  exact nt_one x u hx
/-- slices.Clone at nets. -/
theorem clone_net {n : Nat} (l : List Nt) (a : Option Addr) (c : Nat) (w : World) (hr : Recs w.heap a 2 Nt.cells l) (hn : n = l.length) (hl : n * 16 ≤ 140737488351232) (hnil : a = none → l = []) :
    Calls Try.prog 19 #[.slice a n c] w (RetNew w 34 2 n (l.flatMap Nt.cells) id) := by
  subst hn
  have he := fun n c w => Lib.run_eql_slice_nil (P := Try.prog) w 35 34 a n c 0 0 Try.underlying35
  cases a with
  | none =>
    obtain rfl := hnil rfl
    go_enter Try.func19, Try.ntmps19
    go_wp2
    go_ret
    exact ⟨none, 0, none, rfl, Ownd.nil _ _ _, Fr.refl _ _, fun g h => by cases h⟩
  | some a =>
    go_enter Try.func19, Try.ntmps19
    go_wp2_with (at_builtin; refine wpList_app rfl _ _ 35 rfl Try.underlying35 infoNt rfl (by decide) rfl rfl (Ownd.made w 34 2 0 [] rfl (by decide)) (hr.fr (S := fun _ => False) ((Fr.refl _ _).alloc _) (fun _ _ _ h => h)) (nts_one l) (by omega) (by omega) ?_)
    intro a' c' w' ob' h1 h2 h3
    go_wp2
    go_ret
    refine ⟨a', c', ob', by simp, by simpa using h1, ?_, ?_⟩
    · exact ((Fr.refl _ _).alloc _).trans' h2 (fun i hi h => by cases h; omega)
    · intro g hg
      rcases h3 with h3 | ⟨g', h3, h4⟩
      · rw [h3] at hg; cases hg; exact Nat.le_refl _
      · rw [h3] at hg; cases hg; exact Nat.le_trans (by simp) h4
end Go.Proofs.Ytgfbkebbnfcgkaa
end

section
namespace Go.Proofs.Ytgfbkebbnfcgkaa
open Go.RowKit
/-- slices.Index at nets: from below 0 (nowhere) on. -/
def IndexPost (w : World) (l : List Nt) (x : Nt) (e : Ending) (w' : World) : Prop := ∃ p : Int, e = .returned (.int .i64 p) ∧ Fr (fun _ => False) w w' ∧ decide (0 ≤ p) = decide (x ∈ l)
set_option maxRecDepth 100000 in
set_option maxHeartbeats 2000000 in
theorem netIndex_any {n : Nat} (l : List Nt) (x : Nt) (a : Option Addr) (c : Nat) (w : World) (ha : Recs w.heap a 2 Nt.cells l) (hl : l.length ≤ 9223372036854775806) (hn : n = l.length) :
    Calls Try.prog 36 #[.slice a n c, .agg #[.int .u32 x.a, .int .i64 x.n]] w (IndexPost w l x) := by
  subst hn
  obtain ⟨xa, xn⟩ := x
  have HA := Lib.hid ha
  clear ha
  have k0 := Blk.made w 34 [.int .u32 xa, .int .i64 xn]
  go_enter Try.func36, Try.ntmps36
  go_wp2
  go_loopw [8] (fun s8 wr => ∃ k : Nat, k ≤ l.length ∧ s8 = .int .i64 k ∧ Blk wr.heap w.heap.size 34 [.int .u32 xa, .int .i64 xn] ∧ Fr (fun _ => False) w wr ∧ Hid (∀ j, j < k → nth l j ≠ ⟨xa, xn⟩)) (fun s _ => l.length - (intOf s).toNat)
  case atStart => exact ⟨0, by omega, rfl, k0, (Fr.refl _ _).alloc _, Lib.hid (fun j hj => absurd hj (Nat.not_lt_zero _))⟩
  case round =>
    clear k0
    obtain ⟨k, hk, rfl, hB, hF, hE⟩ := hrel
    have b0 := hB.cell 0
    have b1 := hB.cell 1
    have hbl := hB.lt
    simp only [List.getElem?_cons_succ, List.getElem?_cons_zero] at b0 b1
    by_cases hlt : k < l.length
    · obtain ⟨g1, o1, rfl, q1, c1⟩ := Recs.pos HA.out Nt.cells_len (by omega) (by omega)
      have d0 := (hF.cell (p := ⟨g1, o1 + (k * 2 + 0), none⟩) q1 (fun h => h)).trans (c1 w rfl k 0 hlt (by omega))
      have d1 := (hF.cell (p := ⟨g1, o1 + (k * 2 + 1), none⟩) q1 (fun h => h)).trans (c1 w rfl k 1 hlt (by omega))
      obtain ⟨y, hy⟩ : ∃ y, y = nth l k := ⟨_, rfl⟩
      rw [← hy] at d0 d1
      obtain ⟨ya, yn⟩ := y
      simp only [Nt.cells, List.getElem?_cons_zero, List.getElem?_cons_succ, ← Nat.add_assoc, Nat.add_zero] at d0 d1
      have HY := Lib.hid hy
      clear c1 hy
      by_cases he : xa = ya ∧ xn = yn
      · have hX := Lib.hid (show decide ((0 : Int) ≤ (k : Int)) = decide ((⟨xa, xn⟩ : Nt) ∈ l) by
          rw [decide_eq_true (by omega), decide_eq_true]
          rw [he.1, he.2, HY.out]; exact nth_mem l k hlt)
        have e0 : (xa == ya) = true := by simp [he.1]
        have e1 : (xn == yn) = true := by simp [he.2]
        clear he
        go_wp2
        go_quiet (fail)
        go_wp2
        go_ret
        exact ⟨k, rfl, hF.drewN _, hX.out⟩
      · have hE2 := Lib.hid (show ∀ j, j < k + 1 → nth l j ≠ ⟨xa, xn⟩ from fun j hj => by
          rcases Nat.lt_succ_iff_lt_or_eq.1 hj with h | h
          · exact hE.out j h
          · subst h; rw [← HY.out]; intro e; cases e; exact he ⟨rfl, rfl⟩)
        have q : (xa == ya) = false ∨ ((xa == ya) = true ∧ (xn == yn) = false) := by
          simp only [beq_eq_false_iff_ne, beq_iff_eq, ne_eq]
          omega
        clear he
        rcases q with e0 | ⟨e0, e1⟩
        all_goals
          go_wp2
          go_quiet (fail)
          go_wp2
          go_roundw
          case rel => exact ⟨k + 1, by omega, by go_num, hB.fr (S := fun _ => False) ((Fr.refl _ _).drewN _) (fun h => h), hF.drewN _, hE2⟩
          case measure => simp [intOf]; omega
    · obtain rfl : k = l.length := by omega
      have hX := Lib.hid (show decide ((0 : Int) ≤ -1) = decide ((⟨xa, xn⟩ : Nt) ∈ l) by
        rw [decide_eq_false (by omega), decide_eq_false]
        intro hm
        obtain ⟨j, hj, e⟩ := List.getElem_of_mem hm
        exact hE.out j hj (by rw [nth_eq l j hj]; exact e))
      go_wp2
      go_ret
      exact ⟨-1, rfl, hF, hX.out⟩
set_option maxRecDepth 100000 in
set_option maxHeartbeats 1000000 in
theorem netIn_any {n : Nat} (l : List Nt) (x : Nt) (a : Option Addr) (c : Nat) (w : World) (ha : Recs w.heap a 2 Nt.cells l) (hl : l.length ≤ 9223372036854775806) (hn : n = l.length) :
    Calls Try.prog 16 #[.slice a n c, .agg #[.int .u32 x.a, .int .i64 x.n]] w (RetV w (.bool (decide (x ∈ l)))) := by
  obtain ⟨xa, xn⟩ := x
  subst hn
  simp only
  go_enter Try.func16, Try.ntmps16
  go_wp2_with (fail)
  refine (netIndex_any l ⟨xa, xn⟩ a c _ (ha.fr (S := fun _ => False) ((Fr.refl _ _).alloc _) (fun _ _ _ h => h)) hl rfl).mono ?_
  rintro e1 w1 ⟨p, rfl, hF1, hp⟩
  have HP := Lib.hid hp
  have hF := ((Fr.refl (fun _ => False) w).alloc (.cells #[.int .u32 xa, .int .i64 xn] 34)).trans hF1
  clear hp hF1
  go_wp2
  go_ret
  exact RetV.mk (x := .bool (decide (0 ≤ p))) (by rw [HP.out]) rfl hF
end Go.Proofs.Ytgfbkebbnfcgkaa
end

section
namespace Go
/-- What stands of a router as long as it lives: its blocks lie from lo on, below hi. -/
structure DC where
  lo : Nat
  hi : Nat
  bd : Nat
  br : Nat
  costs : List Int
  own : List Nt
  ac : Option Addr
  ao : Option Addr
  cc : Nat
  co : Nat
end Go
namespace Go.Proofs.Ytgfbkebbnfcgkaa
open Go.RowKit
/-- A router: what it heard of; how many messages were bad. Its rib's list lies from base on. -/
structure Dmn (w : World) (base : Nat) (D : DC) (now : Int) (l : List Td) (bad : Int) : Prop where
  blk : Blk w.heap D.bd 66 [.pointer (some ⟨D.br, 0, none⟩), .slice D.ac D.costs.length D.cc, .slice D.ao D.own.length D.co, .int .i64 bad]
  rib : IsRib w.heap base D.br now l
  ok : RibOk now l
  cost : Ints w.heap D.ac D.costs
  owns : Recs w.heap D.ao 2 Nt.cells D.own
  near : nearE D.costs = none
  net : ∀ x ∈ D.own, netErr x.a x.n = none ∧ (0 ≤ x.a ∧ x.a < 4294967296)
  nodup : D.own.Nodup
  o25 : D.own.length ≤ 25
  by' : ∀ x ∈ l, x.f < D.costs.length ∧ netErr x.a x.n = none
  out : ∀ x ∈ l, (⟨x.a, x.n⟩ : Nt) ∉ D.own
  lbd : D.lo ≤ D.bd ∧ D.bd < D.hi
  lbr : D.lo ≤ D.br ∧ D.br < D.hi
  lac : ∀ b off, D.ac = some ⟨b, off, none⟩ → D.lo ≤ b ∧ b < D.hi ∧ b ≠ D.bd ∧ b ≠ D.br
  lao : ∀ b off, D.ao = some ⟨b, off, none⟩ → D.lo ≤ b ∧ b < D.hi ∧ b ≠ D.bd ∧ b ≠ D.br
  hib : D.hi ≤ base
  ne : D.bd ≠ D.br
namespace Dmn
variable {w w' : World} {base : Nat} {D : DC} {now : Int} {l : List Td} {bad : Int} {S : Nat → Prop}
/-- Blocks of another type may turn, too. -/
theorem frT (h : Dmn w base D now l bad) (f : Fr S w w') (hs : ∀ k, S k → (k < base ∨ ∀ cur, w.heap[k]? ≠ some (.cells cur 128 (0, 0))) ∧ (k < D.lo ∨ D.hi ≤ k)) : Dmn w' base D now l bad := by
  have hbd := h.lbd
  have hbr := h.lbr
  refine ⟨h.blk.fr f (fun e => by have := (hs _ e).2; omega), h.rib.frT f (fun k hk => ⟨(hs k hk).1, by have := (hs k hk).2; omega⟩), h.ok, h.cost.fr f (fun b off e hb => by have := h.lac b off e; have := (hs b hb).2; omega), h.owns.fr f (fun b off e hb => by have := h.lao b off e; have := (hs b hb).2; omega),
    h.near, h.net, h.nodup, h.o25, h.by', h.out, h.lbd, h.lbr, h.lac, h.lao, h.hib, h.ne⟩
theorem fr (h : Dmn w base D now l bad) (f : Fr S w w') (hs : ∀ k, S k → k < base ∧ (k < D.lo ∨ D.hi ≤ k)) : Dmn w' base D now l bad := h.frT f (fun k hk => ⟨.inl (hs k hk).1, (hs k hk).2⟩)
theorem fr0 (h : Dmn w base D now l bad) (f : Fr (fun _ => False) w w') : Dmn w' base D now l bad := h.fr f (fun _ h => h.elim)
theorem lt (h : Dmn w base D now l bad) : D.bd < w.heap.size ∧ D.br < w.heap.size := ⟨h.blk.lt, h.rib.lt⟩
theorem l64 (h : Dmn w base D now l bad) : l.length ≤ 64 := h.ok.len
theorem c8 (h : Dmn w base D now l bad) : D.costs.length ≤ 8 := (nearE_ok h.near).1
theorem cells (h : Dmn w base D now l bad) : w.cell? ⟨D.bd, 0, none⟩ = some (.pointer (some ⟨D.br, 0, none⟩)) ∧ w.cell? ⟨D.bd, 1, none⟩ = some (.slice D.ac D.costs.length D.cc) ∧ w.cell? ⟨D.bd, 2, none⟩ = some (.slice D.ao D.own.length D.co) ∧ w.cell? ⟨D.bd, 3, none⟩ = some (.int .i64 bad) ∧ w.frozen? ⟨D.bd, 3, none⟩ = false ∧ D.bd < w.heap.size :=
  ⟨h.blk.cell 0, h.blk.cell 1, h.blk.cell 2, h.blk.cell 3, h.blk.frozen 3, h.blk.lt⟩
/-- The rib has turned. -/
theorem put {now' : Int} {l' : List Td} (h : Dmn w base D now l bad) (f : Fr (fun k => k = D.br) w w') (hR : IsRib w'.heap base D.br now' l') (hok : RibOk now' l') (hby : ∀ x ∈ l', x.f < D.costs.length ∧ netErr x.a x.n = none) (hout : ∀ x ∈ l', (⟨x.a, x.n⟩ : Nt) ∉ D.own) : Dmn w' base D now' l' bad :=
  ⟨h.blk.fr f (fun e => h.ne e), hR, hok, h.cost.fr f (fun b off e hb => (h.lac b off e).2.2.2 hb), h.owns.fr f (fun b off e hb => (h.lao b off e).2.2.2 hb), h.near, h.net, h.nodup, h.o25, hby, hout, h.lbd, h.lbr, h.lac, h.lao, h.hib, h.ne⟩
/-- One more was bad. -/
theorem worse (h : Dmn w base D now l bad) : Dmn (w.setCell ⟨D.bd, 3, none⟩ (.int .i64 (bad + 1))) base D now l (bad + 1) := by
  have f : Fr (fun k => k = D.bd) w (w.setCell ⟨D.bd, 3, none⟩ (.int .i64 (bad + 1))) := (Fr.refl (fun k => k = D.bd) w).setCell (p := ⟨D.bd, 3, none⟩) (fun _ => rfl) _
  have hbd := h.lbd
  have hib := h.hib
  exact ⟨h.blk.set 3 (.int .i64 (bad + 1)), h.rib.fr f (fun k hk => ⟨by omega, by rw [hk]; exact h.ne⟩), h.ok, h.cost.fr f (fun b off e hb => (h.lac b off e).2.2.1 hb), h.owns.fr f (fun b off e hb => (h.lao b off e).2.2.1 hb), h.near, h.net, h.nodup, h.o25, h.by', h.out, h.lbd, h.lbr, h.lac, h.lao, h.hib, h.ne⟩
end Dmn

/-! What is known of neighbours and nets stays so. -/
theorem age1_mem {now : Int} {x : Td} {l : List Td} (h : x ∈ rAged now l) : ∃ y ∈ l, y.f = x.f ∧ y.a = x.a ∧ y.n = x.n := by
  obtain ⟨y, hy, he⟩ := List.mem_filterMap.1 h
  have := age1_key he
  exact ⟨y, hy, this.1.symm, this.2.1.symm, this.2.2.symm⟩
theorem lost_mem {f now : Int} {x : Td} {l : List Td} (h : x ∈ rLost f now l) : ∃ y ∈ l, y.f = x.f ∧ y.a = x.a ∧ y.n = x.n := by
  obtain ⟨z, hz, rfl⟩ := List.mem_map.1 h
  obtain ⟨y, hy, h1, h2, h3⟩ := age1_mem hz
  obtain ⟨k1, k2, k3⟩ := lose1_key f now z
  exact ⟨y, hy, by rw [k1, h1], by rw [k2, h2], by rw [k3, h3]⟩
theorem rPut_mem {A l' : List Td} {f a n m now : Int} (h : rPut A f a n m now = .ok l') {x : Td} (hx : x ∈ l') : (x.f = f ∧ x.a = a ∧ x.n = n) ∨ x ∈ A := by
  unfold rPut at h
  split at h
  · rename_i hr
    split at h
    · cases h; exact .inr hx
    · cases h
      rcases List.mem_or_eq_of_mem_set hx with h1 | h1
      · exact .inr h1
      · subst h1
        first
          | exact .inl ⟨rfl, rfl, rfl⟩
          | exact .inl ⟨hr.2.1, hr.2.2.1, hr.2.2.2⟩
  · split at h
    · cases h; exact .inr hx
    · split at h
      · cases h
      · cases h
        simp only [List.mem_append, List.mem_cons] at hx
        rcases hx with h1 | rfl | h1
        · exact .inr (List.mem_of_mem_take h1)
        · exact .inl ⟨rfl, rfl, rfl⟩
        · exact .inr (List.mem_of_mem_drop h1)
/-- What is wrong with own nets. -/
def ownErr (seen : List Nt) : List Nt → Option Int
  | [] => none
  | x :: r => match netErr x.a x.n with
    | some k => some k
    | none => if x ∈ seen then some 5 else ownErr (seen ++ [x]) r
def dnewE (costs : List Int) (own : List Nt) : Option Int := match nearE costs with
  | some k => some k
  | none => match ownErr [] own with
    | some k => some k
    | none => if 25 < own.length then some 4 else none
theorem ownErr_ok : ∀ (r seen : List Nt), ownErr seen r = none → (∀ x ∈ r, netErr x.a x.n = none ∧ x ∉ seen) ∧ r.Nodup := by
  intro r
  induction r with
  | nil => intro seen _; exact ⟨(fun _ h => nomatch h), List.nodup_nil⟩
  | cons x r ih =>
    intro seen h
    unfold ownErr at h
    cases hn : netErr x.a x.n with
    | some k => rw [hn] at h; cases h
    | none =>
      rw [hn] at h
      simp only at h
      split at h
      · cases h
      · rename_i hs
        obtain ⟨h1, h2⟩ := ih _ h
        refine ⟨fun y hy => ?_, List.nodup_cons.2 ⟨fun hx => (h1 x hx).2 (by simp), h2⟩⟩
        rcases List.mem_cons.1 hy with rfl | hy
        · exact ⟨hn, hs⟩
        · exact ⟨(h1 y hy).1, fun hh => (h1 y hy).2 (by simp [hh])⟩
theorem dnewE_ok {costs : List Int} {own : List Nt} (h : dnewE costs own = none) : nearE costs = none ∧ (∀ x ∈ own, netErr x.a x.n = none) ∧ own.Nodup ∧ own.length ≤ 25 := by
  unfold dnewE at h
  cases hn : nearE costs with
  | some k => rw [hn] at h; cases h
  | none =>
    rw [hn] at h
    simp only at h
    cases ho : ownErr [] own with
    | some k => rw [ho] at h; cases h
    | none =>
      rw [ho] at h
      simp only at h
      split at h
      · cases h
      · obtain ⟨h1, h2⟩ := ownErr_ok own [] ho
        exact ⟨rfl, fun x hx => (h1 x hx).1, h2, by omega⟩
/-- A router that was made. -/
def RetDNew (w : World) (costs : List Int) (own : List Nt) (r : Option Int) (e : Ending) (w' : World) : Prop := match r with
  | some k => RetV w (.tuple #[.pointer none, errv k]) e w'
  | none => ∃ D : DC, e = .returned (.tuple #[.pointer (some ⟨D.bd, 0, none⟩), .nilIface]) ∧ D.costs = costs ∧ D.own = own ∧ w.heap.size ≤ D.lo ∧ D.hi = w'.heap.size ∧ (∀ base, w'.heap.size ≤ base → Dmn w' base D 0 [] 0) ∧ Fr (fun _ => False) w w'
theorem RetDNew.err {w w' : World} {costs : List Int} {own : List Nt} {r : Option Int} {e : Ending} {k : Int} (hr : r = some k) (he : e = .returned (.tuple #[.pointer none, errv k])) (hF : Fr (fun _ => False) w w') : RetDNew w costs own r e w' := by subst hr; exact ⟨he, hF⟩
theorem RetDNew.ok {w w' : World} {costs : List Int} {own : List Nt} {r : Option Int} {e : Ending} (hr : r = none) {D : DC} (he : e = .returned (.tuple #[.pointer (some ⟨D.bd, 0, none⟩), .nilIface])) (h1 : D.costs = costs) (h2 : D.own = own) (h3 : w.heap.size ≤ D.lo) (h4 : D.hi = w'.heap.size) (h5 : ∀ base, w'.heap.size ≤ base → Dmn w' base D 0 [] 0) (hF : Fr (fun _ => False) w w') : RetDNew w costs own r e w' := by
  subst hr; exact ⟨D, he, h1, h2, h3, h4, h5, hF⟩
theorem RetDNew.errE {w w' : World} {costs : List Int} {own : List Nt} {r : Option Int} {e : Ending} {k : Int} (h : RetDNew w costs own r e w') (hr : r = some k) : RetV w (.tuple #[.pointer none, errv k]) e w' := by subst hr; exact h
theorem RetDNew.okE {w w' : World} {costs : List Int} {own : List Nt} {r : Option Int} {e : Ending} (h : RetDNew w costs own r e w') (hr : r = none) : ∃ D : DC, e = .returned (.tuple #[.pointer (some ⟨D.bd, 0, none⟩), .nilIface]) ∧ D.costs = costs ∧ D.own = own ∧ w.heap.size ≤ D.lo ∧ D.hi = w'.heap.size ∧ (∀ base, w'.heap.size ≤ base → Dmn w' base D 0 [] 0) ∧ Fr (fun _ => False) w w' := by subst hr; exact h
end Go.Proofs.Ytgfbkebbnfcgkaa
end
