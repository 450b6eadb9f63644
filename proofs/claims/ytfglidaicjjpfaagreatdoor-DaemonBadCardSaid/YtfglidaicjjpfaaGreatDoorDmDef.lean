import Derived.Test.YtfglidaicjjpfaaGreatDoorRibCom
import Derived.Test.YtfglidaicjjpfaaGreatDoorEngGet
import Derived.Test.YtfglidaicjjpfaaGreatDoorNetClone
import Derived.Test.YtfglidaicjjpfaaGreatDoorNetIn
namespace Go
/-- What stands of a router as long as it lives: its blocks lie from lo on, below hi. -/
structure DC where
  lo : Nat
  hi : Nat
  bd : Nat
  br : Nat
  costs : List Int
  own : List Nt
  ac : Option Addr
  ao : Option Addr
  cc : Nat
  co : Nat
end Go
namespace Go.Proofs.YtfglidaicjjpfaaGreatDoor
open Go.RowKit
/-- A router: what it heard of; how many messages were bad. Its rib's list lies from base on. -/
structure Dmn (w : World) (base : Nat) (D : DC) (now : Int) (l : List Td) (bad : Int) : Prop where
  blk : Blk w.heap D.bd 84 [.pointer (some ⟨D.br, 0, none⟩), .slice D.ac D.costs.length D.cc, .slice D.ao D.own.length D.co, .int .i64 bad]
  rib : IsRib w.heap base D.br now l
  ok : RibOk now l
  cost : Ints w.heap D.ac D.costs
  owns : Recs w.heap D.ao 2 Nt.cells D.own
  near : nearE D.costs = none
  net : ∀ x ∈ D.own, netErr x.a x.n = none ∧ (0 ≤ x.a ∧ x.a < 4294967296)
  nodup : D.own.Nodup
  o25 : D.own.length ≤ 25
  by' : ∀ x ∈ l, x.f < D.costs.length ∧ netErr x.a x.n = none
  out : ∀ x ∈ l, (⟨x.a, x.n⟩ : Nt) ∉ D.own
  lbd : D.lo ≤ D.bd ∧ D.bd < D.hi
  lbr : D.lo ≤ D.br ∧ D.br < D.hi
  lac : ∀ b off, D.ac = some ⟨b, off, none⟩ → D.lo ≤ b ∧ b < D.hi ∧ b ≠ D.bd ∧ b ≠ D.br
  lao : ∀ b off, D.ao = some ⟨b, off, none⟩ → D.lo ≤ b ∧ b < D.hi ∧ b ≠ D.bd ∧ b ≠ D.br
  hib : D.hi ≤ base
  ne : D.bd ≠ D.br
namespace Dmn
variable {w w' : World} {base : Nat} {D : DC} {now : Int} {l : List Td} {bad : Int} {S : Nat → Prop}
/-- Blocks of another type may turn, too. -/
theorem frT (h : Dmn w base D now l bad) (f : Fr S w w') (hs : ∀ k, S k → (k < base ∨ ∀ cur, w.heap[k]? ≠ some (.cells cur 126 (0, 0))) ∧ (k < D.lo ∨ D.hi ≤ k)) : Dmn w' base D now l bad := by
  have hbd := h.lbd
  have hbr := h.lbr
  refine ⟨h.blk.fr f (fun e => by have := (hs _ e).2; omega), h.rib.frT f (fun k hk => ⟨(hs k hk).1, by have := (hs k hk).2; omega⟩), h.ok, h.cost.fr f (fun b off e hb => by have := h.lac b off e; have := (hs b hb).2; omega), h.owns.fr f (fun b off e hb => by have := h.lao b off e; have := (hs b hb).2; omega),
    h.near, h.net, h.nodup, h.o25, h.by', h.out, h.lbd, h.lbr, h.lac, h.lao, h.hib, h.ne⟩
theorem fr (h : Dmn w base D now l bad) (f : Fr S w w') (hs : ∀ k, S k → k < base ∧ (k < D.lo ∨ D.hi ≤ k)) : Dmn w' base D now l bad := h.frT f (fun k hk => ⟨.inl (hs k hk).1, (hs k hk).2⟩)
theorem fr0 (h : Dmn w base D now l bad) (f : Fr (fun _ => False) w w') : Dmn w' base D now l bad := h.fr f (fun _ h => h.elim)
theorem lt (h : Dmn w base D now l bad) : D.bd < w.heap.size ∧ D.br < w.heap.size := ⟨h.blk.lt, h.rib.lt⟩
theorem l64 (h : Dmn w base D now l bad) : l.length ≤ 64 := h.ok.len
theorem c8 (h : Dmn w base D now l bad) : D.costs.length ≤ 8 := (nearE_ok h.near).1
theorem cells (h : Dmn w base D now l bad) : w.cell? ⟨D.bd, 0, none⟩ = some (.pointer (some ⟨D.br, 0, none⟩)) ∧ w.cell? ⟨D.bd, 1, none⟩ = some (.slice D.ac D.costs.length D.cc) ∧ w.cell? ⟨D.bd, 2, none⟩ = some (.slice D.ao D.own.length D.co) ∧ w.cell? ⟨D.bd, 3, none⟩ = some (.int .i64 bad) ∧ w.frozen? ⟨D.bd, 3, none⟩ = false ∧ D.bd < w.heap.size :=
  ⟨h.blk.cell 0, h.blk.cell 1, h.blk.cell 2, h.blk.cell 3, h.blk.frozen 3, h.blk.lt⟩
/-- The rib has turned. -/
theorem put {now' : Int} {l' : List Td} (h : Dmn w base D now l bad) (f : Fr (fun k => k = D.br) w w') (hR : IsRib w'.heap base D.br now' l') (hok : RibOk now' l') (hby : ∀ x ∈ l', x.f < D.costs.length ∧ netErr x.a x.n = none) (hout : ∀ x ∈ l', (⟨x.a, x.n⟩ : Nt) ∉ D.own) : Dmn w' base D now' l' bad :=
  ⟨h.blk.fr f (fun e => h.ne e), hR, hok, h.cost.fr f (fun b off e hb => (h.lac b off e).2.2.2 hb), h.owns.fr f (fun b off e hb => (h.lao b off e).2.2.2 hb), h.near, h.net, h.nodup, h.o25, hby, hout, h.lbd, h.lbr, h.lac, h.lao, h.hib, h.ne⟩
/-- One more was bad. -/
theorem worse (h : Dmn w base D now l bad) : Dmn (w.setCell ⟨D.bd, 3, none⟩ (.int .i64 (bad + 1))) base D now l (bad + 1) := by
  have f : Fr (fun k => k = D.bd) w (w.setCell ⟨D.bd, 3, none⟩ (.int .i64 (bad + 1))) := (Fr.refl (fun k => k = D.bd) w).setCell (p := ⟨D.bd, 3, none⟩) (fun _ => rfl) _
  have hbd := h.lbd
  have hib := h.hib
  exact ⟨h.blk.set 3 (.int .i64 (bad + 1)), h.rib.fr f (fun k hk => ⟨by omega, by rw [hk]; exact h.ne⟩), h.ok, h.cost.fr f (fun b off e hb => (h.lac b off e).2.2.1 hb), h.owns.fr f (fun b off e hb => (h.lao b off e).2.2.1 hb), h.near, h.net, h.nodup, h.o25, h.by', h.out, h.lbd, h.lbr, h.lac, h.lao, h.hib, h.ne⟩
end Dmn

/-! What is known of neighbours and nets stays so. -/
theorem age1_mem {now : Int} {x : Td} {l : List Td} (h : x ∈ rAged now l) : ∃ y ∈ l, y.f = x.f ∧ y.a = x.a ∧ y.n = x.n := by
  obtain ⟨y, hy, he⟩ := List.mem_filterMap.1 h
  have := age1_key he
  exact ⟨y, hy, this.1.symm, this.2.1.symm, this.2.2.symm⟩
theorem lost_mem {f now : Int} {x : Td} {l : List Td} (h : x ∈ rLost f now l) : ∃ y ∈ l, y.f = x.f ∧ y.a = x.a ∧ y.n = x.n := by
  obtain ⟨z, hz, rfl⟩ := List.mem_map.1 h
  obtain ⟨y, hy, h1, h2, h3⟩ := age1_mem hz
  obtain ⟨k1, k2, k3⟩ := lose1_key f now z
  exact ⟨y, hy, by rw [k1, h1], by rw [k2, h2], by rw [k3, h3]⟩
theorem rPut_mem {A l' : List Td} {f a n m now : Int} (h : rPut A f a n m now = .ok l') {x : Td} (hx : x ∈ l') : (x.f = f ∧ x.a = a ∧ x.n = n) ∨ x ∈ A := by
  unfold rPut at h
  split at h
  · rename_i hr
    split at h
    · cases h; exact .inr hx
    · cases h
      rcases List.mem_or_eq_of_mem_set hx with h1 | h1
      · exact .inr h1
      · subst h1
        first
          | exact .inl ⟨rfl, rfl, rfl⟩
          | exact .inl ⟨hr.2.1, hr.2.2.1, hr.2.2.2⟩
  · split at h
    · cases h; exact .inr hx
    · split at h
      · cases h
      · cases h
        simp only [List.mem_append, List.mem_cons] at hx
        rcases hx with h1 | rfl | h1
        · exact .inr (List.mem_of_mem_take h1)
        · exact .inl ⟨rfl, rfl, rfl⟩
        · exact .inr (List.mem_of_mem_drop h1)
/-- What is wrong with own nets. -/
def ownErr (seen : List Nt) : List Nt → Option Int
  | [] => none
  | x :: r => match netErr x.a x.n with
    | some k => some k
    | none => if x ∈ seen then some 5 else ownErr (seen ++ [x]) r
def dnewE (costs : List Int) (own : List Nt) : Option Int := match nearE costs with
  | some k => some k
  | none => match ownErr [] own with
    | some k => some k
    | none => if 25 < own.length then some 4 else none
theorem ownErr_ok : ∀ (r seen : List Nt), ownErr seen r = none → (∀ x ∈ r, netErr x.a x.n = none ∧ x ∉ seen) ∧ r.Nodup := by
  intro r
  induction r with
  | nil => intro seen _; exact ⟨(fun _ h => nomatch h), List.nodup_nil⟩
  | cons x r ih =>
    intro seen h
    unfold ownErr at h
    cases hn : netErr x.a x.n with
    | some k => rw [hn] at h; cases h
    | none =>
      rw [hn] at h
      simp only at h
      split at h
      · cases h
      · rename_i hs
        obtain ⟨h1, h2⟩ := ih _ h
        refine ⟨fun y hy => ?_, List.nodup_cons.2 ⟨fun hx => (h1 x hx).2 (by simp), h2⟩⟩
        rcases List.mem_cons.1 hy with rfl | hy
        · exact ⟨hn, hs⟩
        · exact ⟨(h1 y hy).1, fun hh => (h1 y hy).2 (by simp [hh])⟩
theorem dnewE_ok {costs : List Int} {own : List Nt} (h : dnewE costs own = none) : nearE costs = none ∧ (∀ x ∈ own, netErr x.a x.n = none) ∧ own.Nodup ∧ own.length ≤ 25 := by
  unfold dnewE at h
  cases hn : nearE costs with
  | some k => rw [hn] at h; cases h
  | none =>
    rw [hn] at h
    simp only at h
    cases ho : ownErr [] own with
    | some k => rw [ho] at h; cases h
    | none =>
      rw [ho] at h
      simp only at h
      split at h
      · cases h
      · obtain ⟨h1, h2⟩ := ownErr_ok own [] ho
        exact ⟨rfl, fun x hx => (h1 x hx).1, h2, by omega⟩
/-- A router that was made. -/
def RetDNew (w : World) (costs : List Int) (own : List Nt) (r : Option Int) (e : Ending) (w' : World) : Prop := match r with
  | some k => RetV w (.tuple #[.pointer none, errv k]) e w'
  | none => ∃ D : DC, e = .returned (.tuple #[.pointer (some ⟨D.bd, 0, none⟩), .nilIface]) ∧ D.costs = costs ∧ D.own = own ∧ w.heap.size ≤ D.lo ∧ D.hi = w'.heap.size ∧ (∀ base, w'.heap.size ≤ base → Dmn w' base D 0 [] 0) ∧ Fr (fun _ => False) w w'
theorem RetDNew.err {w w' : World} {costs : List Int} {own : List Nt} {r : Option Int} {e : Ending} {k : Int} (hr : r = some k) (he : e = .returned (.tuple #[.pointer none, errv k])) (hF : Fr (fun _ => False) w w') : RetDNew w costs own r e w' := by subst hr; exact ⟨he, hF⟩
theorem RetDNew.ok {w w' : World} {costs : List Int} {own : List Nt} {r : Option Int} {e : Ending} (hr : r = none) {D : DC} (he : e = .returned (.tuple #[.pointer (some ⟨D.bd, 0, none⟩), .nilIface])) (h1 : D.costs = costs) (h2 : D.own = own) (h3 : w.heap.size ≤ D.lo) (h4 : D.hi = w'.heap.size) (h5 : ∀ base, w'.heap.size ≤ base → Dmn w' base D 0 [] 0) (hF : Fr (fun _ => False) w w') : RetDNew w costs own r e w' := by
  subst hr; exact ⟨D, he, h1, h2, h3, h4, h5, hF⟩
theorem RetDNew.errE {w w' : World} {costs : List Int} {own : List Nt} {r : Option Int} {e : Ending} {k : Int} (h : RetDNew w costs own r e w') (hr : r = some k) : RetV w (.tuple #[.pointer none, errv k]) e w' := by subst hr; exact h
theorem RetDNew.okE {w w' : World} {costs : List Int} {own : List Nt} {r : Option Int} {e : Ending} (h : RetDNew w costs own r e w') (hr : r = none) : ∃ D : DC, e = .returned (.tuple #[.pointer (some ⟨D.bd, 0, none⟩), .nilIface]) ∧ D.costs = costs ∧ D.own = own ∧ w.heap.size ≤ D.lo ∧ D.hi = w'.heap.size ∧ (∀ base, w'.heap.size ≤ base → Dmn w' base D 0 [] 0) ∧ Fr (fun _ => False) w w' := by subst hr; exact h
end Go.Proofs.YtfglidaicjjpfaaGreatDoor
