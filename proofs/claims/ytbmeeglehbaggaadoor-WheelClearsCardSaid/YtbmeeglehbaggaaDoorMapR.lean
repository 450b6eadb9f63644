import Derived.Test.YtbmeeglehbaggaaDoorMapL
namespace Go
open Go.RowKit Go.Maps Go.WideShapes

/-- A loop over map b under way (r: its iterator): 'rest' is still to come. -/
def MapR {κ : Type} (w : World) (P : Program) (k : TypeId) (kl : κ → Lit) (b r : Nat) (L rest : List (κ × Value)) (cnt : Nat) : Prop :=
  ∃ (es : List (Lit × DataW Value)) (left : Lit → Bool), w.ranges P k heldR b r es.length (.map es) left cnt ∧ es.Perm (L.map fun p => (kl p.1, .held p.2)) ∧
    (∀ p ∈ rest, left (kl p.1) = true) ∧ (∀ z, left z = true → ∃ p ∈ rest, kl p.1 = z) ∧ (∀ p ∈ rest, p ∈ L)

variable {κ : Type} {w w' : World} {P : Program} {k : TypeId} {kl : κ → Lit} {b r cnt : Nat} {L rest : List (κ × Value)}

theorem MapR.left_eq (h : MapR w P k kl b r L rest cnt) : w.rangeLeft b r = cnt := by
  obtain ⟨es, left, h1, _⟩ := h
  exact h1.left_eq
theorem MapR.map (h : MapR w P k kl b r L rest cnt) : MapL w P k kl b L := by
  obtain ⟨es, left, h1, h2, _⟩ := h
  exact ⟨es, h1.owns, h2⟩
theorem MapR.lt (h : MapR w P k kl b r L rest cnt) : r < w.heap.size := by
  obtain ⟨es, left, h1, _⟩ := h
  exact h1.lt
theorem MapR.sub (h : MapR w P k kl b r L rest cnt) : ∀ p ∈ rest, p ∈ L := by
  obtain ⟨es, left, _, _, _, _, h⟩ := h
  exact h
theorem MapR.fr {S : Nat → Prop} (h : MapR w P k kl b r L rest cnt) (f : Fr S w w') (hb : ¬ S b) (hr : ¬ S r) : MapR w' P k kl b r L rest cnt := by
  obtain ⟨es, left, h1, h2, h3⟩ := h
  have l1 := h1.owns.lt
  have l2 := h1.lt
  obtain ⟨xs, clock, since, seen, c0, q1, q2, q3, q4, q5, q6⟩ := h1
  exact ⟨es, left, ⟨xs, clock, since, seen, c0, (f.block b l1 hb).trans q1, q2, q3, q4, (f.block r l2 hr).trans q5, q6⟩, h2, h3⟩

section
variable [DecidableEq κ] {ops : Array Oper} {rest' : List Oper} {o : Oper} {a : Act} {Q : Exit → Act → World → Prop}
omit [DecidableEq κ] in
/-- 'range m'. -/
theorem wpList_rangeL (hg : o.guard = none) (m : Operand) (t : TypeId) (hop : o.op = Op.range t m) (k e : TypeId) (K : Keyed P k) (ht : P.underlying t = some (.map k e)) (b : Nat) (L : List (κ × Value)) (kl : κ → Lit)
    (hm : a.eval m = .map (some b)) (hM : MapL w P k kl b L)
    (hK : ∀ w', MapR w' P k kl b w.heap.size L L L.length → Fr (fun _ => False) w w' → w'.heap.size = w.heap.size + 1 → wpList P ops Q rest' (a.put o.dst (.pointer (some ⟨w.heap.size, 0, none⟩))) w') :
    wpList P ops Q (o :: rest') a w := by
  have hk := hM.isKey K
  obtain ⟨es, h1, h2⟩ := hM
  have el : es.length = L.length := by rw [h2.length_eq]; simp
  refine wpList_range_own w hg m t hop k e K ht heldR b _ _ hm h1 (fun w' r1 r2 r3 => ?_)
  refine hK w' ⟨es, _, by rw [Maps.size_eq, el] at r1; rw [el]; exact r1, h2, fun p hp => ?_, fun z hz => ?_, fun p hp => hp⟩ ⟨r2.os, r2.tape, r2.output, r2.size, fun i hi hb => r2.block i hi (by simp)⟩ r3
  · rw [Maps.has_eq, List.any_eq_true]
    exact ⟨(kl p.1, .held p.2), h2.mem_iff.2 (List.mem_map.2 ⟨p, hp, rfl⟩), WideAt.sameKey_self (hk p hp)⟩
  · rw [Maps.has_eq, List.any_eq_true] at hz
    obtain ⟨q, hq, hs⟩ := hz
    obtain ⟨p, hp, rfl⟩ := List.mem_map.1 (h2.mem_iff.1 hq)
    exact ⟨p, hp, WideAt.sameKey_eq hs⟩
/-- The step. -/
theorem wpList_nextL (hg : o.guard = none) (it : Operand) (hop : o.op = Op.next it false) (k : TypeId) (K : Keyed P k) (b r : Nat) (L rest : List (κ × Value)) (cnt : Nat) (kl : κ → Lit) (kv : κ → Value)
    (hit : a.eval it = .pointer (some ⟨r, 0, none⟩)) (h : MapR w P k kl b r L rest cnt) (hkv : ∀ p ∈ L, keyOf P k (kv p.1) = some (kl p.1)) (hi : ∀ p ∈ L, ∀ q ∈ L, kl p.1 = kl q.1 → p.1 = q.1)
    (hDone : cnt = 0 → rest = [] → wpList P ops Q rest' (a.put o.dst (.tuple #[.bool false])) w)
    (hMore : ∀ p w' cnt', p ∈ rest → MapR w' P k kl b r L (mdel rest p.1) cnt' → cnt' < cnt → Fr (fun i => i = r) w w' → w'.heap.size = w.heap.size → (Instr.entry (.pointer (some ⟨r, 0, none⟩))).run P w' = .ok (.tuple #[kv p.1, p.2]) w' →
      wpList P ops Q rest' (a.put o.dst (.tuple #[.bool true, kv p.1, p.2])) w') :
    wpList P ops Q (o :: rest') a w := by
  obtain ⟨es, left, h1, h2, h3, h4, h5⟩ := h
  refine wpList_plain hg fun K' hK' => ?_
  unfold Oper.wp
  rcases h1.next K o.type with ⟨h0, hl, hrun⟩ | ⟨key, v, z, y, w', cnt', hkey, hlk, hv, hat, hrun, hrg, hlt, hgr, hsz, hen⟩
  · simp [execOp, hop, hit, hrun, Result.andThen]
    refine hK' _ _ (hDone h0 ?_)
    cases rest with
    | nil => rfl
    | cons p _ => have := h3 p (by simp); rw [hl] at this; cases this
  · obtain ⟨p, hp, rfl⟩ := h4 z hlk
    obtain rfl : kv p.1 = key := K.inj (hkv p (h5 p hp)) hkey
    have hkk := K.key hkey
    have hv' := congrArg Prod.fst (Option.some.inj hv)
    simp only [] at hv'
    obtain ⟨es', e, hpw, _⟩ := h1.owns.entries K
    cases e
    have ha := hat (.held v)
    rw [WideAt.atKey_mem _ hkk hpw (h2.mem_iff.2 (List.mem_map.2 ⟨p, h5 p hp, rfl⟩)), ← hv'] at ha
    cases ha
    simp [execOp, hop, hit, hrun, Result.andThen]
    refine hK' _ _ (hMore p w' cnt' hp ⟨es, _, hrg, h2, fun q hq => ?_, fun z hz => ?_, fun q hq => h5 q (List.mem_filter.1 hq).1⟩ hlt ⟨hgr.os, hgr.tape, hgr.output, hgr.size, fun i hi' hb => hgr.block i hi' (fun e => hb (Option.some.inj e))⟩ hsz hen)
    · obtain ⟨q1, q2⟩ := List.mem_filter.1 hq
      have hne : q.1 ≠ p.1 := by simpa using q2
      rw [h3 q q1, Maps.sameKey_ne (fun e => hne (hi q (h5 q q1) p (h5 p hp) e))]
      rfl
    · simp only [Bool.and_eq_true, Bool.not_eq_true'] at hz
      obtain ⟨q, q1, rfl⟩ := h4 z hz.1
      refine ⟨q, List.mem_filter.2 ⟨q1, ?_⟩, rfl⟩
      simp only [decide_eq_true_eq]
      intro e
      have := hz.2
      rw [e, WideAt.sameKey_self hkk] at this
      cases this
end
end Go
