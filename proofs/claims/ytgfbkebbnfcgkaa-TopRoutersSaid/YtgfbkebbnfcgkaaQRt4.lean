import Derived.Test.YtgfbkebbnfcgkaaBase
import Derived.Maps.OwnSet
import Derived.Maps.RangeWalk
section
namespace Go
open Go.RowKit Go.Maps Go.WideShapes

/-- Elements read as themselves. -/
def heldR (v : Value) : Option (DataW Value × List MemPlace) := some (.held v, [])

/-- Block b is a map whose entries are those of L (keys by kl). -/
def MapL {κ : Type} (w : World) (P : Program) (k : TypeId) (kl : κ → Lit) (b : Nat) (L : List (κ × Value)) : Prop :=
  ∃ es : List (Lit × DataW Value), w.ownsMap P k heldR b es.length (.map es) ∧ es.Perm (L.map fun p => (kl p.1, .held p.2))

theorem ownsMap_tight {H : Type} {w : World} {P : Program} {k : TypeId} {R : Value → Option (DataW H × List MemPlace)} {b n : Nat} {es : List (Lit × DataW H)} (h : w.ownsMap P k R b n (.map es)) : w.ownsMap P k R b es.length (.map es) := by
  obtain ⟨xs, clock, hb, F, hs, hD⟩ := h
  refine ⟨xs, clock, hb, F, ?_, hD⟩
  cases hD
  rw [length_sorted]
  simp
def mget {κ : Type} [DecidableEq κ] (L : List (κ × Value)) (q : κ) : Option Value := (L.find? fun p => p.1 = q).map (·.2)
def mput {κ : Type} [DecidableEq κ] (L : List (κ × Value)) (q : κ) (v : Value) : List (κ × Value) := (q, v) :: L.filter fun p => ¬ p.1 = q
def mdel {κ : Type} [DecidableEq κ] (L : List (κ × Value)) (q : κ) : List (κ × Value) := L.filter fun p => ¬ p.1 = q

variable {κ : Type} {w w' : World} {P : Program} {k : TypeId} {kl : κ → Lit} {b : Nat} {L : List (κ × Value)}

theorem MapL.made (w : World) (P : Program) (k : TypeId) (kl : κ → Lit) : MapL (w.alloc (.map #[] 0)) P k kl w.heap.size [] :=
  ⟨[], World.ownsMap_made _ _ _ _, List.Perm.refl _⟩
theorem MapL.lt (h : MapL w P k kl b L) : b < w.heap.size := by obtain ⟨es, h1, _⟩ := h; exact h1.lt
theorem MapL.fr {S : Nat → Prop} (h : MapL w P k kl b L) (f : Fr S w w') (hs : ¬ S b) : MapL w' P k kl b L := by
  have hlt := h.lt
  obtain ⟨es, ⟨xs, clock, hb, r⟩, h2⟩ := h
  exact ⟨es, ⟨xs, clock, (f.block b hlt hs).trans hb, r⟩, h2⟩
theorem MapL.size (h : MapL w P k kl b L) : ∃ D : DataW Value, w.ownsMap P k heldR b L.length D ∧ Maps.size D = L.length := by
  obtain ⟨es, h1, h2⟩ := h
  have e : es.length = L.length := by rw [h2.length_eq]; simp
  exact ⟨_, e ▸ h1, by rw [Maps.size_eq, e]⟩

/-- The keys of L that read alike are one; each key stands once. -/
theorem MapL.nodup (h : MapL w P k kl b L) (K : Keyed P k) : L.Pairwise (fun p q => kl p.1 ≠ kl q.1) := by
  obtain ⟨es, h1, h2⟩ := h
  obtain ⟨es', e, hp, _⟩ := h1.entries K
  cases e
  have := (h2.pairwise_iff (R := fun p q : Lit × DataW Value => p.1 ≠ q.1) (fun {_ _} hne => Ne.symm hne)).1 hp
  exact (List.pairwise_map (f := fun p : κ × Value => (kl p.1, (DataW.held p.2 : DataW Value)))).1 this
theorem MapL.isKey (h : MapL w P k kl b L) (K : Keyed P k) : ∀ p ∈ L, WideAt.IsKeyLit (kl p.1) := by
  obtain ⟨es, h1, h2⟩ := h
  obtain ⟨es', e, _, hk⟩ := h1.entries K
  cases e
  intro p hp
  exact hk (kl p.1, .held p.2) (h2.mem_iff.2 (List.mem_map.2 ⟨p, hp, rfl⟩))

variable [DecidableEq κ]
theorem mget_none {q : κ} (h : mget L q = none) : ∀ p ∈ L, p.1 ≠ q := by
  intro p hp e
  unfold mget at h
  rw [Option.map_eq_none_iff, List.find?_eq_none] at h
  exact h p hp (by simpa using e)
theorem mget_some {q : κ} {v : Value} (h : mget L q = some v) : (q, v) ∈ L := by
  unfold mget at h
  obtain ⟨p, hp, rfl⟩ := Option.map_eq_some_iff.1 h
  have h1 := List.mem_of_find?_eq_some hp
  have h2 : p.1 = q := by simpa using List.find?_some hp
  rw [← h2]; exact h1
theorem mput_length {q : κ} {v : Value} : (mput L q v).length ≤ L.length + 1 := by
  unfold mput
  have := List.length_filter_le (fun p : κ × Value => decide (¬ p.1 = q)) L
  simp only [List.length_cons]; omega
theorem mget_put {q r : κ} {v : Value} : mget (mput L q v) r = if r = q then some v else mget L r := by
  unfold mget mput
  by_cases h : r = q
  · subst h; simp
  · rw [if_neg h, List.find?_cons_of_neg (by simpa using Ne.symm h), find_filter_keep]
    intro p hp
    have : p.1 = r := by simpa using hp
    simpa [this] using h
theorem mput_new {q : κ} {v : Value} (h : mget L q = none) : mput L q v = (q, v) :: L := by
  unfold mput
  rw [List.filter_eq_self.2 (fun p hp => by simpa using mget_none h p hp)]

/-- What stands at a key. -/
theorem MapL.at (h : MapL w P k kl b L) (K : Keyed P k) {q : κ} (hi : ∀ p ∈ L, kl p.1 = kl q → p.1 = q) (hq : WideAt.IsKeyLit (kl q)) : ∃ D : DataW Value, w.ownsMap P k heldR b L.length D ∧ IsMap D ∧ Maps.has D (kl q) = (mget L q).isSome ∧ ∀ z, D.atKey (kl q) z = match mget L q with | some v => .held v | none => z := by
  obtain ⟨es, h1, h2⟩ := h
  obtain ⟨es', e, hp, _⟩ := h1.entries K
  cases e
  have el : es.length = L.length := by rw [h2.length_eq]; simp
  refine ⟨_, el ▸ h1, ⟨_, rfl⟩, ?_⟩
  cases hg : mget L q with
  | none =>
    have hn := mget_none hg
    have hh : Maps.has (.map es : DataW Value) (kl q) = false := by
      rw [Maps.has_eq, List.any_eq_false]
      intro p hp hs
      obtain ⟨p', hp', rfl⟩ := List.mem_map.1 (h2.mem_iff.1 hp)
      exact hn p' hp' (hi p' hp' (WideAt.sameKey_eq hs))
    exact ⟨hh, fun z => Maps.atKey_of_not_has hh z⟩
  | some v =>
    have hm : (kl q, DataW.held v) ∈ es := h2.mem_iff.2 (List.mem_map.2 ⟨(q, v), mget_some hg, rfl⟩)
    have ha : ∀ z, (DataW.map es).atKey (kl q) z = .held v := fun z => WideAt.atKey_mem z hq hp hm
    exact ⟨Maps.has_true_of_atKey ha, ha⟩

section
variable {ops : Array Oper} {rest : List Oper} {o : Oper} {a : Act} {Q : Exit → Act → World → Prop}
/-- 'v, ok := m[k]'. -/
theorem wpList_lookL_ok (hg : o.guard = none) (m x : Operand) (t : TypeId) (hop : o.op = Op.lookup t m x true)
    (k e : TypeId) (K : Keyed P k) (ht : P.underlying t = some (.map k e)) {z : Value} (hz : (zeroValue e).run P w = .ok z w) (b : Nat) (L : List (κ × Value)) (kl : κ → Lit)
    (hm : a.eval m = .map (some b)) (hM : MapL w P k kl b L) (key : Value) (q : κ) (hx : a.eval x = key) (hkey : keyOf P k key = some (kl q)) (hi : ∀ p ∈ L, kl p.1 = kl q → p.1 = q)
    (hK : wpList P ops Q rest (a.put o.dst (.tuple #[(mget L q).getD z, .bool (mget L q).isSome])) w) :
    wpList P ops Q (o :: rest) a w := by
  obtain ⟨D, h1, _, h3, h4⟩ := hM.at K hi (K.key hkey)
  refine wpList_lookup_own_ok w hg m x t hop k e K ht heldR hz (.held z) [] rfl b _ D hm h1 key (kl q) hx hkey (fun v ps hv => ?_)
  have hv' := congrArg Prod.fst (Option.some.inj hv)
  simp only [] at hv'
  rw [h4] at hv'
  rw [h3]
  have : v = (mget L q).getD z := by
    cases hg : mget L q with
    | none => rw [hg] at hv'; simpa using hv'
    | some u => rw [hg] at hv'; simpa using hv'
  rw [this]
  exact hK
/-- 'm[k]'. -/
theorem wpList_lookL (hg : o.guard = none) (m x : Operand) (t : TypeId) (hop : o.op = Op.lookup t m x false)
    (k e : TypeId) (K : Keyed P k) (ht : P.underlying t = some (.map k e)) {z : Value} (hz : (zeroValue e).run P w = .ok z w) (b : Nat) (L : List (κ × Value)) (kl : κ → Lit)
    (hm : a.eval m = .map (some b)) (hM : MapL w P k kl b L) (key : Value) (q : κ) (hx : a.eval x = key) (hkey : keyOf P k key = some (kl q)) (hi : ∀ p ∈ L, kl p.1 = kl q → p.1 = q)
    (hK : wpList P ops Q rest (a.put o.dst ((mget L q).getD z)) w) :
    wpList P ops Q (o :: rest) a w := by
  obtain ⟨D, h1, _, h3, h4⟩ := hM.at K hi (K.key hkey)
  obtain ⟨v, ps, hrun, hv⟩ := h1.lookup K ht hz (zd := .held z) (zp := []) rfl hkey
  have hv' := congrArg Prod.fst (Option.some.inj hv)
  simp only [] at hv'
  rw [h4] at hv'
  have : v = (mget L q).getD z := by
    cases hg : mget L q with
    | none => rw [hg] at hv'; simpa using hv'
    | some u => rw [hg] at hv'; simpa using hv'
  refine wpList_plain hg fun K' hK' => ?_
  unfold Oper.wp
  simp [execOp, hop, hm, hx, hrun, Result.andThen]
  refine hK' _ _ ?_
  rw [this]
  exact hK
theorem filter_kl {L : List (κ × Value)} {q : κ} (hi : ∀ p ∈ L, kl p.1 = kl q → p.1 = q) (hq : WideAt.IsKeyLit (kl q)) : (L.map fun p => (kl p.1, (DataW.held p.2 : DataW Value))).filter (fun p => !p.1.sameKey (kl q)) = (L.filter fun p => ¬ p.1 = q).map fun p => (kl p.1, .held p.2) := by
  induction L with
  | nil => rfl
  | cons x L ih =>
    have ih' := ih (fun p hp => hi p (List.mem_cons_of_mem _ hp))
    by_cases hx : x.1 = q
    · have h1 : (kl x.1).sameKey (kl q) = true := by rw [hx]; exact WideAt.sameKey_self hq
      rw [List.map_cons, List.filter_cons_of_neg (by simp [h1]), List.filter_cons_of_neg (by simp [hx])]
      exact ih'
    · have h1 : (kl x.1).sameKey (kl q) = false := Maps.sameKey_ne (fun e => hx (hi x (by simp) e))
      rw [List.map_cons, List.filter_cons_of_pos (by simp [h1]), List.filter_cons_of_pos (by simp [hx]), List.map_cons]
      rw [ih']
/-- 'm[k] = v'. -/
theorem wpList_mput (hg : o.guard = none) (m x v : Operand) (t : TypeId) (hop : o.op = Op.mapUpdate t m x v)
    (k e : TypeId) (K : Keyed P k) (ht : P.underlying t = some (.map k e)) (b : Nat) (L : List (κ × Value)) (kl : κ → Lit)
    (hm : a.eval m = .map (some b)) (hM : MapL w P k kl b L) (hn : L.length < maxLen) (key val : Value) (q : κ) (hx : a.eval x = key) (hv : a.eval v = val) (hkey : keyOf P k key = some (kl q)) (hi : ∀ p ∈ L, kl p.1 = kl q → p.1 = q)
    (hK : ∀ w', MapL w' P k kl b (mput L q val) → Fr (fun i => i = b) w w' → w'.heap.size = w.heap.size → wpList P ops Q rest (a.put o.dst undef) w') :
    wpList P ops Q (o :: rest) a w := by
  obtain ⟨es, h1, h2⟩ := hM
  have el : es.length = L.length := by rw [h2.length_eq]; simp
  refine wpList_mapUpdate_in w hg m x v t hop k e K ht heldR b _ _ hm h1 (by omega) key val (kl q) hx hv hkey (.held val) [] rfl (fun w' r1 r2 => ?_)
  refine hK w' ?_ ?_ ?_
  · refine ⟨_, ownsMap_tight r1, ?_⟩
    refine (insert_perm _ _).trans ?_
    refine List.Perm.cons _ ?_
    rw [← filter_kl hi (K.key hkey)]
    exact h2.filter _
  · have hg := r2.grown
    exact ⟨hg.os, hg.tape, hg.output, hg.size, fun i hi hb => hg.block i hi (fun e => hb (Option.some.inj e))⟩
  · obtain ⟨_, _, _, _, _, rfl⟩ := r2
    simp [ChangeMaps.setBlock]
/-- 'delete(m, k)'. -/
theorem wpList_mdel (hg : o.guard = none) (m x : Operand) (t k : TypeId) (hop : o.op = Op.call { callee := Callee.builtin Builtin.delete, args := #[m, x], argTypes := #[t, k] })
    (e : TypeId) (K : Keyed P k) (ht : P.underlying t = some (.map k e)) (b : Nat) (L : List (κ × Value)) (kl : κ → Lit)
    (hm : a.eval m = .map (some b)) (hM : MapL w P k kl b L) (key : Value) (q : κ) (hx : a.eval x = key) (hkey : keyOf P k key = some (kl q)) (hi : ∀ p ∈ L, kl p.1 = kl q → p.1 = q)
    (hK : ∀ w', MapL w' P k kl b (mdel L q) → Fr (fun i => i = b) w w' → w'.heap.size = w.heap.size → wpList P ops Q rest (a.put o.dst (.tuple #[])) w') :
    wpList P ops Q (o :: rest) a w := by
  obtain ⟨es, h1, h2⟩ := hM
  refine wpList_delete_own w hg m x t k hop e K ht heldR b _ _ hm h1 key (kl q) hx hkey (fun w' r1 r2 => ?_)
  refine hK w' ?_ ?_ ?_
  · refine ⟨_, ownsMap_tight r1, ?_⟩
    unfold mdel
    rw [← filter_kl hi (K.key hkey)]
    exact h2.filter _
  · have hg := r2.grown
    exact ⟨hg.os, hg.tape, hg.output, hg.size, fun i hi hb => hg.block i hi (fun e => hb (Option.some.inj e))⟩
  · obtain ⟨_, _, _, _, _, rfl⟩ := r2
    simp [ChangeMaps.setBlock]
omit [DecidableEq κ] in
/-- 'len(m)'. -/
theorem wpList_lenL (hg : o.guard = none) (m : Operand) (t : TypeId) (hop : o.op = Op.call { callee := Callee.builtin Builtin.len, args := #[m], argTypes := #[t] })
    (k e : TypeId) (ht : P.underlying t = some (.map k e)) (b : Nat) (L : List (κ × Value)) (kl : κ → Lit) (hm : a.eval m = .map (some b)) (hM : MapL w P k kl b L)
    (hK : wpList P ops Q rest (a.put o.dst (.int .i64 (L.length : Nat))) w) :
    wpList P ops Q (o :: rest) a w := by
  obtain ⟨D, h1, h2⟩ := hM.size
  refine wpList_len_own w hg m t hop k e ht heldR b _ D hm h1 ?_
  rw [h2]
  exact hK
end
end Go
end
