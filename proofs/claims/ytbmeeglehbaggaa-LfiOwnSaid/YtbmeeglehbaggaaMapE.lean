import Derived.Test.YtbmeeglehbaggaaMapL
import Derived.Test.YtbmeeglehbaggaaGKey
import Derived.WideKeyEntry
import Derived.DeepKeys4
namespace Go
open Go.RowKit Go.Maps Go.WideShapes Go.ChangeMaps

/-- The entry that 'm[k] op= v' has under way: what the store will do. -/
def Pend {κ : Type} [DecidableEq κ] (P : Program) (t k : TypeId) (kl : κ → Lit) (b : Nat) (L : List (κ × Value)) (q : κ) (st : Int) (o1 : Obj) : Prop :=
  ∀ (w2 : World) (val : Value), w2.heap[b]? = some o1 → ∃ o', (Instr.entryStore t (.map (some b)) (goInt st) val).run P w2 = .ok () (setBlock w2 b o') ∧ ∀ w3 : World, w3.heap[b]? = some o' → MapL w3 P k kl b (mput L q val)

theorem fr_setBlock (w : World) (b : Nat) (o : Obj) : Fr (fun k => k = b) w (setBlock w b o) :=
  ⟨rfl, rfl, rfl, by simp [setBlock], fun k _ hs => by simp [setBlock, Array.getElem?_setIfInBounds_ne (fun e => hs e.symm)]⟩
theorem setBlock_get {w : World} {b : Nat} (hb : b < w.heap.size) (o : Obj) : (setBlock w b o).heap[b]? = some o := by
  simp [setBlock, hb]
theorem fr_past (w : World) (p : Addr) (u : Value) (b : Nat) (o o' : Obj) : Fr (fun k => k = b) (w.setCell p u) (setBlock ((setBlock w b o).setCell p u) b o') :=
  ⟨rfl, rfl, rfl, by simp [setBlock, World.setCell], fun k _ hs => by
    have hs' : ¬ b = k := fun e => hs e.symm
    simp [setBlock, World.setCell, Array.getElem?_setIfInBounds_ne hs', Array.getElem?_modify]⟩

theorem MapL.to {κ : Type} {w w' : World} {P : Program} {k : TypeId} {kl : κ → Lit} {b : Nat} {L : List (κ × Value)} (h : MapL w P k kl b L) (e : w'.heap[b]? = w.heap[b]?) : MapL w' P k kl b L := by
  obtain ⟨es, ⟨xs, clock, hb, r⟩, h2⟩ := h
  exact ⟨es, ⟨xs, clock, e.trans hb, r⟩, h2⟩

section
variable {κ : Type} [DecidableEq κ] {w : World} {P : Program} {t k e : TypeId} {kl : κ → Lit} {b : Nat} {L : List (κ × Value)}
theorem lookL_eq (K : Keyed P k) (ht : P.underlying t = some (.map k e)) {z : Value} (hz : (zeroValue e).run P w = .ok z w) (hM : MapL w P k kl b L) {key : Value} {q : κ} (hkey : keyOf P k key = some (kl q)) (hi : ∀ p ∈ L, kl p.1 = kl q → p.1 = q) :
    (Instr.lookup t (.map (some b)) key false).run P w = .ok ((mget L q).getD z) w := by
  obtain ⟨D, h1, _, h3, h4⟩ := hM.at K hi (K.key hkey)
  obtain ⟨v, ps, hrun, hv⟩ := h1.lookup K ht hz (zd := .held z) (zp := []) rfl hkey
  have hv' := congrArg Prod.fst (Option.some.inj hv)
  simp only [] at hv'
  rw [h4] at hv'
  have : v = (mget L q).getD z := by
    cases hg : mget L q with
    | none => rw [hg] at hv'; simpa using hv'
    | some u => rw [hg] at hv'; simpa using hv'
  rw [hrun, this]
theorem entry_law (KL : WideMaps.KeyLaw P k) (K : Keyed P k) (ht : P.underlying t = some (.map k e)) {z : Value} (hz : ∀ u : World, (zeroValue e).run P u = .ok z u) (hM : MapL w P k kl b L) (hn : L.length < maxLen)
    {key : Value} {q : κ} (hkey : keyOf P k key = some (kl q)) (hi : ∀ p ∈ L, kl p.1 = kl q → p.1 = q) :
    ∃ (st : Int) (o1 : Obj), (Instr.mapEntry t (.map (some b)) key).run P w = .ok (.tuple #[(mget L q).getD z, goInt st]) (setBlock w b o1) ∧ Pend P t k kl b L q st o1 := by
  have hl := lookL_eq K ht (hz w) hM hkey hi
  have hlt := hM.lt
  obtain ⟨es, h1, h2⟩ := hM
  have el : es.length = L.length := by rw [h2.length_eq]; simp
  have h1' := h1
  obtain ⟨xs, clock, hb, F, hs, hD⟩ := h1'
  obtain ⟨v0, st, es1, clock1, hE, hcase, hS⟩ := WideElems.entry_then_store KL ht hz hb F hkey
  have hv0 : v0 = (mget L q).getD z := by
    rcases fit_look false K ht (hz w) hb F hkey with ⟨r1, r2, _⟩ | ⟨e0, y, r1, r2, r3, _⟩
    · rw [hl] at r1
      simp at r1
      rcases hcase with ⟨e1, c1, c2, _⟩ | ⟨_, c2⟩
      · exact absurd c2 (r2 e1 c1)
      · rw [c2, r1]
    · rw [hl] at r3
      simp at r3
      rcases hcase with ⟨e1, c1, c2, c3⟩ | ⟨c1, _⟩
      · have hnd := F.stamped.2.2
        have : e1 = e0 := by
          obtain ⟨i, hi1, hi2⟩ := List.getElem_of_mem c1
          obtain ⟨j, hj1, hj2⟩ := List.getElem_of_mem r1
          have hh := List.pairwise_iff_getElem.1 hnd
          by_cases hij : i = j
          · subst hij; rw [← hi2, ← hj2]
          · exfalso
            rcases Nat.lt_or_gt_of_ne hij with h | h
            · exact hh i j (by simpa using hi1) (by simpa using hj1) h (by rw [List.getElem_map, List.getElem_map, hi2, hj2, c2, r2])
            · exact hh j i (by simpa using hj1) (by simpa using hi1) h (by rw [List.getElem_map, List.getElem_map, hi2, hj2, c2, r2])
        rw [c3, this, r3]
      · exact absurd r2 (c1 e0 r1)
  subst hv0
  refine ⟨st, _, hE, fun w2 val hw2 => ?_⟩
  obtain ⟨es', clock', h5, h6⟩ := hS w2 val hw2
  refine ⟨_, h5, fun w3 hw3 => ?_⟩
  obtain ⟨w', hrun, r1, r2⟩ := h1.store K ht (by omega) hkey (val := val) (d := .held val) (ps := []) rfl
  rw [h6] at hrun
  have hw' : setBlock w b (.map es' clock') = w' := by simpa using hrun
  have hm : MapL w' P k kl b (mput L q val) := by
    refine ⟨_, ownsMap_tight r1, ?_⟩
    refine (insert_perm _ _).trans ?_
    refine List.Perm.cons _ ?_
    rw [← filter_kl hi (K.key hkey)]
    exact h2.filter _
  refine hm.to ?_
  rw [hw3, ← hw', setBlock_get hlt]

variable {ops : Array Oper} {rest : List Oper} {o : Oper} {a : Act} {Q : Exit → Act → World → Prop}
/-- 'm[k] op= v', what stands there. -/
theorem wpList_entry (hg : o.guard = none) (m x : Operand) (t : TypeId) (hop : o.op = Op.mapEntry t m x)
    (k e : TypeId) (KL : WideMaps.KeyLaw P k) (K : Keyed P k) (ht : P.underlying t = some (.map k e)) {z : Value} (hz : ∀ u : World, (zeroValue e).run P u = .ok z u) (b : Nat) (L : List (κ × Value)) (kl : κ → Lit)
    (hm : a.eval m = .map (some b)) (hM : MapL w P k kl b L) (hn : L.length < maxLen) (key : Value) (q : κ) (hx : a.eval x = key) (hkey : keyOf P k key = some (kl q)) (hi : ∀ p ∈ L, kl p.1 = kl q → p.1 = q)
    (hK : ∀ st o1, Pend P t k kl b L q st o1 → wpList P ops Q rest (a.put o.dst (.tuple #[(mget L q).getD z, goInt st])) (setBlock w b o1)) :
    wpList P ops Q (o :: rest) a w := by
  obtain ⟨st, o1, hrun, hp⟩ := entry_law KL K ht hz hM hn hkey hi
  refine wpList_plain hg fun K' hK' => ?_
  unfold Oper.wp
  simp [execOp, hop, hm, hx, hrun, Result.andThen]
  exact hK' _ _ (hK st o1 hp)
/-- .. and the store. -/
theorem wpList_estore (hg : o.guard = none) (m s x : Operand) (t : TypeId) (hop : o.op = Op.entryStore t m s x)
    (k : TypeId) (b : Nat) (L : List (κ × Value)) (kl : κ → Lit) (q : κ) (st : Int) (o1 : Obj) (hp : Pend P t k kl b L q st o1)
    (hm : a.eval m = .map (some b)) (hs : a.eval s = goInt st) (val : Value) (hx : a.eval x = val) (hb : w.heap[b]? = some o1)
    (hK : ∀ o', (∀ w3 : World, w3.heap[b]? = some o' → MapL w3 P k kl b (mput L q val)) → wpList P ops Q rest (a.put o.dst undef) (setBlock w b o')) :
    wpList P ops Q (o :: rest) a w := by
  obtain ⟨o', hrun, h3⟩ := hp w val hb
  refine wpList_plain hg fun K' hK' => ?_
  unfold Oper.wp
  simp [execOp, hop, hm, hx, hs, hrun, Result.andThen]
  exact hK' _ _ (hK o' h3)
end
end Go
namespace Go.Proofs.Ytbmeeglehbaggaa
open Go.RowKit Go.Maps
theorem keylaw2 : WideMaps.KeyLaw Try.prog 107 := deep_law_laid laidOutG (m := Try.prog.types.size + 1) (of_decide_eq_true (by kernel_rfl)) (of_decide_eq_true (by kernel_rfl)) (by kernel_rfl) (by kernel_rfl)
end Go.Proofs.Ytbmeeglehbaggaa
