import Derived.Test.YtgfbkebbnfcgkaaQRt9
import Derived.Test.YtgfbkebbnfcgkaaQRt10
section
namespace Go
/-- An entry: its net; where it lies; where the told ones lie; the best ones' list; what was shown. -/
structure Ent where
  key : Nt
  b : Nat
  t : Nat
  bA : Option Addr
  bC : Nat
  sm : Int
  sh : List Int
  sA : Option Addr
  sC : Nat
deriving Inhabited
def entL (E : List Ent) : List (Nt × Value) := E.map fun x => (x.key, .pointer (some ⟨x.b, 0, none⟩))
/-- The blocks that an engine writes. -/
def EF (be bn : Nat) (E : List Ent) (k : Nat) : Prop := k = be ∨ k = bn ∨ ∃ x ∈ E, k = x.b ∨ k = x.t
def Ent.ap (x y : Ent) : Prop := x.b ≠ y.b ∧ x.b ≠ y.t ∧ x.t ≠ y.b ∧ x.t ≠ y.t ∧ x.key ≠ y.key
theorem Ent.ap_symm {x y : Ent} (h : Ent.ap x y) : Ent.ap y x := ⟨h.1.symm, h.2.2.1.symm, h.2.1.symm, h.2.2.2.1.symm, h.2.2.2.2.symm⟩
theorem pw_both {α : Type} {R : α → α → Prop} (hs : ∀ a b, R a b → R b a) : ∀ {l : List α}, l.Pairwise R → ∀ {x y : α}, x ∈ l → y ∈ l → x ≠ y → R x y := by
  intro l
  induction l with
  | nil => intro _ x y hx; cases hx
  | cons a l ih =>
    intro h x y hx hy hne
    obtain ⟨h1, h2⟩ := List.pairwise_cons.1 h
    rcases List.mem_cons.1 hx with e1 | x1
    · rcases List.mem_cons.1 hy with e2 | y1
      · exact absurd (e1.trans e2.symm) hne
      · rw [e1]; exact h1 y y1
    · rcases List.mem_cons.1 hy with e2 | y1
      · rw [e2]; exact hs _ _ (h1 x x1)
      · exact ih h2 x1 y1 hne
theorem lastO_none {l : List Hea} {a n : Int} (h : ∀ x ∈ l, ¬ (x.a = a ∧ x.n = n)) (f : Int) : lastO l f a n = none := by
  induction l using snoc_ind with
  | h0 => rfl
  | h1 l x ih =>
    rw [lastO_snoc, if_neg (fun hh => h x (by simp) hh.2)]
    exact ih (fun y hy => h y (by simp [hy]))
theorem toldL_none {l : List Hea} {a n : Int} (h : ∀ x ∈ l, ¬ (x.a = a ∧ x.n = n)) : toldL l a n = [] := by
  induction l using snoc_ind with
  | h0 => rfl
  | h1 l x ih =>
    rw [toldL_snoc, if_neg (h x (by simp))]
    exact ih (fun y hy => h y (by simp [hy]))
theorem chK_none (t : Int → Option Int) (costs : List Int) (h : ∀ i, t i = none) : ∀ k, chK t costs k = (16, []) := by
  intro k
  induction k with
  | zero => rfl
  | succ k ih => rw [chK_succ, h, ih]; rfl
theorem chK_congr {t u : Int → Option Int} (h : ∀ i, t i = u i) (costs : List Int) : ∀ k, chK t costs k = chK u costs k := by
  intro k
  induction k with
  | zero => rfl
  | succ k ih => rw [chK_succ, chK_succ, ih, h]
theorem mget_entL {E : List Ent} (hp : E.Pairwise Ent.ap) (q : Nt) : (mget (entL E) q = none ∧ ∀ x ∈ E, x.key ≠ q) ∨ ∃ x ∈ E, x.key = q ∧ mget (entL E) q = some (.pointer (some ⟨x.b, 0, none⟩)) := by
  cases hg : mget (entL E) q with
  | none =>
    refine .inl ⟨rfl, fun x hx => ?_⟩
    exact mget_none hg (x.key, .pointer (some ⟨x.b, 0, none⟩)) (List.mem_map.2 ⟨x, hx, rfl⟩)
  | some v =>
    have hm := mget_some hg
    obtain ⟨x, hx, he⟩ := List.mem_map.1 hm
    cases he
    exact .inr ⟨x, hx, rfl, rfl⟩
theorem mget_entL_at {E : List Ent} (hp : E.Pairwise Ent.ap) {x : Ent} (hx : x ∈ E) : mget (entL E) x.key = some (.pointer (some ⟨x.b, 0, none⟩)) := by
  rcases mget_entL hp x.key with ⟨_, h⟩ | ⟨y, hy, h1, h2⟩
  · exact absurd rfl (h x hx)
  · by_cases he : y = x
    · rw [he] at h2; exact h2
    · exact absurd h1 (pw_both (fun _ _ => Ent.ap_symm) hp hy hx he).2.2.2.2
theorem entL_length (E : List Ent) : (entL E).length = E.length := by simp [entL]
end Go
namespace Go.Proofs.Ytgfbkebbnfcgkaa
open Go.RowKit Go.Maps

theorem bestM_none {l : List Hea} {costs : List Int} {a n : Int} (h : ∀ x ∈ l, ¬ (x.a = a ∧ x.n = n)) : bestM l costs a n = (16, []) := chK_none _ _ (fun i => lastO_none h i) _
theorem bestM_other {l : List Hea} {x : Hea} {costs : List Int} {a n : Int} (h : ¬ (x.a = a ∧ x.n = n)) : bestM (l ++ [x]) costs a n = bestM l costs a n :=
  chK_congr (fun i => by rw [lastO_snoc, if_neg (fun hh => h hh.2)]) _ _
def entC (all : List Hea) (costs : List Int) (x : Ent) : List Value :=
  [.map (some x.t), .int .u32 x.key.a, .int .i64 x.key.n, .int .i64 (bestM all costs x.key.a x.key.n).1, .slice x.bA (bestM all costs x.key.a x.key.n).2.length x.bC, .int .u32 x.key.a, .int .i64 x.key.n, .int .i64 x.sm, .slice x.sA x.sh.length x.sC]
structure EntOk (U F : Nat → Prop) (w : World) (all : List Hea) (costs : List Int) (x : Ent) : Prop where
  blk : Blk w.heap x.b 149 (entC all costs x)
  told : MapL w Try.prog 3 kli x.t (toldL all x.key.a x.key.n)
  hops : Ints w.heap x.bA (bestM all costs x.key.a x.key.n).2
  shown : Ints w.heap x.sA x.sh
  apB : ∀ b off, x.bA = some ⟨b, off, none⟩ → U b ∧ ¬ F b
  apS : ∀ b off, x.sA = some ⟨b, off, none⟩ → U b ∧ ¬ F b
  uB : U x.b
  uT : U x.t
  wf : Nt.wf x.key
  own : x.b ≠ x.t
  shl : x.sh.length ≤ 4
theorem EntOk.fr {U F S : Nat → Prop} {w w' : World} {all : List Hea} {costs : List Int} {x : Ent} (h : EntOk U F w all costs x) (f : Fr S w w') (h1 : ¬ S x.b) (h2 : ¬ S x.t) (hs : ∀ k, S k → U k → F k) : EntOk U F w' all costs x :=
  ⟨h.blk.fr f h1, h.told.fr f h2, h.hops.fr f (fun b off e s => (h.apB b off e).2 (hs b s (h.apB b off e).1)), h.shown.fr f (fun b off e s => (h.apS b off e).2 (hs b s (h.apS b off e).1)), h.apB, h.apS, h.uB, h.uT, h.wf, h.own, h.shl⟩
/-- An engine: it heard 'all'; U: the blocks it uses. -/
structure Eng (U : Nat → Prop) (w : World) (be bn : Nat) (costs : List Int) (all : List Hea) (E : List Ent) (ac : Option Addr) (cc : Nat) : Prop where
  blk : Blk w.heap be 100 [.slice ac costs.length cc, .map (some bn)]
  cost : Ints w.heap ac costs
  apC : ∀ b off, ac = some ⟨b, off, none⟩ → U b ∧ ¬ EF be bn E b
  nets : MapL w Try.prog 34 kln bn (entL E)
  ents : ∀ x ∈ E, EntOk U (EF be bn E) w all costs x
  ap : E.Pairwise Ent.ap
  apE : ∀ x ∈ E, x.b ≠ be ∧ x.b ≠ bn ∧ x.t ≠ be ∧ x.t ≠ bn
  ne : be ≠ bn
  seen : ∀ h ∈ all, ∃ x ∈ E, x.key = ⟨h.a, h.n⟩
  ok : ∀ h ∈ all, heardE costs.length h = none
  near : nearE costs = none
  lt : ∀ k, U k → k < w.heap.size
  uE : U be
  uN : U bn
namespace Eng
variable {U S : Nat → Prop} {w w' : World} {be bn : Nat} {costs : List Int} {all : List Hea} {E : List Ent} {ac : Option Addr} {cc : Nat}
theorem fr (h : Eng U w be bn costs all E ac cc) (f : Fr S w w') (hs : ∀ k, U k → ¬ S k) : Eng U w' be bn costs all E ac cc :=
  ⟨h.blk.fr f (hs _ h.uE), h.cost.fr f (fun b off e => hs _ (h.apC b off e).1), h.apC, h.nets.fr f (hs _ h.uN), fun x hx => (h.ents x hx).fr f (hs _ (h.ents x hx).uB) (hs _ (h.ents x hx).uT) (fun k s u => absurd s (hs k u)), h.ap, h.apE, h.ne, h.seen, h.ok, h.near, fun k hk => Nat.lt_of_lt_of_le (h.lt k hk) f.size, h.uE, h.uN⟩
theorem fr0 (h : Eng U w be bn costs all E ac cc) (f : Fr (fun _ => False) w w') : Eng U w' be bn costs all E ac cc := h.fr f (fun _ _ h => h)
theorem wide {V : Nat → Prop} (h : Eng U w be bn costs all E ac cc) (hU : ∀ k, U k → V k) (hV : ∀ k, V k → k < w.heap.size) : Eng V w be bn costs all E ac cc :=
  ⟨h.blk, h.cost, fun b off e => ⟨hU _ (h.apC b off e).1, (h.apC b off e).2⟩, h.nets, fun x hx => ⟨(h.ents x hx).blk, (h.ents x hx).told, (h.ents x hx).hops, (h.ents x hx).shown, fun b off e => ⟨hU _ ((h.ents x hx).apB b off e).1, ((h.ents x hx).apB b off e).2⟩, fun b off e => ⟨hU _ ((h.ents x hx).apS b off e).1, ((h.ents x hx).apS b off e).2⟩, hU _ (h.ents x hx).uB, hU _ (h.ents x hx).uT, (h.ents x hx).wf, (h.ents x hx).own, (h.ents x hx).shl⟩, h.ap, h.apE, h.ne, h.seen, h.ok, h.near, hV, hU _ h.uE, hU _ h.uN⟩
theorem inj (h : Eng U w be bn costs all E ac cc) {q : Nt} (hq : Nt.wf q) : ∀ p ∈ entL E, kln p.1 = kln q → p.1 = q := fun p hp e => by
  obtain ⟨x, hx, rfl⟩ := List.mem_map.1 hp
  exact kln_inj (h.ents x hx).wf hq e
/-- Nothing was heard of a net without an entry. -/
theorem unheard (h : Eng U w be bn costs all E ac cc) {q : Nt} (hq : ∀ x ∈ E, x.key ≠ q) : ∀ x ∈ all, ¬ (x.a = q.a ∧ x.n = q.n) := fun x hx hh => by
  obtain ⟨y, hy, e⟩ := h.seen x hx
  exact hq y hy (by rw [e, hh.1, hh.2])
/-- A new entry. -/
theorem add (h : Eng U w be bn costs all E ac cc) {q : Nt} (hq : Nt.wf q) (hn : ∀ x ∈ E, x.key ≠ q) {b t : Nat} (hb : w.heap.size ≤ b) (ht : w.heap.size ≤ t) (hbt : b ≠ t) (f : Fr (fun k => k = bn) w w')
    (hB : Blk w'.heap b 149 [.map (some t), .int .u32 q.a, .int .i64 q.n, .int .i64 16, .slice none 0 0, .int .u32 q.a, .int .i64 q.n, .int .i64 16, .slice none 0 0]) (hT : MapL w' Try.prog 3 kli t []) (hN : MapL w' Try.prog 34 kln bn (mput (entL E) q (.pointer (some ⟨b, 0, none⟩)))) :
    Eng (fun k => U k ∨ (w.heap.size ≤ k ∧ k < w'.heap.size)) w' be bn costs all (⟨q, b, t, none, 0, 16, [], none, 0⟩ :: E) ac cc := by
  have hu := h.unheard hn
  have hbm : bestM all costs q.a q.n = (16, []) := bestM_none hu
  have hF : ∀ k, U k → ¬ EF be bn E k → ¬ EF be bn (⟨q, b, t, none, 0, 16, [], none, 0⟩ :: E) k := fun k hk hF hF' => by
    have hkl := h.lt k hk
    rcases hF' with e | e | ⟨x, hx, e⟩
    · exact hF (.inl e)
    · exact hF (.inr (.inl e))
    · rcases List.mem_cons.1 hx with rfl | hx
      · simp only at e; omega
      · exact hF (.inr (.inr ⟨x, hx, e⟩))
  have hF2 : ∀ k, EF be bn E k → EF be bn (⟨q, b, t, none, 0, 16, [], none, 0⟩ :: E) k := fun k hF => by
    rcases hF with e | e | ⟨x, hx, e⟩
    · exact .inl e
    · exact .inr (.inl e)
    · exact .inr (.inr ⟨x, List.mem_cons_of_mem _ hx, e⟩)
  have hub := fun x hx => h.lt _ (h.ents x hx).uB
  have hut := fun x hx => h.lt _ (h.ents x hx).uT
  have hbl := hB.lt
  have htl := hT.lt
  refine ⟨h.blk.fr f h.ne, h.cost.fr f (fun b' off e s => (h.apC b' off e).2 (.inr (.inl s))), fun b' off e => ⟨.inl (h.apC b' off e).1, hF _ (h.apC b' off e).1 (h.apC b' off e).2⟩, ?_, ?_, ?_, ?_, h.ne, ?_, h.ok, h.near, ?_, .inl h.uE, .inl h.uN⟩
  · have hg : mget (entL E) q = none := by
      rcases mget_entL h.ap q with ⟨h1, _⟩ | ⟨y, hy, h1, _⟩
      · exact h1
      · exact absurd h1 (hn y hy)
    rw [mput_new hg] at hN
    exact hN
  · intro x hx
    rcases List.mem_cons.1 hx with rfl | hx
    · refine ⟨?_, by simp only; rw [toldL_none hu]; exact hT, by simp only; rw [hbm]; exact Rd.nil _ _ _, Rd.nil _ _ _, (fun _ _ e => nomatch e), (fun _ _ e => nomatch e), .inr ⟨hb, hbl⟩, .inr ⟨ht, htl⟩, hq, hbt, Nat.zero_le 4⟩
      unfold entC
      simp only
      rw [hbm]
      exact hB
    · have hx' := h.ents x hx
      have := h.apE x hx
      exact ⟨hx'.blk.fr f this.2.1, hx'.told.fr f this.2.2.2, hx'.hops.fr f (fun b' off e s => (hx'.apB b' off e).2 (.inr (.inl s))), hx'.shown.fr f (fun b' off e s => (hx'.apS b' off e).2 (.inr (.inl s))),
        fun b' off e => ⟨.inl (hx'.apB b' off e).1, hF _ (hx'.apB b' off e).1 (hx'.apB b' off e).2⟩, fun b' off e => ⟨.inl (hx'.apS b' off e).1, hF _ (hx'.apS b' off e).1 (hx'.apS b' off e).2⟩, .inl hx'.uB, .inl hx'.uT, hx'.wf, hx'.own, hx'.shl⟩
  · refine List.pairwise_cons.2 ⟨fun x hx => ?_, h.ap⟩
    have h1 := hub x hx
    have h2 := hut x hx
    exact ⟨by simp only; omega, by simp only; omega, by simp only; omega, by simp only; omega, fun e => hn x hx e.symm⟩
  · intro x hx
    have h1 := h.lt _ h.uE
    have h2 := h.lt _ h.uN
    rcases List.mem_cons.1 hx with rfl | hx
    · exact ⟨by simp only; omega, by simp only; omega, by simp only; omega, by simp only; omega⟩
    · exact h.apE x hx
  · intro x hx
    obtain ⟨y, hy, e⟩ := h.seen x hx
    exact ⟨y, List.mem_cons_of_mem _ hy, e⟩
  · rintro k (hk | hk)
    · exact Nat.lt_of_lt_of_le (h.lt k hk) f.size
    · exact hk.2
/-- One entry put anew. -/
def upd (x x' : Ent) (E : List Ent) : List Ent := E.map fun y => if y.key = x.key then x' else y
theorem upd_EF {x x' : Ent} (hx : x ∈ E) (hb : x'.b = x.b) (ht : x'.t = x.t) (hk : ∀ y ∈ E, y.key = x.key → y = x) {k : Nat} : EF be bn (upd x x' E) k ↔ EF be bn E k := by
  unfold EF
  constructor
  · rintro (e | e | ⟨y, hy, e⟩)
    · exact .inl e
    · exact .inr (.inl e)
    · obtain ⟨z, hz, rfl⟩ := List.mem_map.1 hy
      split at e
      · exact .inr (.inr ⟨x, hx, by rw [← hb, ← ht]; exact e⟩)
      · exact .inr (.inr ⟨z, hz, e⟩)
  · rintro (e | e | ⟨y, hy, e⟩)
    · exact .inl e
    · exact .inr (.inl e)
    · refine .inr (.inr ⟨if y.key = x.key then x' else y, List.mem_map.2 ⟨y, hy, rfl⟩, ?_⟩)
      split
      · rename_i he
        rw [hk y hy he] at e
        rw [hb, ht]; exact e
      · exact e
theorem upd_entL {x x' : Ent} (hb : x'.b = x.b) (hkk : x'.key = x.key) (hk : ∀ y ∈ E, y.key = x.key → y = x) : entL (upd x x' E) = entL E := by
  unfold entL upd
  rw [List.map_map]
  apply List.map_congr_left
  intro y hy
  simp only [Function.comp]
  split
  · rename_i he
    rw [hk y hy he, hkk, hb]
  · rfl
theorem key_one (h : Eng U w be bn costs all E ac cc) {x : Ent} (hx : x ∈ E) : ∀ y ∈ E, y.key = x.key → y = x := fun y hy e => by
  by_cases he : y = x
  · exact he
  · exact absurd e (pw_both (fun _ _ => Ent.ap_symm) h.ap hy hx he).2.2.2.2
theorem put (h : Eng U w be bn costs all E ac cc) {x : Ent} (hx : x ∈ E) {hh : Hea} (hk : x.key = ⟨hh.a, hh.n⟩) (hok : heardE costs.length hh = none) {a' : Option Addr} {c' : Nat} (f : Fr (fun k => k = x.b ∨ k = x.t) w w')
    (hB : Blk w'.heap x.b 149 (entC (all ++ [hh]) costs { x with bA := a', bC := c' })) (hT : MapL w' Try.prog 3 kli x.t (mput (toldL all hh.a hh.n) hh.f (.int .i64 hh.m))) (hI : Ints w'.heap a' (bestM (all ++ [hh]) costs hh.a hh.n).2)
    (hap : ∀ b off, a' = some ⟨b, off, none⟩ → w.heap.size ≤ b ∧ b < w'.heap.size) :
    Eng (fun k => U k ∨ (w.heap.size ≤ k ∧ k < w'.heap.size)) w' be bn costs (all ++ [hh]) (upd x { x with bA := a', bC := c' } E) ac cc := by
  have hone := h.key_one hx
  have hx' := h.ents x hx
  have hEF := fun k => upd_EF (be := be) (bn := bn) (x' := { x with bA := a', bC := c' }) hx rfl rfl hone (k := k)
  have hin : EF be bn E x.b := .inr (.inr ⟨x, hx, .inl rfl⟩)
  have hit : EF be bn E x.t := .inr (.inr ⟨x, hx, .inr rfl⟩)
  have hS : ∀ k, ¬ EF be bn E k → ¬ (k = x.b ∨ k = x.t) := fun k hk e => e.elim (fun e => hk (e ▸ hin)) (fun e => hk (e ▸ hit))
  have hlt : ∀ k, EF be bn E k → k < w.heap.size := by
    rintro k (rfl | rfl | ⟨y, hy, rfl | rfl⟩)
    · exact h.lt _ h.uE
    · exact h.lt _ h.uN
    · exact h.lt _ (h.ents y hy).uB
    · exact h.lt _ (h.ents y hy).uT
  have hae := h.apE x hx
  refine ⟨h.blk.fr f (fun e => e.elim (fun e => hae.1 e.symm) (fun e => hae.2.2.1 e.symm)), h.cost.fr f (fun b off e => hS _ (h.apC b off e).2), fun b off e => ⟨.inl (h.apC b off e).1, fun hF => (h.apC b off e).2 ((hEF _).1 hF)⟩, ?_, ?_, ?_, ?_, h.ne, ?_, ?_, h.near, ?_, .inl h.uE, .inl h.uN⟩
  · rw [upd_entL (x := x) (x' := { x with bA := a', bC := c' }) rfl rfl hone]
    exact h.nets.fr f (fun e => e.elim (fun e => hae.2.1 e.symm) (fun e => hae.2.2.2 e.symm))
  · intro y hy
    obtain ⟨z, hz, rfl⟩ := List.mem_map.1 hy
    split
    · rename_i he
      refine ⟨hB, ?_, ?_, hx'.shown.fr f (fun b off e => hS _ (hx'.apS b off e).2), ?_, fun b off e => ⟨.inl (hx'.apS b off e).1, fun hF => (hx'.apS b off e).2 ((hEF _).1 hF)⟩, .inl hx'.uB, .inl hx'.uT, hx'.wf, hx'.own, hx'.shl⟩
      · simp only [hk]
        rw [toldL_snoc, if_pos ⟨rfl, rfl⟩]
        exact hT
      · simp only [hk]; exact hI
      · intro b off e
        have := hap b off e
        exact ⟨.inr this, fun hF => by have := hlt _ ((hEF _).1 hF); omega⟩
    · rename_i he
      have hz' := h.ents z hz
      have hne : z ≠ x := fun e => he (by rw [e])
      have hap2 := pw_both (fun _ _ => Ent.ap_symm) h.ap hz hx hne
      have hu : ¬ (hh.a = z.key.a ∧ hh.n = z.key.n) := fun e => he (by rw [hk]; cases hzk : z.key; rw [hzk] at e; simp only at e; rw [e.1, e.2])
      refine ⟨?_, ?_, ?_, hz'.shown.fr f (fun b off e => hS _ (hz'.apS b off e).2), fun b off e => ⟨.inl (hz'.apB b off e).1, fun hF => (hz'.apB b off e).2 ((hEF _).1 hF)⟩, fun b off e => ⟨.inl (hz'.apS b off e).1, fun hF => (hz'.apS b off e).2 ((hEF _).1 hF)⟩, .inl hz'.uB, .inl hz'.uT, hz'.wf, hz'.own, hz'.shl⟩
      · have := hz'.blk.fr f (fun e => e.elim (fun e => hap2.1 e) (fun e => hap2.2.1 e))
        unfold entC at this ⊢
        rw [bestM_other hu]
        exact this
      · rw [toldL_snoc, if_neg hu]
        exact hz'.told.fr f (fun e => e.elim (fun e => hap2.2.2.1 e) (fun e => hap2.2.2.2.1 e))
      · rw [bestM_other hu]
        exact hz'.hops.fr f (fun b off e => hS _ (hz'.apB b off e).2)
  · unfold upd
    refine List.pairwise_map.2 (h.ap.imp_of_mem ?_)
    intro y z hy hz hyz
    split
    · rename_i he
      split
      · rename_i he2
        exact absurd (he.trans he2.symm) hyz.2.2.2.2
      · have := hone y hy he; subst this; exact hyz
    · split
      · rename_i he2
        have := hone z hz he2; subst this; exact hyz
      · exact hyz
  · intro y hy
    obtain ⟨z, hz, rfl⟩ := List.mem_map.1 hy
    split
    · exact hae
    · exact h.apE z hz
  · intro y hy
    rcases List.mem_append.1 hy with hy | hy
    · obtain ⟨z, hz, e⟩ := h.seen y hy
      refine ⟨if z.key = x.key then { x with bA := a', bC := c' } else z, List.mem_map.2 ⟨z, hz, rfl⟩, ?_⟩
      split
      · rename_i he
        rw [← e, he]
      · exact e
    · rw [List.mem_singleton.1 hy]
      exact ⟨if x.key = x.key then { x with bA := a', bC := c' } else x, List.mem_map.2 ⟨x, hx, rfl⟩, by rw [if_pos rfl]; exact hk⟩
  · intro y hy
    rcases List.mem_append.1 hy with hy | hy
    · exact h.ok y hy
    · rw [List.mem_singleton.1 hy]; exact hok
  · rintro k (hk | hk)
    · exact Nat.lt_of_lt_of_le (h.lt k hk) f.size
    · exact hk.2
end Eng
end Go.Proofs.Ytgfbkebbnfcgkaa
end
