import Derived.Test.YtbmeeglehbaggaaDoorWhMath
import Derived.Test.YtbmeeglehbaggaaDoorMapR
import Derived.Test.YtbmeeglehbaggaaDoorErr
namespace Go.Proofs.YtbmeeglehbaggaaDoor
open Go.RowKit Go.Maps

/-- A number as a key. -/
def wli (i : Int) : Lit := .int .i64 i
theorem wkeyed : Keyed Tryd.prog 3 := int_keyed Tryd.underlying3
theorem wkey {i : Int} (h : (Lit.int .i64 i).wf = true) : keyOf Tryd.prog 3 (.int .i64 i) = some (wli i) := keyOf_int_mk Tryd.underlying3 h
theorem wli_inj {i j : Int} (h : wli i = wli j) : i = j := by unfold wli at h; cases h; rfl
theorem wzero {w : World} : (zeroValue 3).run Tryd.prog w = .ok (.int .i64 0) w := by kernel_rfl
theorem mget_del {L : List (Int × Value)} {q r : Int} : mget (mdel L q) r = if r = q then none else mget L r := by
  unfold mget mdel
  by_cases h : r = q
  · subst h
    rw [if_pos rfl]
    simp only [Option.map_eq_none_iff, List.find?_eq_none]
    intro p hp
    have := (List.mem_filter.1 hp).2
    simpa using this
  · rw [if_neg h, find_filter_keep]
    intro p hp
    have : p.1 = r := by simpa using hp
    simpa [this] using h
/-- A wheel's cells. -/
def whC (now : Int) (sb : Nat → Option Nat) (ab : Nat) : List Value := .int .i64 now :: ((List.range 64).map (fun j => Value.map (sb j)) ++ [.map (some ab)])
theorem whC_len (now : Int) (sb : Nat → Option Nat) (ab : Nat) : (whC now sb ab).length = 66 := by simp [whC]
theorem whC_slot (now : Int) (sb : Nat → Option Nat) (ab : Nat) {j : Nat} (hj : j < 64) : (whC now sb ab)[j + 1]? = some (.map (sb j)) := by
  unfold whC
  rw [List.getElem?_cons_succ, List.getElem?_append_left (by simpa using hj)]
  simp [hj]
theorem whC_at (now : Int) (sb : Nat → Option Nat) (ab : Nat) : (whC now sb ab)[65]? = some (.map (some ab)) := by
  unfold whC
  rw [List.getElem?_cons_succ, List.getElem?_append_right (by simp)]
  simp
def updB (sb : Nat → Option Nat) (j b : Nat) : Nat → Option Nat := fun i => if i = j then some b else sb i
theorem whC_set (now : Int) (sb : Nat → Option Nat) (ab : Nat) {j : Nat} (hj : j < 64) (b : Nat) : (whC now sb ab).set (j + 1) (.map (some b)) = whC now (updB sb j b) ab := by
  unfold whC
  rw [List.set_cons_succ, List.set_append_left _ _ (by simpa using hj)]
  congr 2
  apply List.ext_getElem
  · simp
  · intro i h1 h2
    simp only [List.getElem_set, List.getElem_map, List.getElem_range]
    unfold updB
    by_cases e : j = i
    · subst e; simp
    · rw [if_neg e, if_neg (fun e' => e e'.symm)]
theorem whC_now (now now' : Int) (sb : Nat → Option Nat) (ab : Nat) : (whC now sb ab).set 0 (.int .i64 now') = whC now' sb ab := rfl
structure IsWh (w : World) (base bw : Nat) (now : Int) (E : Tms) (ab : Nat) (A : List (Int × Value)) (sb : Nat → Option Nat) (S : Nat → List (Int × Value)) : Prop where
  blk : Blk w.heap bw 96 (whC now sb ab)
  am : MapL w Tryd.prog 3 wli ab A
  ag : ∀ i, mget A i = (E i).map (fun a => Value.int .i64 a)
  sm : ∀ j, j < 64 → ∀ b, sb j = some b → MapL w Tryd.prog 3 wli b (S j)
  sn : ∀ j, j < 64 → sb j = none → S j = []
  sg : ∀ j, j < 64 → ∀ i, mget (S j) i = (E i).bind (fun a => if a.toNat % 64 = j then some (Value.int .i64 a) else none)
  inj : ∀ i j b, i < 64 → j < 64 → sb i = some b → sb j = some b → i = j
  na : ∀ j, j < 64 → sb j ≠ some ab
  nb : ∀ j b, j < 64 → sb j = some b → b ≠ bw
  nab : ab ≠ bw
  lo : base ≤ bw ∧ base ≤ ab ∧ ∀ j b, j < 64 → sb j = some b → base ≤ b
  ids : ∀ i a, E i = some a → (0 ≤ i ∧ i < 64) ∧ 1 ≤ a ∧ a ≤ 1099511627776
/-- The blocks of a wheel. -/
def Whof (bw ab : Nat) (sb : Nat → Option Nat) (k : Nat) : Prop := k = bw ∨ k = ab ∨ ∃ j, j < 64 ∧ sb j = some k
namespace IsWh
variable {w w' : World} {base bw : Nat} {now : Int} {E E' : Tms} {ab : Nat} {A : List (Int × Value)} {sb : Nat → Option Nat} {S : Nat → List (Int × Value)}
theorem fr {X : Nat → Prop} (h : IsWh w base bw now E ab A sb S) (f : Fr X w w') (hx : ∀ k, Whof bw ab sb k → ¬ X k) : IsWh w' base bw now E ab A sb S :=
  ⟨h.blk.fr f (hx _ (.inl rfl)), h.am.fr f (hx _ (.inr (.inl rfl))), h.ag, fun j hj b hb => (h.sm j hj b hb).fr f (hx _ (.inr (.inr ⟨j, hj, hb⟩))), h.sn, h.sg, h.inj, h.na, h.nb, h.nab, h.lo, h.ids⟩
theorem fr0 (h : IsWh w base bw now E ab A sb S) (f : Fr (fun _ => False) w w') : IsWh w' base bw now E ab A sb S := h.fr f (fun _ _ h => h)
theorem congr (h : IsWh w base bw now E ab A sb S) (hE : ∀ i, E' i = E i) : IsWh w base bw now E' ab A sb S := by
  obtain rfl : E' = E := funext hE
  exact h
theorem lt (h : IsWh w base bw now E ab A sb S) : ∀ k, Whof bw ab sb k → k < w.heap.size := by
  rintro k (rfl | rfl | ⟨j, hj, hb⟩)
  · exact h.blk.lt
  · exact h.am.lt
  · exact (h.sm j hj k hb).lt
theorem low (h : IsWh w base bw now E ab A sb S) : ∀ k, Whof bw ab sb k → base ≤ k := by
  rintro k (rfl | rfl | ⟨j, hj, hb⟩)
  · exact h.lo.1
  · exact h.lo.2.1
  · exact h.lo.2.2 j k hj hb
theorem cells (h : IsWh w base bw now E ab A sb S) : w.cell? ⟨bw, 0, none⟩ = some (.int .i64 now) ∧ w.cell? ⟨bw, 65, none⟩ = some (.map (some ab)) ∧ (∀ i, w.frozen? ⟨bw, i, none⟩ = false) ∧ bw < w.heap.size :=
  ⟨(h.blk.cell 0).trans rfl, (h.blk.cell 65).trans (whC_at _ _ _), h.blk.frozen, h.blk.lt⟩
theorem slot (h : IsWh w base bw now E ab A sb S) {j : Nat} (hj : j < 64) : w.cell? ⟨bw, j + 1, none⟩ = some (.map (sb j)) := (h.blk.cell (j + 1)).trans (whC_slot _ _ _ hj)
/-- The entries' keys, the ids. -/
theorem keys (h : IsWh w base bw now E ab A sb S) : (A.map Prod.fst).Nodup ∧ (∀ i, i ∈ A.map Prod.fst ↔ E i ≠ none) ∧ A.length ≤ 64 := by
  have h1 : (A.map Prod.fst).Nodup := by
    have := h.am.nodup wkeyed
    unfold List.Nodup
    rw [List.pairwise_map]
    exact this.imp (fun hne e => hne (by rw [e]))
  have h2 : ∀ i, i ∈ A.map Prod.fst ↔ E i ≠ none := fun i => by
    have hg := h.ag i
    constructor
    · intro hi e
      rw [e] at hg
      obtain ⟨p, hp, rfl⟩ := List.mem_map.1 hi
      exact mget_none hg p hp rfl
    · intro hne
      cases hE : E i with
      | none => exact absurd hE hne
      | some a =>
        rw [hE] at hg
        exact List.mem_map.2 ⟨_, mget_some hg, rfl⟩
  refine ⟨h1, h2, ?_⟩
  have := len64 h1 (fun x hx => by
    cases hE : E x with
    | none => exact absurd hE ((h2 x).1 hx)
    | some a => exact (h.ids x a hE).1)
  simpa using this
theorem counts (h : IsWh w base bw now E ab A sb S) : Counts E A.length := ⟨A.map Prod.fst, h.keys.1, h.keys.2.1, by simp⟩
/-- A slot's entries. -/
theorem ents (h : IsWh w base bw now E ab A sb S) {j : Nat} (hj : j < 64) : (∀ p ∈ S j, ∃ a, E p.1 = some a ∧ a.toNat % 64 = j ∧ p.2 = .int .i64 a) ∧ (∀ i a, E i = some a → a.toNat % 64 = j → (i, Value.int .i64 a) ∈ S j) ∧ ((S j).map Prod.fst).Nodup ∧ (S j).length ≤ 64 := by
  have hn : ((S j).map Prod.fst).Nodup := by
    cases hb : sb j with
    | none => rw [h.sn j hj hb]; exact List.Pairwise.nil
    | some b =>
      have := (h.sm j hj b hb).nodup wkeyed
      unfold List.Nodup
      rw [List.pairwise_map]
      exact this.imp (fun hne e => hne (by rw [e]))
  have h1 : ∀ p ∈ S j, ∃ a, E p.1 = some a ∧ a.toNat % 64 = j ∧ p.2 = .int .i64 a := fun p hp => by
    have hg := h.sg j hj p.1
    have hm : mget (S j) p.1 = some p.2 := by
      cases hq : mget (S j) p.1 with
      | none => exact absurd rfl (mget_none hq p hp)
      | some v =>
        have hv := mget_some hq
        have hpw := List.pairwise_iff_getElem.1 hn
        obtain ⟨i1, hi1, e1⟩ := List.getElem_of_mem hp
        obtain ⟨i2, hi2, e2⟩ := List.getElem_of_mem hv
        by_cases e : i1 = i2
        · subst e
          rw [e1] at e2
          rw [e2]
        · exfalso
          rcases Nat.lt_or_gt_of_ne e with q | q
          · exact hpw i1 i2 (by simpa using hi1) (by simpa using hi2) q (by rw [List.getElem_map, List.getElem_map, e1, e2])
          · exact hpw i2 i1 (by simpa using hi2) (by simpa using hi1) q (by rw [List.getElem_map, List.getElem_map, e1, e2])
    rw [hm] at hg
    cases hE : E p.1 with
    | none => rw [hE] at hg; cases hg
    | some a =>
      rw [hE] at hg
      simp only [Option.bind_some] at hg
      split at hg
      · rename_i hc; exact ⟨a, rfl, hc, Option.some.inj hg⟩
      · cases hg
  refine ⟨h1, fun i a hE hj' => ?_, hn, ?_⟩
  · have hg := h.sg j hj i
    rw [hE] at hg
    simp only [Option.bind_some] at hg
    rw [if_pos hj'] at hg
    exact mget_some hg
  · have := len64 hn (fun x hx => by
      obtain ⟨p, hp, rfl⟩ := List.mem_map.1 hx
      obtain ⟨a, hE, -⟩ := h1 p hp
      exact (h.ids _ a hE).1)
    simpa using this
end IsWh
/-- A wheel somewhere; T: its blocks. -/
def WhAt (w : World) (base bw : Nat) (now : Int) (E : Tms) (T : Nat → Prop) : Prop := ∃ ab A sb S, IsWh w base bw now E ab A sb S ∧ ∀ k, T k ↔ Whof bw ab sb k
namespace WhAt
variable {w w' : World} {base bw : Nat} {now : Int} {E E' : Tms} {T : Nat → Prop}
theorem fr {X : Nat → Prop} (h : WhAt w base bw now E T) (f : Fr X w w') (hx : ∀ k, T k → ¬ X k) : WhAt w' base bw now E T := by
  obtain ⟨ab, A, sb, S, h, hT⟩ := h
  exact ⟨ab, A, sb, S, h.fr f (fun k hk => hx k ((hT k).2 hk)), hT⟩
theorem fr0 (h : WhAt w base bw now E T) (f : Fr (fun _ => False) w w') : WhAt w' base bw now E T := h.fr f (fun _ _ h => h)
theorem congr (h : WhAt w base bw now E T) (hE : ∀ i, E' i = E i) : WhAt w base bw now E' T := by
  obtain rfl : E' = E := funext hE
  exact h
theorem lt (h : WhAt w base bw now E T) : ∀ k, T k → k < w.heap.size := by
  obtain ⟨ab, A, sb, S, h, hT⟩ := h
  exact fun k hk => h.lt k ((hT k).1 hk)
theorem low (h : WhAt w base bw now E T) : ∀ k, T k → base ≤ k := by
  obtain ⟨ab, A, sb, S, h, hT⟩ := h
  exact fun k hk => h.low k ((hT k).1 hk)
end WhAt
end Go.Proofs.YtbmeeglehbaggaaDoor
