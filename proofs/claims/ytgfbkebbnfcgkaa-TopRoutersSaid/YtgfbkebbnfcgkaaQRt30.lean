import Derived.Test.YtgfbkebbnfcgkaaQRt29
import Derived.Test.YtgfbkebbnfcgkaaQRt26
import Derived.Test.YtgfbkebbnfcgkaaQRt27
section
namespace Go.Proofs.Ytgfbkebbnfcgkaa
open Go.RowKit

/-- A place on the heap: how far, which node. -/
structure Pl where
  f : Int
  v : Int
deriving Inhabited, DecidableEq
abbrev Pl.cells (x : Pl) : List Value := [.int .i64 x.f, .int .i64 x.v]
theorem Pl.cells_len (x : Pl) : (Pl.cells x).length = 2 := rfl

/-- One can come from s to v by this much. -/
inductive Come (n : Nat) (C : Nat → Nat → Int) (s : Nat) : Nat → Int → Prop
  | here : Come n C s s 0
  | step {u k : Nat} {d : Int} : Come n C s u d → u < n → k < n → Come n C s k (d + C u k)

/-- How far all are. -/
structure IsFar (n : Nat) (C : Nat → Nat → Int) (s : Nat) (far : List Int) : Prop where
  len : far.length = n
  zero : nth far s = 0
  bd : ∀ v, v < n → 0 ≤ nth far v ∧ nth far v ≤ 16
  tri : ∀ u k, u < n → k < n → nth far k ≤ nth far u + C u k
  way : ∀ v, v < n → nth far v < 16 → Come n C s v (nth far v)

theorem Come.lt {n : Nat} {C : Nat → Nat → Int} {s v : Nat} {d : Int} (h : Come n C s v d) (hs : s < n) : v < n := by
  cases h with
  | here => exact hs
  | step _ _ hk => exact hk
theorem Come.le {n : Nat} {C : Nat → Nat → Int} {s v : Nat} {d : Int} {far : List Int} (h : Come n C s v d) (h0 : nth far s = 0) (ht : ∀ u k, u < n → k < n → nth far k ≤ nth far u + C u k) : nth far v ≤ d := by
  induction h with
  | here => omega
  | step _ hu hk ih => have := ht _ _ hu hk; omega
theorem Come.mono {n : Nat} {C D : Nat → Nat → Int} {s v : Nat} {d : Int} (h : Come n C s v d) (hD : ∀ u k, u < n → k < n → D u k ≤ C u k) {far : List Int} (h0 : nth far s = 0) (ht : ∀ u k, u < n → k < n → nth far k ≤ nth far u + D u k) : nth far v ≤ d :=
  h.le h0 (fun u k hu hk => Int.le_trans (ht u k hu hk) (by have := hD u k hu hk; omega))
/-- With less to pay nothing is farther. -/
theorem IsFar.le {n : Nat} {C D : Nat → Nat → Int} {s : Nat} {far far' : List Int} (h : IsFar n C s far) (h' : IsFar n D s far') (hD : ∀ u k, u < n → k < n → D u k ≤ C u k) {v : Nat} (hv : v < n) : nth far' v ≤ nth far v := by
  by_cases h16 : nth far v < 16
  · exact (h.way v hv h16).mono hD h'.zero h'.tri
  · have := (h'.bd v hv).2; omega
theorem IsFar.eq {n : Nat} {C : Nat → Nat → Int} {s : Nat} {far far' : List Int} (h : IsFar n C s far) (h' : IsFar n C s far') : far = far' := by
  refine ext_nth (by rw [h.len, h'.len]) (fun v hv => ?_)
  rw [h.len] at hv
  have h1 := h.le h' (fun _ _ _ _ => Int.le_refl _) hv
  have h2 := h'.le h (fun _ _ _ _ => Int.le_refl _) hv
  omega

/-- On the way: the nodes' distances, the heap (in whatever order); 'who' but those is told: 'ex' of the k first from node u is what is told. -/
structure Going (n : Nat) (C : Nat → Nat → Int) (s : Nat) (far : List Int) (hp : List Pl) (ex : Nat → Nat → Prop) : Prop where
  len : far.length = n
  zero : nth far s = 0
  bd : ∀ v, v < n → 0 ≤ nth far v ∧ nth far v ≤ 16
  way : ∀ v, v < n → nth far v < 16 → Come n C s v (nth far v)
  pl : ∀ p ∈ hp, 0 ≤ p.v ∧ p.v < n ∧ 0 ≤ p.f ∧ p.f ≤ 16 ∧ nth far p.v.toNat ≤ p.f
  done : ∀ u, u < n → nth far u < 16 → (∃ p ∈ hp, p.v = u ∧ p.f = nth far u) ∨ ∀ k, k < n → ex u k ∨ nth far k ≤ nth far u + C u k
def farW (far : List Int) : Nat := (far.map Int.toNat).sum

theorem sum_set' : ∀ (l : List Nat) (i x : Nat) (h : i < l.length), (l.set i x).sum + l[i] = l.sum + x
  | [], _, _, h => by simp at h
  | a :: l, 0, x, _ => by simp; omega
  | a :: l, i + 1, x, h => by
    have := sum_set' l i x (by simpa using h)
    simp only [List.set_cons_succ, List.sum_cons, List.getElem_cons_succ]; omega
theorem farW_set {far : List Int} {k : Nat} {d : Int} (hk : k < far.length) (h0 : 0 ≤ d) (hd : d < nth far k) : farW (far.set k d) < farW far := by
  have h1 := sum_set' (far.map Int.toNat) k d.toNat (by simpa using hk)
  have e : (far.set k d).map Int.toNat = (far.map Int.toNat).set k d.toNat := by simp [List.map_set]
  have h2 : (far.map Int.toNat)[k]'(by simpa using hk) = (nth far k).toNat := by simp [nth_eq far k hk]
  unfold farW
  rw [e]
  rw [h2] at h1
  omega
theorem farW_le {n : Nat} {far : List Int} (hl : far.length = n) (hb : ∀ v, v < n → nth far v ≤ 16) : farW far ≤ 16 * n := by
  have key : ∀ (l : List Int), (∀ x ∈ l, x ≤ 16) → (l.map Int.toNat).sum ≤ 16 * l.length := by
    intro l
    induction l with
    | nil => simp
    | cons a l ih =>
      intro h
      have h1 := ih (fun x hx => h x (by simp [hx]))
      have h2 := h a (by simp)
      simp only [List.map_cons, List.sum_cons, List.length_cons]
      omega
  rw [← hl]
  refine key far (fun x hx => ?_)
  obtain ⟨i, hi, rfl⟩ := List.getElem_of_mem hx
  rw [← nth_eq far i hi]
  exact hb i (by omega)

theorem Going.perm {n : Nat} {C : Nat → Nat → Int} {s : Nat} {far : List Int} {hp hp' : List Pl} {ex : Nat → Nat → Prop} (h : Going n C s far hp ex) (hP : hp'.Perm hp) : Going n C s far hp' ex :=
  ⟨h.len, h.zero, h.bd, h.way, fun p hp => h.pl p (hP.mem_iff.1 hp), fun u hu hl => (h.done u hu hl).imp (fun ⟨p, hp, r⟩ => ⟨p, hP.mem_iff.2 hp, r⟩) id⟩
/-- At first. -/
theorem Going.start {n s : Nat} (C : Nat → Nat → Int) (hs : s < n) : Going n C s ((List.replicate n (16 : Int)).set s 0) [⟨0, s⟩] (fun _ _ => False) := by
  have hn : ∀ v, v < n → nth ((List.replicate n (16 : Int)).set s 0) v = if v = s then 0 else 16 := fun v hv => by
    rw [nth_set _ _ _ _ (by simpa using hs)]
    split
    · rfl
    · exact nth_replicate _ _ _ hv
  refine ⟨by simp, ?_, fun v hv => ?_, fun v hv h => ?_, fun p hp => ?_, fun u hu h => ?_⟩
  · rw [hn s hs, if_pos rfl]
  · rw [hn v hv]; split <;> omega
  · rw [hn v hv] at h ⊢
    split at h
    · rename_i e; subst e; rw [if_pos rfl]; exact .here
    · omega
  · rw [List.mem_singleton.1 hp]
    refine ⟨by simp, by simp; omega, by simp, by simp, ?_⟩
    show nth _ ((s : Int).toNat) ≤ 0
    rw [Int.toNat_natCast, hn s hs, if_pos rfl]
    omega
  · rw [hn u hu] at h ⊢
    split at h
    · rename_i e; subst e; exact .inl ⟨_, List.mem_singleton.2 rfl, rfl, by simp⟩
    · omega
/-- One is taken that is no more right. -/
theorem Going.stale {n : Nat} {C : Nat → Nat → Int} {s : Nat} {far : List Int} {x : Pl} {hp : List Pl} {ex : Nat → Nat → Prop} (h : Going n C s far (x :: hp) ex) (hx : nth far x.v.toNat < x.f) : Going n C s far hp ex :=
  ⟨h.len, h.zero, h.bd, h.way, fun p hp => h.pl p (List.mem_cons_of_mem _ hp), fun u hu hl => by
    rcases h.done u hu hl with ⟨p, hp, r1, r2⟩ | r
    · rcases List.mem_cons.1 hp with rfl | hp
      · exfalso; rw [r1, r2] at hx; simp at hx
      · exact .inl ⟨p, hp, r1, r2⟩
    · exact .inr r⟩
/-- One is taken that is right: none of its next ones is told yet. -/
theorem Going.take {n : Nat} {C : Nat → Nat → Int} {s : Nat} {far : List Int} {x : Pl} {hp : List Pl} (h : Going n C s far (x :: hp) (fun _ _ => False)) : Going n C s far hp (fun u k => u = x.v.toNat ∧ 0 ≤ k) :=
  ⟨h.len, h.zero, h.bd, h.way, fun p hp => h.pl p (List.mem_cons_of_mem _ hp), fun u hu hl => by
    rcases h.done u hu hl with ⟨p, hp, r1, r2⟩ | r
    · rcases List.mem_cons.1 hp with rfl | hp
      · exact .inr (fun k _ => .inl ⟨by rw [r1]; simp, by omega⟩)
      · exact .inl ⟨p, hp, r1, r2⟩
    · exact .inr (fun k hk => .inr ((r k hk).resolve_left (fun f => f)))⟩
/-- A next one is no nearer by it. -/
theorem Going.skip {n : Nat} {C : Nat → Nat → Int} {s : Nat} {far : List Int} {hp : List Pl} {v k : Nat} (h : Going n C s far hp (fun u j => u = v ∧ k ≤ j)) (hk : nth far k ≤ nth far v + C v k) : Going n C s far hp (fun u j => u = v ∧ k + 1 ≤ j) :=
  ⟨h.len, h.zero, h.bd, h.way, h.pl, fun u hu hl => by
    rcases h.done u hu hl with r | r
    · exact .inl r
    · refine .inr (fun j hj => ?_)
      rcases r j hj with ⟨r1, r2⟩ | r
      · by_cases e : j = k
        · subst e; subst r1; exact .inr hk
        · exact .inl ⟨r1, by omega⟩
      · exact .inr r⟩
/-- A next one is nearer by it. -/
theorem Going.tell {n : Nat} {C : Nat → Nat → Int} {s : Nat} {far : List Int} {hp hp' : List Pl} {v k : Nat} {d : Int} (h : Going n C s far hp (fun u j => u = v ∧ k ≤ j)) (hv : v < n) (hk : k < n) (hs : s < n) (hC : 0 ≤ C v k) (hC0 : C v v = 0) (hd : d = nth far v + C v k) (hlt : d < nth far k) (hP : hp'.Perm (⟨d, k⟩ :: hp)) :
    Going n C s (far.set k d) hp' (fun u j => u = v ∧ k + 1 ≤ j) ∧ nth (far.set k d) v = nth far v := by
  have h0 := h.bd v hv
  have hkb := h.bd k hk
  have hkv : v ≠ k := fun e => by subst e; omega
  have hks : k ≠ s := fun e => by subst e; have := h.zero; omega
  have hn : ∀ j, nth (far.set k d) j = if j = k then d else nth far j := fun j => nth_set _ _ _ _ (by rw [h.len]; exact hk)
  have hle : ∀ j, nth (far.set k d) j ≤ nth far j := fun j => by rw [hn]; split <;> (try subst_vars) <;> omega
  refine ⟨⟨by simp [h.len], by rw [hn, if_neg (fun e => hks e.symm)]; exact h.zero, fun j hj => ?_, fun j hj hl => ?_, fun p hp => ?_, fun u hu hl => ?_⟩, by rw [hn, if_neg hkv]⟩
  · rw [hn]
    split
    · omega
    · exact h.bd j hj
  · rw [hn] at hl ⊢
    split at hl
    · rename_i e
      subst e
      rw [if_pos rfl, hd]
      exact .step (h.way v hv (by omega)) hv hk
    · rename_i e
      rw [if_neg e]
      exact h.way j hj hl
  · rcases List.mem_cons.1 (hP.mem_iff.1 hp) with rfl | hp
    · refine ⟨by simp, by simp; omega, by simp only []; omega, by simp only []; omega, ?_⟩
      show nth _ ((k : Int).toNat) ≤ d
      rw [Int.toNat_natCast, hn, if_pos rfl]
      omega
    · obtain ⟨r1, r2, r3, r4, r5⟩ := h.pl p hp
      exact ⟨r1, r2, r3, r4, Int.le_trans (hle _) r5⟩
  · by_cases e : u = k
    · subst e
      exact .inl ⟨⟨d, u⟩, hP.mem_iff.2 List.mem_cons_self, rfl, by rw [hn, if_pos rfl]⟩
    · rw [hn, if_neg e] at hl ⊢
      rcases h.done u hu hl with ⟨p, hp, r1, r2⟩ | r
      · exact .inl ⟨p, hP.mem_iff.2 (List.mem_cons_of_mem _ hp), r1, r2⟩
      · refine .inr (fun j hj => ?_)
        rcases r j hj with ⟨r1, r2⟩ | r
        · by_cases e2 : j = k
          · subst e2; subst r1; right; rw [hn, if_pos rfl]; omega
          · exact .inl ⟨r1, by omega⟩
        · exact .inr (Int.le_trans (hle j) r)
theorem Going.told {n : Nat} {C : Nat → Nat → Int} {s : Nat} {far : List Int} {hp : List Pl} {v : Nat} (h : Going n C s far hp (fun u j => u = v ∧ n ≤ j)) : Going n C s far hp (fun _ _ => False) :=
  ⟨h.len, h.zero, h.bd, h.way, h.pl, fun u hu hl => (h.done u hu hl).imp id (fun r k hk => .inr ((r k hk).resolve_left (fun f => by omega)))⟩
/-- In the end. -/
theorem Going.isFar {n : Nat} {C : Nat → Nat → Int} {s : Nat} {far : List Int} (h : Going n C s far [] (fun _ _ => False)) (hC : ∀ u k, u < n → k < n → 0 ≤ C u k) : IsFar n C s far :=
  ⟨h.len, h.zero, h.bd, fun u k hu hk => by
    have h1 := h.bd u hu
    have h2 := h.bd k hk
    by_cases h16 : nth far u < 16
    · rcases h.done u hu h16 with ⟨p, hp, _⟩ | r
      · cases hp
      · exact (r k hk).resolve_left (fun f => f)
    · have := hC u k hu hk; omega, h.way⟩
end Go.Proofs.Ytgfbkebbnfcgkaa
end

section
namespace Go
/-- No more in one list without twins than in one that has all of them. -/
theorem lensubG {α : Type} [DecidableEq α] {l m : List α} (hn : l.Nodup) (hs : ∀ x ∈ l, x ∈ m) : l.length ≤ m.length := by
  induction l generalizing m with
  | nil => exact Nat.zero_le _
  | cons x l ih =>
    obtain ⟨h1, h2⟩ := List.nodup_cons.1 hn
    have hx := hs x (by simp)
    have := ih (m := m.erase x) h2 (fun y hy => (List.mem_erase_of_ne (fun e : y = x => h1 (by rw [← e]; exact hy))).2 (hs y (by simp [hy])))
    have hl := List.length_erase_of_mem hx
    have hp := List.length_pos_of_mem hx
    simp only [List.length_cons]
    omega
end Go
namespace Go.Proofs.Ytgfbkebbnfcgkaa
open Go.RowKit

/-! ### Routers that tell each other: the plain law -/
theorem mem_atG {α : Type} [Inhabited α] {x : α} : ∀ {l : List α}, x ∈ l → ∃ i, i < l.length ∧ nth l i = x := by
  intro l
  induction l with
  | nil => intro h; cases h
  | cons y l ih =>
    intro h
    rcases List.mem_cons.1 h with rfl | h
    · exact ⟨0, by simp, rfl⟩
    · obtain ⟨i, h1, h2⟩ := ih h
      exact ⟨i + 1, by simpa using h1, h2⟩
/-- Costs between nodes. -/
structure CNet (N : Nat) (C : Nat → Nat → Int) : Prop where
  n8 : N ≤ 8
  sym : ∀ i k, i < N → k < N → C i k = C k i
  dia : ∀ i, i < N → C i i = 0
  pos : ∀ i k, i < N → k < N → i ≠ k → 1 ≤ C i k ∧ C i k ≤ 16
theorem come_front {N : Nat} {C : Nat → Nat → Int} {s u v : Nat} {d : Int} (h : Come N C u v d) (hs : s < N) (hu : u < N) : Come N C s v (C s u + d) := by
  induction h with
  | here =>
    have := Come.step (Come.here (n := N) (C := C) (s := s)) hs hu
    rwa [show (0 : Int) + C s u = C s u + 0 by omega] at this
  | step h1 hu1 hk ih =>
    have := Come.step ih hu1 hk
    rwa [Int.add_assoc] at this
theorem come_rev {N : Nat} {C : Nat → Nat → Int} (hC : CNet N C) {s v : Nat} {d : Int} (h : Come N C s v d) : Come N C v s d := by
  induction h with
  | here => exact .here
  | step h1 hu hk ih =>
    have := come_front ih hk hu
    rw [hC.sym _ _ hk hu, Int.add_comm] at this
    exact this
/-- As far to as fro. -/
theorem far_le {N : Nat} {C : Nat → Nat → Int} (hC : CNet N C) {i k : Nat} {Fi Fk : List Int} (hi : IsFar N C i Fi) (hk : IsFar N C k Fk) (hiN : i < N) (hkN : k < N) : nth Fi k ≤ nth Fk i := by
  by_cases h : nth Fk i < 16
  · exact (come_rev hC (hk.way i hiN h)).le hi.zero hi.tri
  · have := (hi.bd k hkN).2; omega
theorem far_sym {N : Nat} {C : Nat → Nat → Int} (hC : CNet N C) {i k : Nat} {Fi Fk : List Int} (hi : IsFar N C i Fi) (hk : IsFar N C k Fk) (hiN : i < N) (hkN : k < N) : nth Fi k = nth Fk i :=
  Int.le_antisymm (far_le hC hi hk hiN hkN) (far_le hC hk hi hkN hiN)
/-- The last step of a nearest way. -/
theorem far_pred {N : Nat} {C : Nat → Nat → Int} (hC : CNet N C) {q v : Nat} {f : List Int} (h : IsFar N C q f) (hv : v < N) (hne : v ≠ q) (h16 : nth f v < 16) : ∃ u, u < N ∧ u ≠ v ∧ nth f u + C u v = nth f v ∧ C u v < 16 := by
  have key : ∀ {v : Nat} {d : Int}, Come N C q v d → v ≠ q → d = nth f v → d < 16 → ∃ u, u < N ∧ u ≠ v ∧ nth f u + C u v = nth f v ∧ C u v < 16 := by
    intro v d hc
    induction hc with
    | here => intro hn; exact absurd rfl hn
    | step h1 hu hk ih =>
      rename_i u k d
      intro hn hd hlt
      have h2 := h1.le h.zero h.tri
      have h3 := h.tri u k hu hk
      have h4 := (h.bd u hu).1
      by_cases huk : u = k
      · subst huk
        have hz := hC.dia u hu
        exact ih hn (by omega) (by omega)
      · exact ⟨u, hu, huk, by omega, by omega⟩
  exact key (h.way v hv h16) hne rfl h16
/-- How many are nearer. -/
def rankF (N : Nat) (f : List Int) (v : Nat) : Nat := ((List.range N).filter fun u => decide (nth f u < nth f v)).length
theorem rank_le (N : Nat) (f : List Int) (v : Nat) : rankF N f v ≤ N := by
  unfold rankF
  refine Nat.le_trans (List.length_filter_le _ _) (by simp)
theorem rank_lt {N : Nat} {f : List Int} {u v : Nat} (hu : u < N) (h : nth f u < nth f v) : rankF N f u < rankF N f v := by
  unfold rankF
  have hn : (u :: ((List.range N).filter fun x => decide (nth f x < nth f u))).Nodup := by
    refine List.nodup_cons.2 ⟨fun hm => ?_, List.Nodup.sublist List.filter_sublist List.nodup_range⟩
    have := (List.mem_filter.1 hm).2
    simp at this
  have := lensubG (m := (List.range N).filter fun x => decide (nth f x < nth f v)) hn (fun x hx => by
    rcases List.mem_cons.1 hx with rfl | hx
    · exact List.mem_filter.2 ⟨List.mem_range.2 hu, by simpa using h⟩
    · obtain ⟨h1, h2⟩ := List.mem_filter.1 hx
      refine List.mem_filter.2 ⟨h1, ?_⟩
      simp only [decide_eq_true_eq] at h2 ⊢
      omega)
  simp only [List.length_cons] at this
  omega
/-- The neighbours of a node, in order. -/
def nearL (N : Nat) (C : Nat → Nat → Int) (i : Nat) : List Nat := (List.range N).filter fun k => decide (0 < C i k ∧ C i k < 16)
theorem nearL_mem {N : Nat} {C : Nat → Nat → Int} {i k : Nat} : k ∈ nearL N C i ↔ k < N ∧ 0 < C i k ∧ C i k < 16 := by
  unfold nearL
  rw [List.mem_filter, List.mem_range, decide_eq_true_eq]
theorem nearL_nodup (N : Nat) (C : Nat → Nat → Int) (i : Nat) : (nearL N C i).Nodup := List.Nodup.sublist List.filter_sublist List.nodup_range
theorem nearL_len {N : Nat} {C : Nat → Nat → Int} (hC : CNet N C) {i : Nat} (hi : i < N) : (nearL N C i).length ≤ 7 := by
  have hn : (i :: nearL N C i).Nodup := List.nodup_cons.2 ⟨fun hm => by have := nearL_mem.1 hm; have := hC.dia i hi; omega, nearL_nodup N C i⟩
  have := lensubG (m := List.range N) hn (fun x hx => by
    rcases List.mem_cons.1 hx with rfl | hx
    · exact List.mem_range.2 hi
    · exact List.mem_range.2 (nearL_mem.1 hx).1)
  have h8 := hC.n8
  simp only [List.length_cons, List.length_range] at this
  omega
theorem nearL_at {N : Nat} {C : Nat → Nat → Int} (hC : CNet N C) {i m : Nat} (hi : i < N) (hm : m < (nearL N C i).length) : nth (nearL N C i) m < N ∧ nth (nearL N C i) m ≠ i ∧ 1 ≤ C i (nth (nearL N C i) m) ∧ C i (nth (nearL N C i) m) ≤ 15 := by
  have h := nearL_mem.1 (nth_mem _ m hm)
  refine ⟨h.1, fun e => ?_, by omega, by omega⟩
  have := hC.dia i hi
  rw [e] at h
  omega
/-- A router at a node. -/
structure Node (N : Nat) (C : Nat → Nat → Int) (k : Nat) (D : DC) : Prop where
  costs : D.costs = (nearL N C k).map (C k)
  own : D.own = [⟨k, 32⟩]
theorem Node.len {N : Nat} {C : Nat → Nat → Int} {k : Nat} {D : DC} (h : Node N C k D) : D.costs.length = (nearL N C k).length := by rw [h.costs, List.length_map]
theorem Node.cost {N : Nat} {C : Nat → Nat → Int} {k : Nat} {D : DC} (h : Node N C k D) {m : Nat} (hm : m < (nearL N C k).length) : nth D.costs m = C k (nth (nearL N C k) m) := by rw [h.costs, nth_map _ _ _ hm]
theorem Node.other {N : Nat} {C : Nat → Nat → Int} {k : Nat} {D : DC} (h : Node N C k D) {q : Nat} (hq : q ≠ k) : (⟨q, 32⟩ : Nt) ∉ D.own := by
  rw [h.own, List.mem_singleton]
  intro e
  have := congrArg Nt.a e
  simp only at this
  omega
theorem Node.mine {N : Nat} {C : Nat → Nat → Int} {k : Nat} {D : DC} (h : Node N C k D) : (⟨k, 32⟩ : Nt) ∈ D.own := by rw [h.own]; exact List.mem_singleton.2 rfl
/-- What a rib may say: nets of nodes; nothing that is too near. -/
structure Sound (N : Nat) (C : Nat → Nat → Int) (F : Nat → List Int) (k : Nat) (l : List Td) : Prop where
  net : ∀ x ∈ l, x.n = 32 ∧ 0 ≤ x.a ∧ x.a < N
  snd : ∀ m, m < (nearL N C k).length → ∀ q : Nat, q < N → q ≠ k → lastOf (hdL l) m q 32 = 16 ∨ nth (F q) (nth (nearL N C k) m) + 1 ≤ lastOf (hdL l) m q 32
/-- What is known of those that are not so far. -/
def Compl (N : Nat) (F : Nat → List Int) (D : DC) (k r : Nat) (l : List Td) : Prop := ∀ q : Nat, q < N → q ≠ k → rankF N (F q) k ≤ r → nth (F q) k + 1 < 16 → (bestM (hdL l) D.costs q 32).1 = nth (F q) k + 1
theorem rib_m {now : Int} {l : List Td} (h : RibOk now l) : ∀ x ∈ hdL l, 1 ≤ x.m ∧ x.m ≤ 16 := fun x hx => by
  obtain ⟨y, hy, rfl⟩ := List.mem_map.1 hx
  have := h.each y hy
  exact ⟨this.m0, this.m1⟩
theorem lastOf_rng {l : List Hea} (h : ∀ x ∈ l, 1 ≤ x.m ∧ x.m ≤ 16) (f a n : Int) : 1 ≤ lastOf l f a n ∧ lastOf l f a n ≤ 16 := by
  unfold lastOf
  cases ho : lastO l f a n with
  | none => exact ⟨by decide, by decide⟩
  | some m => exact lastO_bd h ho
theorem sound_nil (N : Nat) (C : Nat → Nat → Int) (F : Nat → List Int) (k : Nat) : Sound N C F k [] := ⟨(fun _ h => nomatch h), fun _ _ _ _ _ => .inl rfl⟩
section
variable {N : Nat} {C : Nat → Nat → Int} {F : Nat → List Int} {k : Nat} {D : DC} {l : List Td} {now : Int}
/-- Each neighbour's part. -/
theorem part_at (hN : Node N C k D) {m : Nat} (hm : m < (nearL N C k).length) (q : Nat) : pOf (hdL l) D.costs q 32 m = plusM (C k (nth (nearL N C k) m)) (lastOf (hdL l) m q 32) := by
  unfold pOf
  rw [hN.cost hm]
theorem best_at (hC : CNet N C) (hk : k < N) (hN : Node N C k D) (hok : RibOk now l) (q : Nat) : bestM (hdL l) D.costs q 32 = (mK (pOf (hdL l) D.costs q 32) (nearL N C k).length, hopsK (pOf (hdL l) D.costs q 32) (mK (pOf (hdL l) D.costs q 32) (nearL N C k).length) (nearL N C k).length) := by
  rw [bestM_eq q 32 (rib_m hok) (fun c hc => ?_), hN.len]
  rw [hN.costs] at hc
  obtain ⟨u, hu, rfl⟩ := List.mem_map.1 hc
  have := nearL_mem.1 hu
  omega
/-- The best is never too near. -/
theorem best_ge (hC : CNet N C) (hF : ∀ q, q < N → IsFar N C q (F q)) (hk : k < N) (hN : Node N C k D) (hok : RibOk now l) (hs : Sound N C F k l) {q : Nat} (hq : q < N) (hqk : q ≠ k) : (bestM (hdL l) D.costs q 32).1 = 16 ∨ nth (F q) k + 1 ≤ (bestM (hdL l) D.costs q 32).1 := by
  rw [best_at hC hk hN hok q]
  simp only
  rcases mK_at (pOf (hdL l) D.costs q 32) (nearL N C k).length with h | ⟨j, hj, h⟩
  · exact .inl h
  · rw [← h, part_at hN hj]
    unfold plusM
    obtain ⟨a1, a2, a3, a4⟩ := nearL_at hC hk hj
    have ht := (hF q hq).tri _ k a1 hk
    rw [hC.sym _ _ a1 hk] at ht
    rcases hs.snd j hj q hq hqk with h1 | h1
    · rw [h1, if_neg (by omega)]; exact .inl rfl
    · split
      · right; omega
      · exact .inl rfl
/-- All nets that a router tells of. -/
theorem nets_len (hN : Node N C k D) (hk : k < N) (hs : Sound N C F k l) {R : List BestR} (hR : AllR D l R) : R.length ≤ N := by
  have hn := nsn hR.srt
  have := lensubG (m := (List.range N).map fun (q : Nat) => (⟨q, 32⟩ : Nt)) hn (fun x hx => by
    rcases (hR.mem x).1 hx with h | ⟨y, hy, rfl⟩
    · rw [hN.own, List.mem_singleton] at h
      exact List.mem_map.2 ⟨k, List.mem_range.2 hk, h.symm⟩
    · obtain ⟨h1, h2, h3⟩ := hs.net y hy
      refine List.mem_map.2 ⟨y.a.toNat, List.mem_range.2 (by omega), ?_⟩
      rw [h1]
      congr 1
      omega)
  simpa using this
/-- What is told of a net. -/
theorem tell_last {R : List BestR} (hR : AllR D l R) (h25 : R.length ≤ 25) (tq a n : Int) : lastE (tellL tq R) a n = if (⟨a, n⟩ : Nt) ∈ R.map bnet then some (if tq ∈ (bestD D l ⟨a, n⟩).2 then 16 else (bestD D l ⟨a, n⟩).1) else none := by
  have hl : tellL tq R = R.map (tell1 tq) := by unfold tellL; rw [List.take_of_length_le (by simpa using h25)]
  rw [hl]
  by_cases hq : (⟨a, n⟩ : Nt) ∈ R.map bnet
  · rw [if_pos hq]
    obtain ⟨r, hr, hrq⟩ := List.mem_map.1 hq
    refine lastE_some (fun e he hen => ?_) ⟨tell1 tq r, List.mem_map.2 ⟨r, hr, rfl⟩, congrArg Nt.a hrq, congrArg Nt.n hrq⟩
    obtain ⟨r', hr', rfl⟩ := List.mem_map.1 he
    have hb : bnet r' = ⟨a, n⟩ := by
      have h1 : r'.a = a := hen.1
      have h2 : r'.n = n := hen.2
      unfold bnet; rw [h1, h2]
    have hv := hR.val r' hr'
    rw [hb] at hv
    rw [← hv]
    rfl
  · rw [if_neg hq]
    refine lastE_none (fun e he hen => hq ?_)
    obtain ⟨r', hr', rfl⟩ := List.mem_map.1 he
    refine List.mem_map.2 ⟨r', hr', ?_⟩
    have h1 : r'.a = a := hen.1
    have h2 : r'.n = n := hen.2
    unfold bnet; rw [h1, h2]
/-- Nothing that is told is too near. -/
theorem told_sound (hC : CNet N C) (hF : ∀ q, q < N → IsFar N C q (F q)) (hk : k < N) (hN : Node N C k D) (hok : RibOk now l) (hs : Sound N C F k l) {R : List BestR} (hR : AllR D l R) (tq : Int) {q : Nat} (hq : q < N) {v : Int} (hv : lastE (tellL tq R) q 32 = some v) : v = 16 ∨ nth (F q) k + 1 ≤ v := by
  rw [tell_last hR (by have := nets_len hN hk hs hR; have := hC.n8; omega)] at hv
  split at hv
  · have hv := Option.some.inj hv
    subst hv
    split
    · exact .inl rfl
    · by_cases hqk : q = k
      · subst hqk
        rw [bestD_own hN.mine]
        right
        rw [(hF q hq).zero]
        decide
      · rw [bestD_other (hN.other hqk)]
        exact best_ge hC hF hk hN hok hs hq hqk
  · cases hv
/-- Where one is the next one on the nearest way, the other tells it what it is. -/
theorem told_compl (hC : CNet N C) (hF : ∀ q, q < N → IsFar N C q (F q)) (hk : k < N) (hN : Node N C k D) (hok : RibOk now l) (hs : Sound N C F k l) {r : Nat} (hc : Compl N F D k r l) {R : List BestR} (hR : AllR D l R) {m : Nat} (hm : m < (nearL N C k).length) {q : Nat} (hq : q < N) (hqw : q ≠ nth (nearL N C k) m)
    (hr : rankF N (F q) k ≤ r) (h16 : nth (F q) k + 1 < 16) (hst : nth (F q) (nth (nearL N C k) m) = nth (F q) k + C k (nth (nearL N C k) m)) : lastE (tellL m R) q 32 = some (nth (F q) k + 1) := by
  obtain ⟨a1, a2, a3, a4⟩ := nearL_at hC hk hm
  rw [tell_last hR (by have := nets_len hN hk hs hR; have := hC.n8; omega)]
  by_cases hqk : q = k
  · subst hqk
    rw [if_pos ((hR.mem _).2 (.inl hN.mine)), bestD_own hN.mine, if_neg (fun h => nomatch h), (hF q hq).zero]
    rfl
  · have hb := hc q hq hqk hr h16
    have hex : ∃ x ∈ l, (⟨x.a, x.n⟩ : Nt) = ⟨q, 32⟩ := by
      refine Classical.byContradiction fun hno => ?_
      have hz : ∀ j, j < (nearL N C k).length → pOf (hdL l) D.costs q 32 j = 16 := fun j hj => by
        rw [part_at hN hj, lastOf_no (fun x hx hh => hno ⟨x, hx, by rw [hh.2.1, hh.2.2]⟩)]
        unfold plusM
        have := nearL_at hC hk hj
        rw [if_neg (by omega)]
      rw [best_at hC hk hN hok q] at hb
      simp only at hb
      rcases mK_at (pOf (hdL l) D.costs q 32) (nearL N C k).length with h | ⟨j, hj, h⟩
      · omega
      · rw [hz j hj] at h; omega
    rw [if_pos ((hR.mem _).2 (.inr hex)), bestD_other (hN.other hqk)]
    rw [if_neg, hb]
    intro hh
    rw [best_at hC hk hN hok q] at hh hb
    simp only at hh hb
    obtain ⟨j, hj1, hj2, hj3, hj4⟩ := hopsK_mem hh
    obtain rfl : m = j := by omega
    rw [hb, part_at hN hm] at hj3
    unfold plusM at hj3
    rcases hs.snd m hm q hq hqk with h1 | h1
    · rw [h1, if_neg (by omega)] at hj3; omega
    · split at hj3 <;> omega
/-- Behind a round in which each neighbour told what it knows. -/
theorem round_end (hC : CNet N C) (hF : ∀ q, q < N → IsFar N C q (F q)) (hk : k < N) (hN : Node N C k D) {l0 : List Td} (hok : RibOk now l) (hs : Sound N C F k l0) (hnet : ∀ x ∈ l, x.n = 32 ∧ 0 ≤ x.a ∧ x.a < N) {r : Nat} {T : Nat → Nat → Option Int}
    (hT1 : ∀ m, m < (nearL N C k).length → ∀ q, q < N → q ≠ k → ∀ v, T m q = some v → v = 16 ∨ nth (F q) (nth (nearL N C k) m) + 1 ≤ v)
    (hT2 : ∀ m, m < (nearL N C k).length → ∀ q, q < N → q ≠ k → rankF N (F q) (nth (nearL N C k) m) ≤ r → nth (F q) (nth (nearL N C k) m) + 1 < 16 → nth (F q) k = nth (F q) (nth (nearL N C k) m) + C (nth (nearL N C k) m) k → T m q = some (nth (F q) (nth (nearL N C k) m) + 1))
    (hl : ∀ m, m < (nearL N C k).length → ∀ q : Nat, q < N → q ≠ k → lastOf (hdL l) m q 32 = (T m q).getD (lastOf (hdL l0) m q 32)) : Sound N C F k l ∧ Compl N F D k (r + 1) l := by
  have hS : Sound N C F k l := ⟨hnet, fun m hm q hq hqk => by
    rw [hl m hm q hq hqk]
    cases ht : T m q with
    | none => exact hs.snd m hm q hq hqk
    | some v => exact hT1 m hm q hq hqk v ht⟩
  refine ⟨hS, fun q hq hqk hr h16 => ?_⟩
  obtain ⟨u, hu, huk, hst, h15⟩ := far_pred hC (hF q hq) hk (fun e => hqk e.symm) (by omega)
  have hcp := hC.pos u k hu hk huk
  have hmem : u ∈ nearL N C k := nearL_mem.2 ⟨hu, by rw [hC.sym k u hk hu]; omega, by rw [hC.sym k u hk hu]; exact h15⟩
  obtain ⟨m, hm, hmu⟩ := mem_atG hmem
  have hrk : rankF N (F q) u ≤ r := by
    have := rank_lt (f := F q) hu (show nth (F q) u < nth (F q) k by omega)
    omega
  have ht := hT2 m hm q hq hqk (by rw [hmu]; exact hrk) (by rw [hmu]; omega) (by rw [hmu]; omega)
  have hlast := hl m hm q hq hqk
  rw [ht, hmu] at hlast
  simp only [Option.getD_some] at hlast
  have hge := best_ge hC hF hk hN hok hS hq hqk
  have hle : (bestM (hdL l) D.costs q 32).1 ≤ nth (F q) k + 1 := by
    rw [best_at hC hk hN hok q]
    have h1 := (mK_le (pOf (hdL l) D.costs q 32) (nearL N C k).length).2 m hm
    rw [part_at hN hm, hlast, hmu] at h1
    unfold plusM at h1
    rw [hC.sym k u hk hu, if_pos (by omega)] at h1
    simp only
    omega
  omega
/-- So many things a rib may hold. -/
theorem rib_room (hC : CNet N C) (hk : k < N) (hok : RibOk now l) (hs : ∀ x ∈ l, x.n = 32 ∧ 0 ≤ x.a ∧ x.a < N) (hf : ∀ x ∈ l, x.f < ((nearL N C k).length : Int)) : l.length ≤ 56 := by
  have h7 := nearL_len hC hk
  have h8 := hC.n8
  have hn : (l.map fun x => (⟨x.f, x.a⟩ : Nt)).Nodup := by
    have ho := hok.ord
    have key : ∀ l : List Td, l.Pairwise ltd → (∀ x ∈ l, x.n = 32) → (l.map fun x => (⟨x.f, x.a⟩ : Nt)).Nodup := by
      intro l
      induction l with
      | nil => intro _ _; exact List.nodup_nil
      | cons x l ih =>
        intro hp h32
        obtain ⟨h1, h2⟩ := List.pairwise_cons.1 hp
        rw [List.map_cons]
        refine List.nodup_cons.2 ⟨fun hm => ?_, ih h2 (fun y hy => h32 y (by simp [hy]))⟩
        obtain ⟨y, hy, he⟩ := List.mem_map.1 hm
        have e1 := congrArg Nt.a he
        have e2 := congrArg Nt.n he
        have := rib_uniq hp x (by simp) y (by simp [hy]) e1.symm e2.symm (by rw [h32 x (by simp), h32 y (by simp [hy])])
        subst this
        have := h1 x hy
        unfold ltd tdAhead netLess at this
        omega
    exact key l ho (fun x hx => (hs x hx).1)
  have := lensubG (m := (List.range 7).flatMap fun (f : Nat) => (List.range 8).map fun (a : Nat) => (⟨f, a⟩ : Nt)) hn (fun y hy => by
    obtain ⟨x, hx, rfl⟩ := List.mem_map.1 hy
    have h1 := hf x hx
    have h2 := hs x hx
    have h3 := (hok.each x hx).f0
    refine List.mem_flatMap.2 ⟨x.f.toNat, List.mem_range.2 (by omega), List.mem_map.2 ⟨x.a.toNat, List.mem_range.2 (by omega), ?_⟩⟩
    have e1 : ((x.f.toNat : Nat) : Int) = x.f := by omega
    have e2 : ((x.a.toNat : Nat) : Int) = x.a := by omega
    rw [e1, e2])
  have hlen : ((List.range 7).flatMap fun (f : Nat) => (List.range 8).map fun (a : Nat) => (⟨f, a⟩ : Nt)).length = 56 := by decide
  rw [hlen] at this
  simpa using this
end
end Go.Proofs.Ytgfbkebbnfcgkaa
end

section
namespace Go.Proofs.Ytgfbkebbnfcgkaa
open Go.RowKit

/-! ### Routers that tell each other: a message heard, in a round -/
theorem aged_small {now t : Int} {l : List Td} (h : RibOk now l) (hn : now ≤ t) (ht : t < 120) : rAged t l = l := by
  have key : ∀ l : List Td, (∀ x ∈ l, age1 t x = some x) → rAged t l = l := by
    intro l
    induction l with
    | nil => intro _; rfl
    | cons x l ih =>
      intro h
      unfold rAged at *
      rw [List.filterMap_cons, h x (by simp)]
      simp only
      rw [ih (fun y hy => h y (by simp [hy]))]
  refine key l (fun x hx => ?_)
  have hxo := h.each x hx
  have h0 := hxo.t0
  have h1 := hxo.t1
  by_cases hm : x.m < 16
  · exact age1_live hm (by omega)
  · rw [age1_dead hm, if_pos (by omega)]
theorem learn_roomT {l : List Td} {f a n m t : Int} (h : RibOk t l) (ht : t < 120) (hl : l.length < 64) (hf : 0 ≤ f ∧ f < 8) (hn : netErr a n = none) (hm : 1 ≤ m ∧ m ≤ 16) : ∃ l', learnE t l f a n m t = .ok l' := by
  have h1 := h.n1
  unfold learnE
  rw [if_neg (by unfold ckErr; omega), hn]
  simp only
  rw [if_neg (by omega), aged_small h (Int.le_refl _) ht]
  unfold rPut
  split
  · split
    · exact ⟨_, rfl⟩
    · exact ⟨_, rfl⟩
  · split
    · exact ⟨_, rfl⟩
    · rw [if_neg (by omega)]; exact ⟨_, rfl⟩
/-- A message heard, where there is room. -/
theorem hear_lastT {D : DC} {f t : Int} (hf : 0 ≤ f ∧ f < 8) (ht : t < 120) {l : List Td} (h : RibOk t l) : ∀ es : List En, (∀ e ∈ es, entErr e = none ∧ En.wf e) → l.length + es.length ≤ 64 →
    RibOk t (hearL D f t l es) ∧ (hearL D f t l es).length ≤ l.length + es.length ∧ ∀ k a n, lastOf (hdL (hearL D f t l es)) k a n = if k = f ∧ (⟨a, n⟩ : Nt) ∉ D.own then (lastE es a n).getD (lastOf (hdL l) k a n) else lastOf (hdL l) k a n := by
  intro es
  refine snocI (P := fun es => (∀ e ∈ es, entErr e = none ∧ En.wf e) → l.length + es.length ≤ 64 →
    RibOk t (hearL D f t l es) ∧ (hearL D f t l es).length ≤ l.length + es.length ∧ ∀ k a n, lastOf (hdL (hearL D f t l es)) k a n = if k = f ∧ (⟨a, n⟩ : Nt) ∉ D.own then (lastE es a n).getD (lastOf (hdL l) k a n) else lastOf (hdL l) k a n) (fun _ _ => ⟨h, Nat.le_refl _, fun k a n => by split <;> rfl⟩) (fun es e ih he hl => ?_) es
  rw [List.length_append, List.length_singleton] at hl
  obtain ⟨i1, i2, i3⟩ := ih (fun x hx => he x (by simp [hx])) (by omega)
  obtain ⟨he1, he2⟩ := he e (by simp)
  obtain ⟨p1, p2, p3⟩ := entErr_parts he1
  have hst : hearL D f t l (es ++ [e]) = hear1 D f t (hearL D f t l es) e := by unfold hearL; rw [List.foldl_append]; rfl
  rw [hst]
  obtain ⟨L, hL⟩ : ∃ L, L = hearL D f t l es := ⟨_, rfl⟩
  rw [← hL] at i1 i2 i3 ⊢
  rw [List.length_append, List.length_singleton]
  by_cases ho : (⟨e.a, e.n⟩ : Nt) ∈ D.own
  · rw [hear1_own ho]
    refine ⟨i1, by omega, fun k a n => ?_⟩
    rw [i3, lastE_snoc]
    by_cases hk : k = f ∧ (⟨a, n⟩ : Nt) ∉ D.own
    · rw [if_pos hk, if_pos hk, if_neg (fun hh => hk.2 (by rw [← hh.1, ← hh.2]; exact ho))]
    · rw [if_neg hk, if_neg hk]
  · obtain ⟨l', hl'⟩ := learn_roomT i1 ht (by omega) hf p1 ⟨p2, p3⟩
    rw [hear1_ok ho hl']
    obtain ⟨q1, -, -, -, -, -, -, -, q9⟩ := learn_ok i1 he2.1 hl'
    rw [aged_small i1 (Int.le_refl _) ht] at q9
    refine ⟨q1, by have := rPut_len q9; omega, fun k a n => ?_⟩
    rw [learn_last i1 he2.1 hl', aged_small i1 (Int.le_refl _) ht, i3, lastE_snoc]
    by_cases hk : k = f ∧ (⟨a, n⟩ : Nt) ∉ D.own
    · rw [if_pos hk, if_pos hk]
      by_cases hq : k = f ∧ a = e.a ∧ n = e.n
      · rw [if_pos hq, if_pos ⟨hq.2.1.symm, hq.2.2.symm⟩]; rfl
      · rw [if_neg hq, if_neg (fun hh => hq ⟨hk.1, hh.1.symm, hh.2.symm⟩)]
    · rw [if_neg hk, if_neg hk, if_neg]
      rintro ⟨h1, h2, h3⟩
      exact hk ⟨h1, by rw [h2, h3]; exact ho⟩
/-- The place of a node among neighbours. -/
def posL (l : List Nat) (x : Nat) : Nat := l.idxOf x
theorem posL_lt {l : List Nat} {x : Nat} (h : x ∈ l) : posL l x < l.length := List.idxOf_lt_length_of_mem h
theorem posL_at {l : List Nat} {x : Nat} (h : x ∈ l) : nth l (posL l x) = x := by
  rw [nth_eq l _ (posL_lt h)]
  exact List.getElem_idxOf (posL_lt h)
theorem nodup_at : ∀ {l : List Nat}, l.Nodup → ∀ {i j : Nat}, i < l.length → j < l.length → nth l i = nth l j → i = j := by
  intro l
  induction l with
  | nil => intro _ i j hi; exact absurd hi (Nat.not_lt_zero _)
  | cons x l ih =>
    intro hn i j hi hj h
    obtain ⟨h1, h2⟩ := List.nodup_cons.1 hn
    cases i with
    | zero =>
      cases j with
      | zero => rfl
      | succ j =>
        rw [nth_cons_zero, nth_cons_succ] at h
        exact absurd (h ▸ nth_mem l j (by simpa using hj)) h1
    | succ i =>
      cases j with
      | zero =>
        rw [nth_cons_zero, nth_cons_succ] at h
        exact absurd (h ▸ nth_mem l i (by simpa using hi)) h1
      | succ j =>
        rw [nth_cons_succ, nth_cons_succ] at h
        rw [ih h2 (by simpa using hi) (by simpa using hj) h]
theorem posL_nth {l : List Nat} (hn : l.Nodup) {i : Nat} (hi : i < l.length) : posL l (nth l i) = i := nodup_at hn (posL_lt (nth_mem l i hi)) hi (posL_at (nth_mem l i hi))
theorem near_back {N : Nat} {C : Nat → Nat → Int} (hC : CNet N C) {i k : Nat} (hi : i < N) (h : k ∈ nearL N C i) : i ∈ nearL N C k := by
  obtain ⟨h1, h2, h3⟩ := nearL_mem.1 h
  exact nearL_mem.2 ⟨hi, by rw [hC.sym k i h1 hi]; exact h2, by rw [hC.sym k i h1 hi]; exact h3⟩
/-- What a router was told in a round, by whom and of what. -/
def toldT (N : Nat) (C : Nat → Nat → Int) (R : Nat → List BestR) (k m q : Nat) : Option Int := lastE (tellL (posL (nearL N C (nth (nearL N C k) m)) k) (R (nth (nearL N C k) m))) q 32
/-- Has its neighbour told it yet? -/
def doneT (N : Nat) (C : Nat → Nat → Int) (i j k m : Nat) : Prop := nth (nearL N C k) m < i ∨ (nth (nearL N C k) m = i ∧ posL (nearL N C i) k < j)
instance (N : Nat) (C : Nat → Nat → Int) (i j k m : Nat) : Decidable (doneT N C i j k m) := by unfold doneT; infer_instance
/-- A router in the middle of a round. -/
structure MidT (N : Nat) (C : Nat → Nat → Int) (R : Nat → List BestR) (i j k : Nat) (l0 l : List Td) : Prop where
  net : ∀ x ∈ l, x.n = 32 ∧ 0 ≤ x.a ∧ x.a < N
  lst : ∀ m, m < (nearL N C k).length → ∀ q : Nat, q < N → q ≠ k → lastOf (hdL l) m q 32 = if doneT N C i j k m then (toldT N C R k m q).getD (lastOf (hdL l0) m q 32) else lastOf (hdL l0) m q 32
theorem mid_start {N : Nat} {C : Nat → Nat → Int} {R : Nat → List BestR} {k : Nat} {l : List Td} (h : ∀ x ∈ l, x.n = 32 ∧ 0 ≤ x.a ∧ x.a < N) : MidT N C R 0 0 k l l :=
  ⟨h, fun m _ q _ _ => by rw [if_neg]; unfold doneT; omega⟩
/-- The next teller. -/
theorem mid_next {N : Nat} {C : Nat → Nat → Int} (hC : CNet N C) {R : Nat → List BestR} {i k : Nat} {l0 l : List Td} (hk : k < N) (h : MidT N C R i (nearL N C i).length k l0 l) : MidT N C R (i + 1) 0 k l0 l :=
  ⟨h.net, fun m hm q hq hqk => by
    rw [h.lst m hm q hq hqk]
    have hiff : doneT N C i (nearL N C i).length k m ↔ doneT N C (i + 1) 0 k m := by
      unfold doneT
      constructor
      · rintro (h | ⟨h, -⟩) <;> omega
      · rintro (h | ⟨h, h'⟩)
        · by_cases he : nth (nearL N C k) m = i
          · refine .inr ⟨he, posL_lt ?_⟩
            have := near_back hC hk (nth_mem _ m hm)
            rwa [he] at this
          · left; omega
        · omega
    by_cases hd : doneT N C i (nearL N C i).length k m
    · rw [if_pos hd, if_pos (hiff.1 hd)]
    · rw [if_neg hd, if_neg (fun h => hd (hiff.2 h))]⟩
/-- Somebody else is told. -/
theorem mid_other {N : Nat} {C : Nat → Nat → Int} (hC : CNet N C) {R : Nat → List BestR} {i j k : Nat} {l0 l : List Td} (hi : i < N) (hk : k < N) (hj : j < (nearL N C i).length) (hne : k ≠ nth (nearL N C i) j) (h : MidT N C R i j k l0 l) : MidT N C R i (j + 1) k l0 l :=
  ⟨h.net, fun m hm q hq hqk => by
    rw [h.lst m hm q hq hqk]
    have hiff : doneT N C i j k m ↔ doneT N C i (j + 1) k m := by
      unfold doneT
      constructor
      · rintro (h | ⟨h, h'⟩)
        · exact .inl h
        · exact .inr ⟨h, by omega⟩
      · rintro (h | ⟨h, h'⟩)
        · exact .inl h
        · refine .inr ⟨h, ?_⟩
          have hmem : k ∈ nearL N C i := by
            have := near_back hC hk (nth_mem _ m hm)
            rwa [h] at this
          have : posL (nearL N C i) k ≠ j := fun e => hne (by rw [← e, posL_at hmem])
          omega
    by_cases hd : doneT N C i j k m
    · rw [if_pos hd, if_pos (hiff.1 hd)]
    · rw [if_neg hd, if_neg (fun h => hd (hiff.2 h))]⟩
/-- One is told. -/
theorem mid_heard {N : Nat} {C : Nat → Nat → Int} (hC : CNet N C) {R : Nat → List BestR} {i j : Nat} {D : DC} {now t : Int} {l0 l : List Td} (hi : i < N) (hj : j < (nearL N C i).length) (hN : Node N C (nth (nearL N C i) j) D) (hok : RibOk now l) (hnt : now ≤ t) (ht : t < 120)
    (hf : ∀ x ∈ l, x.f < D.costs.length) (h : MidT N C R i j (nth (nearL N C i) j) l0 l) {es : List En} (hes : es = tellL j (R i)) (hew : ∀ e ∈ es, (entErr e = none ∧ En.wf e) ∧ e.n = 32 ∧ 0 ≤ e.a ∧ e.a < N) (hel : es.length ≤ 8) :
    MidT N C R i (j + 1) (nth (nearL N C i) j) l0 (hearL D (posL (nearL N C (nth (nearL N C i) j)) i) t (rAged t l) es) := by
  have hkm := nth_mem (nearL N C i) j hj
  have hk := (nearL_mem.1 hkm).1
  have hback := near_back hC hi hkm
  have hjj := posL_nth (nearL_nodup N C i) hj
  generalize nth (nearL N C i) j = k at *
  have hag := aged_small hok hnt ht
  have hlen := rib_room hC hk hok h.net (fun x hx => by have := hf x hx; rw [hN.len] at this; exact this)
  have h7 := nearL_len hC hk
  have hpl := posL_lt hback
  have hokt : RibOk t l := by have := rAged_ok hok hnt (by omega); rwa [hag] at this
  rw [hag]
  obtain ⟨-, -, i3⟩ := hear_lastT (D := D) (f := (posL (nearL N C k) i : Nat)) (by omega) ht hokt es (fun e he => (hew e he).1) (by omega)
  refine ⟨fun x hx => ?_, fun m hm q hq hqk => ?_⟩
  · rcases hearL_mem es l hx with ⟨y, hy, e1, e2⟩ | ⟨e, he, e1, e2⟩
    · rw [← e1, ← e2]; exact h.net y hy
    · have := (hew e he).2; rw [← e1, ← e2]; exact this
  · rw [i3, h.lst m hm q hq hqk]
    have hqo := hN.other (q := q) hqk
    by_cases hmf : m = posL (nearL N C k) i
    · have hu : nth (nearL N C k) m = i := by rw [hmf, posL_at hback]
      rw [if_pos ⟨by rw [hmf], hqo⟩, if_neg (show ¬ doneT N C i j k m by unfold doneT; rw [hu, hjj]; omega), if_pos (show doneT N C i (j + 1) k m by unfold doneT; rw [hu, hjj]; omega)]
      unfold toldT
      rw [hu, hjj, hes]
    · have hu : nth (nearL N C k) m ≠ i := fun e => hmf (by rw [← e, posL_nth (nearL_nodup N C k) hm])
      rw [if_neg (fun hh => hmf (by have := hh.1; omega))]
      have hiff : doneT N C i j k m ↔ doneT N C i (j + 1) k m := by unfold doneT; omega
      by_cases hd : doneT N C i j k m
      · rw [if_pos hd, if_pos (hiff.1 hd)]
      · rw [if_neg hd, if_neg (fun h => hd (hiff.2 h))]
/-- The round is over. -/
theorem mid_end {N : Nat} {C : Nat → Nat → Int} {F : Nat → List Int} (hC : CNet N C) (hF : ∀ q, q < N → IsFar N C q (F q)) {Ds : Nat → DC} {L0 : Nat → List Td} {nows : Nat → Int} {R : Nat → List BestR} {r : Nat} (hN : ∀ k, k < N → Node N C k (Ds k)) (hok0 : ∀ k, k < N → RibOk (nows k) (L0 k)) (hS : ∀ k, k < N → Sound N C F k (L0 k)) (hc : ∀ k, k < N → Compl N F (Ds k) k r (L0 k))
    (hR : ∀ k, k < N → 0 < (nearL N C k).length → AllR (Ds k) (L0 k) (R k)) {k : Nat} (hk : k < N) {now : Int} {l : List Td} (hok : RibOk now l) (h : MidT N C R N 0 k (L0 k) l) : Sound N C F k l ∧ Compl N F (Ds k) k (r + 1) l := by
  have hu : ∀ m, m < (nearL N C k).length → nth (nearL N C k) m < N ∧ k ∈ nearL N C (nth (nearL N C k) m) := fun m hm => ⟨(nearL_at hC hk hm).1, near_back hC hk (nth_mem _ m hm)⟩
  refine round_end hC hF hk (hN k hk) hok (hS k hk) h.net (T := toldT N C R k) (fun m hm q hq hqk v hv => ?_) (fun m hm q hq hqk hr h16 hst => ?_) (fun m hm q hq hqk => ?_)
  · obtain ⟨a1, a2⟩ := hu m hm
    exact told_sound hC hF a1 (hN _ a1) (hok0 _ a1) (hS _ a1) (hR _ a1 (List.length_pos_of_mem a2)) _ hq hv
  · obtain ⟨a1, a2⟩ := hu m hm
    have hp := posL_at a2
    refine told_compl hC hF a1 (hN _ a1) (hok0 _ a1) (hS _ a1) (hc _ a1) (hR _ a1 (List.length_pos_of_mem a2)) (posL_lt a2) hq (by rw [hp]; exact hqk) hr h16 (by rw [hp]; exact hst)
  · rw [h.lst m hm q hq hqk, if_pos (.inl (hu m hm).1)]
end Go.Proofs.Ytgfbkebbnfcgkaa
end

section
namespace Go.Proofs.Ytgfbkebbnfcgkaa
open Go.RowKit

/-! ### Routers that tell each other: that there are distances; what a table says in the end -/
theorem come_nonneg {N : Nat} {C : Nat → Nat → Int} (hC : CNet N C) {s v : Nat} {d : Int} (h : Come N C s v d) : 0 ≤ d := by
  induction h with
  | here => exact Int.le_refl 0
  | step h1 hu hk ih =>
    rename_i u k d
    by_cases e : u = k
    · subst e; have := hC.dia u hu; omega
    · have := hC.pos u k hu hk e; omega
theorem least_ex (P : Nat → Prop) : ∀ n, (∃ d, d < n ∧ P d) → ∃ d, d < n ∧ P d ∧ ∀ e, P e → d ≤ e := by
  intro n
  induction n with
  | zero => rintro ⟨d, h, _⟩; exact absurd h (Nat.not_lt_zero _)
  | succ n ih =>
    rintro ⟨d, h1, h2⟩
    by_cases hh : ∃ d, d < n ∧ P d
    · obtain ⟨e, e1, e2, e3⟩ := ih hh
      exact ⟨e, by omega, e2, e3⟩
    · refine ⟨d, h1, h2, fun e he => ?_⟩
      rcases Nat.lt_or_ge e n with q | q
      · exact absurd ⟨e, q, he⟩ hh
      · omega
/-- The least way's length, up to 16. -/
def LeastW (N : Nat) (C : Nat → Nat → Int) (s v : Nat) (x : Int) : Prop := (0 ≤ x ∧ x ≤ 16) ∧ (x < 16 → Come N C s v x) ∧ ∀ d, Come N C s v d → x ≤ d
theorem leastW_ex {N : Nat} {C : Nat → Nat → Int} (hC : CNet N C) (s v : Nat) : ∃ x, LeastW N C s v x := by
  by_cases h : ∃ d : Nat, d < 16 ∧ Come N C s v d
  · obtain ⟨d, h1, h2, h3⟩ := least_ex (fun d : Nat => Come N C s v d) 16 h
    refine ⟨d, by omega, fun _ => h2, fun e he => ?_⟩
    have h0 := come_nonneg hC he
    have := h3 e.toNat (by rwa [show ((e.toNat : Nat) : Int) = e by omega])
    omega
  · refine ⟨16, by decide, fun h => absurd h (by decide), fun e he => ?_⟩
    have h0 := come_nonneg hC he
    refine Classical.byContradiction fun hlt => h ⟨e.toNat, by omega, ?_⟩
    rwa [show ((e.toNat : Nat) : Int) = e by omega]
theorem exists_far {N : Nat} {C : Nat → Nat → Int} (hC : CNet N C) {s : Nat} (hs : s < N) : ∃ f, IsFar N C s f := by
  have hg : ∀ v, LeastW N C s v (Classical.choose (leastW_ex hC s v)) := fun v => Classical.choose_spec (leastW_ex hC s v)
  obtain ⟨g, hg⟩ : ∃ g : Nat → Int, ∀ v, LeastW N C s v (g v) := ⟨fun v => Classical.choose (leastW_ex hC s v), hg⟩
  have hn : ∀ v, v < N → nth ((List.range N).map g) v = g v := fun v hv => by
    rw [nth_map _ _ _ (by simpa using hv)]
    congr 1
    simp [nth, List.getD, hv]
  refine ⟨(List.range N).map g, by simp, ?_, fun v hv => ?_, fun u k hu hk => ?_, fun v hv h => ?_⟩
  · rw [hn s hs]
    have h1 := (hg s).2.2 0 Come.here
    have h2 := (hg s).1.1
    omega
  · rw [hn v hv]; exact (hg v).1
  · rw [hn u hu, hn k hk]
    have hcp : 0 ≤ C u k := by
      by_cases e : u = k
      · subst e; have := hC.dia u hu; omega
      · have := hC.pos u k hu hk e; omega
    have hb := (hg k).1
    by_cases h : g u < 16
    · exact (hg k).2.2 _ (Come.step ((hg u).2.1 h) hu hk)
    · omega
  · rw [hn v hv] at h ⊢
    exact (hg v).2.1 h
section
variable {N : Nat} {C : Nat → Nat → Int} {F : Nat → List Int} {k : Nat} {D : DC} {l : List Td} {now : Int}
/-- A way that there is was told of. -/
theorem heard_of (hC : CNet N C) (hk : k < N) (hN : Node N C k D) (hok : RibOk now l) {q : Nat} (hb : (bestM (hdL l) D.costs q 32).1 < 16) : ∃ x ∈ l, (⟨x.a, x.n⟩ : Nt) = ⟨q, 32⟩ := by
  refine Classical.byContradiction fun hno => ?_
  have hz : ∀ j, j < (nearL N C k).length → pOf (hdL l) D.costs q 32 j = 16 := fun j hj => by
    rw [part_at hN hj, lastOf_no (fun x hx hh => hno ⟨x, hx, by rw [hh.2.1, hh.2.2]⟩)]
    unfold plusM
    have := nearL_at hC hk hj
    rw [if_neg (by omega)]
  rw [best_at hC hk hN hok q] at hb
  simp only at hb
  rcases mK_at (pOf (hdL l) D.costs q 32) (nearL N C k).length with h | ⟨j, hj, h⟩
  · omega
  · rw [hz j hj] at h; omega
/-- Who has a way in the end. -/
theorem last_best (hC : CNet N C) (hF : ∀ q, q < N → IsFar N C q (F q)) (hk : k < N) (hN : Node N C k D) (hok : RibOk now l) (hs : Sound N C F k l) (hc : Compl N F D k N l) {q : Nat} (hq : q < N) : ((bestD D l ⟨q, 32⟩).1 < 16 ↔ nth (F q) k + 1 < 16) ∧ (nth (F q) k + 1 < 16 → (bestD D l ⟨q, 32⟩).1 = nth (F q) k + 1) := by
  by_cases hqk : q = k
  · subst hqk
    rw [bestD_own hN.mine, (hF q hq).zero]
    exact ⟨⟨fun _ => by decide, fun _ => by decide⟩, fun _ => rfl⟩
  · rw [bestD_other (hN.other hqk)]
    dsimp only
    have h1 := hc q hq hqk (rank_le N (F q) k)
    have h2 := best_ge hC hF hk hN hok hs hq hqk
    refine ⟨⟨fun h => by omega, fun h => by rw [h1 h]; exact h⟩, h1⟩
/-- The nodes that are not too far. -/
def reachL (N : Nat) (f : List Int) : List Nat := (List.range N).filter fun q => decide (nth f q + 1 < 16)
theorem table_end (hC : CNet N C) (hF : ∀ q, q < N → IsFar N C q (F q)) (hk : k < N) (hN : Node N C k D) (hok : RibOk now l) (hs : Sound N C F k l) (hc : Compl N F D k N l) {R : List BestR} (hR : TabR D l R) {f : List Int} (hf : IsFar N C k f) :
    R.length = (reachL N f).length ∧ ∀ r ∈ R, 0 ≤ r.a ∧ r.a < N ∧ r.m = nth f r.a.toNat + 1 := by
  have hsym : ∀ q, q < N → nth (F q) k = nth f q := fun q hq => far_sym hC (hF q hq) hf hq hk
  have hmem : ∀ x : Nt, x ∈ R.map bnet ↔ x ∈ (reachL N f).map fun (q : Nat) => (⟨q, 32⟩ : Nt) := fun x => by
    rw [hR.mem, List.mem_map]
    constructor
    · rintro ⟨h1, h2⟩
      have hx : ∃ q : Nat, q < N ∧ x = ⟨q, 32⟩ := by
        rcases h1 with h | ⟨y, hy, rfl⟩
        · rw [hN.own, List.mem_singleton] at h
          exact ⟨k, hk, h⟩
        · obtain ⟨e1, e2, e3⟩ := hs.net y hy
          refine ⟨y.a.toNat, by omega, ?_⟩
          rw [e1]
          congr 1
          omega
      obtain ⟨q, hq, rfl⟩ := hx
      refine ⟨q, List.mem_filter.2 ⟨List.mem_range.2 hq, ?_⟩, rfl⟩
      have := (last_best hC hF hk hN hok hs hc hq).1.1 h2
      rw [hsym q hq] at this
      simpa using this
    · rintro ⟨q, hq, rfl⟩
      obtain ⟨h1, h2⟩ := List.mem_filter.1 hq
      have hq := List.mem_range.1 h1
      simp only [decide_eq_true_eq] at h2
      rw [← hsym q hq] at h2
      have hb := (last_best hC hF hk hN hok hs hc hq).1.2 h2
      refine ⟨?_, hb⟩
      by_cases hqk : q = k
      · subst hqk; exact .inl hN.mine
      · rw [bestD_other (hN.other hqk)] at hb
        exact .inr (heard_of hC hk hN hok hb)
  have hsort : NSorted ((reachL N f).map fun (q : Nat) => (⟨q, 32⟩ : Nt)) := by
    unfold NSorted
    rw [List.pairwise_map]
    refine List.Pairwise.imp (fun {a b} hab => ?_) (List.Pairwise.sublist List.filter_sublist List.pairwise_lt_range)
    unfold ntLt netLess
    simp only
    omega
  have hnx := nsx hR.srt hsort hmem
  refine ⟨by have := congrArg List.length hnx; simpa using this, fun r hr => ?_⟩
  have hb : bnet r ∈ R.map bnet := List.mem_map.2 ⟨r, hr, rfl⟩
  have h2 := ((hR.mem _).1 hb).2
  obtain ⟨q, hq, he⟩ := List.mem_map.1 ((hmem _).1 hb)
  have hqN := List.mem_range.1 (List.mem_filter.1 hq).1
  have ha : r.a = q := (congrArg Nt.a he).symm
  have hv := hR.val r hr
  rw [← he] at hv h2
  have hlb := last_best hC hF hk hN hok hs hc hqN
  have hm : r.m = _ := congrArg Prod.fst hv
  refine ⟨by omega, by omega, ?_⟩
  rw [hm, hlb.2 (hlb.1.1 h2), hsym q hqN, ha]
  rfl
/-- At first. -/
theorem start_compl (hC : CNet N C) (hF : ∀ q, q < N → IsFar N C q (F q)) (hk : k < N) : Compl N F D k 0 [] := fun q hq hqk hr h16 => by
  exfalso
  have hz := (hF q hq).zero
  obtain ⟨u, hu, huk, hst, -⟩ := far_pred hC (hF q hq) hk (fun e => hqk e.symm) (by omega)
  have hcp := hC.pos u k hu hk huk
  have := rank_lt (f := F q) hu (show nth (F q) u < nth (F q) k by omega)
  omega
end
end Go.Proofs.Ytgfbkebbnfcgkaa
end

section
namespace Go
/-- A table with one more entry. -/
def upd {α : Type} (f : Nat → α) (n : Nat) (x : α) : Nat → α := fun i => if i = n then x else f i
theorem upd_eq {α : Type} (f : Nat → α) (n : Nat) (x : α) : upd f n x n = x := if_pos rfl
theorem upd_ne {α : Type} (f : Nat → α) {n i : Nat} (x : α) (h : i ≠ n) : upd f n x i = f i := if_neg h
theorem upd_lt {α : Type} (f : Nat → α) {n i : Nat} (x : α) (h : i < n) : upd f n x i = f i := if_neg (by omega)
/-- So many cells. -/
def cellsF (n : Nat) (v : Nat → Value) : List Value := (List.range n).map v
theorem cellsF_len (n : Nat) (v : Nat → Value) : (cellsF n v).length = n := by simp [cellsF]
theorem cellsF_get {n i : Nat} (v : Nat → Value) (h : i < n) : (cellsF n v)[i]? = some (v i) := by simp [cellsF, h]
theorem cellsF_snoc {n : Nat} {v v' : Nat → Value} {x : Value} (h : ∀ i, i < n → v' i = v i) (hx : v' n = x) : cellsF (n + 1) v' = cellsF n v ++ [x] := by
  unfold cellsF
  rw [List.range_succ, List.map_append]
  congr 1
  · exact List.map_congr_left (fun i hi => h i (List.mem_range.1 hi))
  · simp [hx]
theorem cellsF_one (n : Nat) {v : Nat → Value} (h : ∀ i, (v i).oneCell' = true) : ∀ u ∈ cellsF n v, u.oneCell' = true := fun u hu => by
  obtain ⟨i, _, rfl⟩ := List.mem_map.1 hu
  exact h i
end Go
namespace Go.Proofs.Ytgfbkebbnfcgkaa
open Go.RowKit

/-- A slice's value. -/
abbrev slv (A : Nat → Option Addr) (n c : Nat → Nat) (i : Nat) : Value := .slice (A i) (n i) (c i)
/-- A router's address. -/
abbrev ptv (Ds : Nat → DC) (k : Nat) : Value := .pointer (some ⟨(Ds k).bd, 0, none⟩)
/-- A block that is no router's. -/
def Out (Ds : Nat → DC) (i g : Nat) : Prop := ∀ k, k < i → g < (Ds k).lo ∨ (Ds k).hi ≤ g
theorem Out.snoc {Ds : Nat → DC} {i g : Nat} {D : DC} (h : Out Ds i g) (hD : g < D.lo ∨ D.hi ≤ g) : Out (upd Ds i D) (i + 1) g := fun k hk => by
  by_cases e : k = i
  · subst e; rw [upd_eq]; exact hD
  · rw [upd_ne _ _ e]; exact h k (by omega)
/-- Routers made so far, each apart from the others. -/
structure Made (N : Nat) (C : Nat → Nat → Int) (s : Nat) (w : World) (i : Nat) (Ds : Nat → DC) : Prop where
  node : ∀ k, k < i → Node N C k (Ds k)
  dm : ∀ k, k < i → ∀ base, w.heap.size ≤ base → Dmn w base (Ds k) 0 [] 0
  lo : ∀ k, k < i → s ≤ (Ds k).lo
  hi : ∀ k, k < i → (Ds k).hi ≤ w.heap.size
  apart : ∀ u k, u < k → k < i → (Ds u).hi ≤ (Ds k).lo
section
variable {N : Nat} {C : Nat → Nat → Int} {s i : Nat} {w w' : World} {Ds : Nat → DC}
theorem Made.start (N : Nat) (C : Nat → Nat → Int) (s : Nat) (w : World) (Ds : Nat → DC) : Made N C s w 0 Ds :=
  ⟨fun _ h => absurd h (Nat.not_lt_zero _), fun _ h => absurd h (Nat.not_lt_zero _), fun _ h => absurd h (Nat.not_lt_zero _), fun _ h => absurd h (Nat.not_lt_zero _), fun _ _ _ h => absurd h (Nat.not_lt_zero _)⟩
theorem Made.fr (h : Made N C s w i Ds) {S : Nat → Prop} (f : Fr S w w') (hs : ∀ g, S g → g < w.heap.size ∧ Out Ds i g) : Made N C s w' i Ds :=
  ⟨h.node, fun k hk base hb => (h.dm k hk base (Nat.le_trans f.size hb)).fr f (fun g hg => ⟨by have := (hs g hg).1; have := f.size; omega, (hs g hg).2 k hk⟩), h.lo, fun k hk => Nat.le_trans (h.hi k hk) f.size, h.apart⟩
theorem Made.fr0 (h : Made N C s w i Ds) (f : Fr (fun _ => False) w w') : Made N C s w' i Ds := h.fr f (fun _ h => h.elim)
/-- One more. -/
theorem Made.push (h : Made N C s w i Ds) (hsw : s ≤ w.heap.size) {D : DC} (f : Fr (fun _ => False) w w') (hN : Node N C i D) (hlo : w.heap.size ≤ D.lo) (hhi : D.hi = w'.heap.size) (hD : ∀ base, w'.heap.size ≤ base → Dmn w' base D 0 [] 0) : Made N C s w' (i + 1) (upd Ds i D) := by
  have h0 := h.fr0 f
  refine ⟨fun k hk => ?_, fun k hk => ?_, fun k hk => ?_, fun k hk => ?_, fun u k huk hk => ?_⟩
  · by_cases e : k = i
    · subst e; rw [upd_eq]; exact hN
    · rw [upd_ne _ _ e]; exact h0.node k (by omega)
  · by_cases e : k = i
    · subst e; rw [upd_eq]; exact hD
    · rw [upd_ne _ _ e]; exact h0.dm k (by omega)
  · by_cases e : k = i
    · subst e; rw [upd_eq]; omega
    · rw [upd_ne _ _ e]; exact h0.lo k (by omega)
  · by_cases e : k = i
    · subst e; rw [upd_eq]; omega
    · rw [upd_ne _ _ e]; exact h0.hi k (by omega)
  · rw [upd_ne _ _ (by omega : u ≠ i)]
    by_cases e : k = i
    · subst e; rw [upd_eq]; have := h.hi u huk; omega
    · rw [upd_ne _ _ e]; exact h0.apart u k huk (by omega)
end
/-- What the rounds only read: the routers' list, the rows of neighbours. -/
structure Read (N : Nat) (C : Nat → Nat → Int) (w : World) (Ds : Nat → DC) (ad an : Option Addr) (A : Nat → Option Addr) (cA : Nat → Nat) : Prop where
  dss : Rd w.heap ad N 1 (cellsF N (ptv Ds))
  nears : Rd w.heap an N 1 (cellsF N (slv A (fun u => (nearL N C u).length) cA))
  row : ∀ u, u < N → Rd w.heap (A u) (nearL N C u).length 1 (ivals .i64 ((nearL N C u).map Int.ofNat))
  bd : ∀ b off, ad = some ⟨b, off, none⟩ → ∀ k, k < N → b ≠ (Ds k).bd ∧ b ≠ (Ds k).br
  bn : ∀ b off, an = some ⟨b, off, none⟩ → ∀ k, k < N → b ≠ (Ds k).bd ∧ b ≠ (Ds k).br
  br : ∀ u, u < N → ∀ b off, A u = some ⟨b, off, none⟩ → ∀ k, k < N → b ≠ (Ds k).bd ∧ b ≠ (Ds k).br
theorem Read.fr {N : Nat} {C : Nat → Nat → Int} {w w' : World} {Ds : Nat → DC} {ad an : Option Addr} {A : Nat → Option Addr} {cA : Nat → Nat} (h : Read N C w Ds ad an A cA) {k : Nat} (hk : k < N) (f : Fr (fun b => b = (Ds k).bd ∨ b = (Ds k).br) w w') : Read N C w' Ds ad an A cA :=
  ⟨h.dss.fr f (fun b off e hh => by have := h.bd b off e k hk; omega), h.nears.fr f (fun b off e hh => by have := h.bn b off e k hk; omega), fun u hu => (h.row u hu).fr f (fun b off e hh => by have := h.br u hu b off e k hk; omega), h.bd, h.bn, h.br⟩
theorem Read.fr0 {N : Nat} {C : Nat → Nat → Int} {w w' : World} {Ds : Nat → DC} {ad an : Option Addr} {A : Nat → Option Addr} {cA : Nat → Nat} (h : Read N C w Ds ad an A cA) (f : Fr (fun _ => False) w w') : Read N C w' Ds ad an A cA :=
  ⟨h.dss.fr f (fun _ _ _ h => h), h.nears.fr f (fun _ _ _ h => h), fun u hu => (h.row u hu).fr f (fun _ _ _ h => h), h.bd, h.bn, h.br⟩
/-- All routers, at work. -/
structure Rts (N : Nat) (C : Nat → Nat → Int) (B : Nat) (w : World) (Ds : Nat → DC) (nows : Nat → Int) (L : Nat → List Td) : Prop where
  node : ∀ k, k < N → Node N C k (Ds k)
  dm : ∀ k, k < N → Dmn w B (Ds k) (nows k) (L k) 0
  apart : ∀ u k, u < k → k < N → (Ds u).hi ≤ (Ds k).lo
  size : B ≤ w.heap.size
namespace Rts
variable {N : Nat} {C : Nat → Nat → Int} {B : Nat} {w w' : World} {Ds : Nat → DC} {nows : Nat → Int} {L : Nat → List Td}
theorem fr0 (h : Rts N C B w Ds nows L) (f : Fr (fun _ => False) w w') : Rts N C B w' Ds nows L := ⟨h.node, fun k hk => (h.dm k hk).fr0 f, h.apart, Nat.le_trans h.size f.size⟩
/-- One has turned. -/
theorem put (h : Rts N C B w Ds nows L) {k : Nat} (hk : k < N) {now : Int} {l : List Td} (hD : Dmn w' B (Ds k) now l 0) (f : Fr (fun b => b = (Ds k).bd ∨ b = (Ds k).br) w w') : Rts N C B w' Ds (upd nows k now) (upd L k l) :=
  ⟨h.node, fun u hu => by
    by_cases e : u = k
    · subst e; rw [upd_eq, upd_eq]; exact hD
    · rw [upd_ne _ _ e, upd_ne _ _ e]
      have hb := hD.lbd
      have hr := hD.lbr
      have hi := hD.hib
      refine (h.dm u hu).fr f (fun b hbb => ⟨by omega, ?_⟩)
      rcases Nat.lt_or_ge u k with q | q
      · have := h.apart u k q hk; omega
      · have := h.apart k u (by omega) hu; omega, h.apart, Nat.le_trans h.size f.size⟩
end Rts
/-- Made, and then at work. -/
theorem Made.rts {N : Nat} {C : Nat → Nat → Int} {s : Nat} {w : World} {Ds : Nat → DC} (h : Made N C s w N Ds) : Rts N C w.heap.size w Ds (fun _ => 0) (fun _ => []) :=
  ⟨h.node, fun k hk => h.dm k hk _ (Nat.le_refl _), h.apart, Nat.le_refl _⟩
end Go.Proofs.Ytgfbkebbnfcgkaa
end

section
namespace Go.Proofs.Ytgfbkebbnfcgkaa
open Go.RowKit

/-- What a router tells its neighbour. -/
def msgB (R : Nat → List BestR) (u j : Nat) : List Int := encD false (tellL j (R u))
theorem tellL_le (tq : Int) (R : List BestR) : (tellL tq R).length ≤ 25 := by unfold tellL; rw [List.length_take]; omega
theorem msgB_len (R : Nat → List BestR) (u j : Nat) : (msgB R u j).length ≤ 504 := by
  unfold msgB
  rw [encD_len]
  have := tellL_le (j : Int) (R u)
  omega
/-- What one router tells its neighbours, so far. -/
structure ToI (B : Nat) (H : Array Obj) (R : Nat → List BestR) (u j : Nat) (aT : Option Addr) (cT : Nat) (ob : Option Nat) (A3 : Nat → Option Addr) (c3 : Nat → Nat) : Prop where
  own : Ownd H 44 1 aT j cT (cellsF j (slv A3 (fun x => (msgB R u x).length) c3)) ob
  new : ∀ g, ob = some g → B ≤ g
  byt : ∀ x, x < j → ∃ o, Ownd H 5 1 (A3 x) (msgB R u x).length (c3 x) (ivals .u8 (msgB R u x)) o ∧ ∀ g, o = some g → B ≤ g ∧ ob ≠ some g
theorem ToI.start (B : Nat) (H : Array Obj) (R : Nat → List BestR) (u : Nat) (A3 : Nat → Option Addr) (c3 : Nat → Nat) : ToI B H R u 0 none 0 none A3 c3 :=
  ⟨Ownd.nil _ _ _, (fun _ h => nomatch h), fun _ h => absurd h (Nat.not_lt_zero _)⟩
theorem ToI.fr0 {B : Nat} {w w' : World} {R : Nat → List BestR} {u j : Nat} {aT : Option Addr} {cT : Nat} {ob : Option Nat} {A3 : Nat → Option Addr} {c3 : Nat → Nat} (h : ToI B w.heap R u j aT cT ob A3 c3) (f : Fr (fun _ => False) w w') : ToI B w'.heap R u j aT cT ob A3 c3 :=
  ⟨h.own.fr f (fun _ _ h => h), h.new, fun x hx => by obtain ⟨o, h1, h2⟩ := h.byt x hx; exact ⟨o, h1.fr f (fun _ _ h => h), h2⟩⟩
/-- One message more: it lies in new memory (o5), and then the list takes it. -/
theorem ToI.push {B : Nat} {w w' : World} {R : Nat → List BestR} {u j : Nat} {aT aT' a5 : Option Addr} {cT cT' c5 : Nat} {ob ob' o5 : Option Nat} {A3 : Nat → Option Addr} {c3 : Nat → Nat} (h : ToI B w.heap R u j aT cT ob A3 c3) (hB : B ≤ w.heap.size)
    (h5 : Ownd w'.heap 5 1 a5 (msgB R u j).length c5 (ivals .u8 (msgB R u j)) o5) (hn : ∀ g, o5 = some g → w.heap.size ≤ g ∧ ob' ≠ some g) (hO : Ownd w'.heap 44 1 aT' (j + 1) cT' (cellsF j (slv A3 (fun x => (msgB R u x).length) c3) ++ [.slice a5 (msgB R u j).length c5]) ob')
    (f : Fr (fun k => ob = some k) w w') (hob : ob' = ob ∨ ∃ g, ob' = some g ∧ w.heap.size ≤ g) : ToI B w'.heap R u (j + 1) aT' cT' ob' (upd A3 j a5) (upd c3 j c5) := by
  refine ⟨?_, fun g hg => ?_, fun x hx => ?_⟩
  · have e : cellsF (j + 1) (slv (upd A3 j a5) (fun x => (msgB R u x).length) (upd c3 j c5)) = cellsF j (slv A3 (fun x => (msgB R u x).length) c3) ++ [.slice a5 (msgB R u j).length c5] :=
      cellsF_snoc (fun x hx => by unfold slv; rw [upd_lt _ _ hx, upd_lt _ _ hx]) (by unfold slv; rw [upd_eq, upd_eq])
    rw [e]; exact hO
  · rcases hob with e | ⟨g', e, e2⟩
    · rw [e] at hg; exact h.new g hg
    · rw [e] at hg; cases hg; omega
  · by_cases hxj : x = j
    · subst hxj
      rw [upd_eq, upd_eq]
      exact ⟨o5, h5, fun g hg => ⟨by have := (hn g hg).1; omega, (hn g hg).2⟩⟩
    · rw [upd_ne _ _ hxj, upd_ne _ _ hxj]
      obtain ⟨o, h1, h2⟩ := h.byt x (by omega)
      refine ⟨o, h1.fr f (fun g hg e => (h2 g hg).2 e), fun g hg => ⟨(h2 g hg).1, ?_⟩⟩
      rcases hob with e | ⟨g', e, e2⟩
      · rw [e]; exact (h2 g hg).2
      · rw [e]; intro e3; cases e3; have := h1.lt g hg; omega
/-- What all that came so far told. -/
structure Said (N : Nat) (C : Nat → Nat → Int) (B : Nat) (H : Array Obj) (R : Nat → List BestR) (i : Nat) (obS : Option Nat) (A2 : Nat → Option Addr) (c2 : Nat → Nat) (A3 : Nat → Nat → Option Addr) (c3 : Nat → Nat → Nat) : Prop where
  row : ∀ u, u < i → ∃ o, Ownd H 44 1 (A2 u) (nearL N C u).length (c2 u) (cellsF (nearL N C u).length (slv (A3 u) (fun x => (msgB R u x).length) (c3 u))) o ∧ ∀ g, o = some g → B ≤ g ∧ obS ≠ some g
  byt : ∀ u, u < i → ∀ x, x < (nearL N C u).length → ∃ o, Ownd H 5 1 (A3 u x) (msgB R u x).length (c3 u x) (ivals .u8 (msgB R u x)) o ∧ ∀ g, o = some g → B ≤ g ∧ obS ≠ some g
theorem Said.start (N : Nat) (C : Nat → Nat → Int) (B : Nat) (H : Array Obj) (R : Nat → List BestR) (obS : Option Nat) (A2 : Nat → Option Addr) (c2 : Nat → Nat) (A3 : Nat → Nat → Option Addr) (c3 : Nat → Nat → Nat) : Said N C B H R 0 obS A2 c2 A3 c3 :=
  ⟨fun _ h => absurd h (Nat.not_lt_zero _), fun _ h => absurd h (Nat.not_lt_zero _)⟩
section
variable {N : Nat} {C : Nat → Nat → Int} {B : Nat} {w w' : World} {R : Nat → List BestR} {i : Nat} {obS : Option Nat} {A2 : Nat → Option Addr} {c2 : Nat → Nat} {A3 : Nat → Nat → Option Addr} {c3 : Nat → Nat → Nat}
theorem Said.fr {S : Nat → Prop} (h : Said N C B w.heap R i obS A2 c2 A3 c3) (f : Fr S w w') (hs : ∀ b, S b → b < B) : Said N C B w'.heap R i obS A2 c2 A3 c3 :=
  ⟨fun u hu => by obtain ⟨o, h1, h2⟩ := h.row u hu; exact ⟨o, h1.fr f (fun g hg e => by have := (h2 g hg).1; have := hs g e; omega), h2⟩, fun u hu x hx => by obtain ⟨o, h1, h2⟩ := h.byt u hu x hx; exact ⟨o, h1.fr f (fun g hg e => by have := (h2 g hg).1; have := hs g e; omega), h2⟩⟩
theorem Said.fr0 (h : Said N C B w.heap R i obS A2 c2 A3 c3) (f : Fr (fun _ => False) w w') : Said N C B w'.heap R i obS A2 c2 A3 c3 := h.fr f (fun _ h => h.elim)
/-- Another one's ways are told: what stands is the same. -/
theorem Said.other {R' : Nat → List BestR} (h : Said N C B w.heap R i obS A2 c2 A3 c3) (hR : ∀ u, u < i → R' u = R u) : Said N C B w.heap R' i obS A2 c2 A3 c3 := by
  have e : ∀ u, u < i → ∀ x, msgB R' u x = msgB R u x := fun u hu x => by unfold msgB; rw [hR u hu]
  refine ⟨fun u hu => ?_, fun u hu x hx => ?_⟩
  · obtain ⟨o, h1, h2⟩ := h.row u hu
    refine ⟨o, ?_, h2⟩
    have e2 : (fun x => (msgB R' u x).length) = fun x => (msgB R u x).length := by funext x; rw [e u hu x]
    rw [e2]; exact h1
  · obtain ⟨o, h1, h2⟩ := h.byt u hu x hx
    rw [e u hu x]; exact ⟨o, h1, h2⟩
/-- One more has told all its neighbours. -/
theorem Said.push (h : Said N C B w.heap R i obS A2 c2 A3 c3) {Bt : Nat} {aT : Option Addr} {cT : Nat} {obT obS' : Option Nat} {a3 : Nat → Option Addr} {k3 : Nat → Nat} (hT : ToI Bt w.heap R i (nearL N C i).length aT cT obT a3 k3) (hB : B ≤ Bt) (hS : ∀ g, obS = some g → g < Bt)
    (f : Fr (fun k => obS = some k) w w') (hob : obS' = obS ∨ ∃ g, obS' = some g ∧ w.heap.size ≤ g) : Said N C B w'.heap R (i + 1) obS' (upd A2 i aT) (upd c2 i cT) (upd A3 i a3) (upd c3 i k3) := by
  have key : ∀ {E : TypeId} {a : Option Addr} {n c : Nat} {xs : List Value} {o : Option Nat}, Ownd w.heap E 1 a n c xs o → (∀ g, o = some g → obS ≠ some g) → Ownd w'.heap E 1 a n c xs o ∧ ∀ g, o = some g → obS' ≠ some g := fun h1 h2 => ⟨h1.fr f (fun g hg e => h2 g hg e), fun g hg => by
    rcases hob with e | ⟨g', e, e2⟩
    · rw [e]; exact h2 g hg
    · rw [e]; intro e3; cases e3; have := h1.lt g hg; omega⟩
  refine ⟨fun u hu => ?_, fun u hu x hx => ?_⟩
  · by_cases e : u = i
    · subst e
      rw [upd_eq, upd_eq, upd_eq, upd_eq]
      obtain ⟨k1, k2⟩ := key hT.own (fun g hg e => by have := hT.new g hg; have := hS g e; omega)
      exact ⟨obT, k1, fun g hg => ⟨by have := hT.new g hg; omega, k2 g hg⟩⟩
    · rw [upd_ne _ _ e, upd_ne _ _ e, upd_ne _ _ e, upd_ne _ _ e]
      obtain ⟨o, h1, h2⟩ := h.row u (by omega)
      obtain ⟨k1, k2⟩ := key h1 (fun g hg => (h2 g hg).2)
      exact ⟨o, k1, fun g hg => ⟨(h2 g hg).1, k2 g hg⟩⟩
  · by_cases e : u = i
    · subst e
      rw [upd_eq, upd_eq]
      obtain ⟨o, h1, h2⟩ := hT.byt x hx
      obtain ⟨k1, k2⟩ := key h1 (fun g hg e => by have := (h2 g hg).1; have := hS g e; omega)
      exact ⟨o, k1, fun g hg => ⟨by have := (h2 g hg).1; omega, k2 g hg⟩⟩
    · rw [upd_ne _ _ e, upd_ne _ _ e]
      obtain ⟨o, h1, h2⟩ := h.byt u (by omega) x hx
      obtain ⟨k1, k2⟩ := key h1 (fun g hg => (h2 g hg).2)
      exact ⟨o, k1, fun g hg => ⟨(h2 g hg).1, k2 g hg⟩⟩
end
end Go.Proofs.Ytgfbkebbnfcgkaa
end
