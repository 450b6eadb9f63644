import Derived.Test.YtakkljdeencfbaaDoorCTab
namespace Go.Proofs.YtakkljdeencfbaaDoor
open Go.RowKit

/-- A place on the heap: how far, which node. -/
structure Pl where
  f : Int
  v : Int
deriving Inhabited, DecidableEq
abbrev Pl.cells (x : Pl) : List Value := [.int .i64 x.f, .int .i64 x.v]
theorem Pl.cells_len (x : Pl) : (Pl.cells x).length = 2 := rfl

/-- One can come from s to v by this much. -/
inductive Come (n : Nat) (C : Nat → Nat → Int) (s : Nat) : Nat → Int → Prop
  | here : Come n C s s 0
  | step {u k : Nat} {d : Int} : Come n C s u d → u < n → k < n → Come n C s k (d + C u k)

/-- How far all are. -/
structure IsFar (n : Nat) (C : Nat → Nat → Int) (s : Nat) (far : List Int) : Prop where
  len : far.length = n
  zero : nth far s = 0
  bd : ∀ v, v < n → 0 ≤ nth far v ∧ nth far v ≤ 16
  tri : ∀ u k, u < n → k < n → nth far k ≤ nth far u + C u k
  way : ∀ v, v < n → nth far v < 16 → Come n C s v (nth far v)

theorem Come.lt {n : Nat} {C : Nat → Nat → Int} {s v : Nat} {d : Int} (h : Come n C s v d) (hs : s < n) : v < n := by
  cases h with
  | here => exact hs
  | step _ _ hk => exact hk
theorem Come.le {n : Nat} {C : Nat → Nat → Int} {s v : Nat} {d : Int} {far : List Int} (h : Come n C s v d) (h0 : nth far s = 0) (ht : ∀ u k, u < n → k < n → nth far k ≤ nth far u + C u k) : nth far v ≤ d := by
  induction h with
  | here => omega
  | step _ hu hk ih => have := ht _ _ hu hk; omega
theorem Come.mono {n : Nat} {C D : Nat → Nat → Int} {s v : Nat} {d : Int} (h : Come n C s v d) (hD : ∀ u k, u < n → k < n → D u k ≤ C u k) {far : List Int} (h0 : nth far s = 0) (ht : ∀ u k, u < n → k < n → nth far k ≤ nth far u + D u k) : nth far v ≤ d :=
  h.le h0 (fun u k hu hk => Int.le_trans (ht u k hu hk) (by have := hD u k hu hk; omega))
/-- With less to pay nothing is farther. -/
theorem IsFar.le {n : Nat} {C D : Nat → Nat → Int} {s : Nat} {far far' : List Int} (h : IsFar n C s far) (h' : IsFar n D s far') (hD : ∀ u k, u < n → k < n → D u k ≤ C u k) {v : Nat} (hv : v < n) : nth far' v ≤ nth far v := by
  by_cases h16 : nth far v < 16
  · exact (h.way v hv h16).mono hD h'.zero h'.tri
  · have := (h'.bd v hv).2; omega
theorem IsFar.eq {n : Nat} {C : Nat → Nat → Int} {s : Nat} {far far' : List Int} (h : IsFar n C s far) (h' : IsFar n C s far') : far = far' := by
  refine ext_nth (by rw [h.len, h'.len]) (fun v hv => ?_)
  rw [h.len] at hv
  have h1 := h.le h' (fun _ _ _ _ => Int.le_refl _) hv
  have h2 := h'.le h (fun _ _ _ _ => Int.le_refl _) hv
  omega

/-- On the way: the nodes' distances, the heap (in whatever order); 'who' but those is told: 'ex' of the k first from node u is what is told. -/
structure Going (n : Nat) (C : Nat → Nat → Int) (s : Nat) (far : List Int) (hp : List Pl) (ex : Nat → Nat → Prop) : Prop where
  len : far.length = n
  zero : nth far s = 0
  bd : ∀ v, v < n → 0 ≤ nth far v ∧ nth far v ≤ 16
  way : ∀ v, v < n → nth far v < 16 → Come n C s v (nth far v)
  pl : ∀ p ∈ hp, 0 ≤ p.v ∧ p.v < n ∧ 0 ≤ p.f ∧ p.f ≤ 16 ∧ nth far p.v.toNat ≤ p.f
  done : ∀ u, u < n → nth far u < 16 → (∃ p ∈ hp, p.v = u ∧ p.f = nth far u) ∨ ∀ k, k < n → ex u k ∨ nth far k ≤ nth far u + C u k
def farW (far : List Int) : Nat := (far.map Int.toNat).sum

theorem sum_set' : ∀ (l : List Nat) (i x : Nat) (h : i < l.length), (l.set i x).sum + l[i] = l.sum + x
  | [], _, _, h => by simp at h
  | a :: l, 0, x, _ => by simp; omega
  | a :: l, i + 1, x, h => by
    have := sum_set' l i x (by simpa using h)
    simp only [List.set_cons_succ, List.sum_cons, List.getElem_cons_succ]; omega
theorem farW_set {far : List Int} {k : Nat} {d : Int} (hk : k < far.length) (h0 : 0 ≤ d) (hd : d < nth far k) : farW (far.set k d) < farW far := by
  have h1 := sum_set' (far.map Int.toNat) k d.toNat (by simpa using hk)
  have e : (far.set k d).map Int.toNat = (far.map Int.toNat).set k d.toNat := by simp [List.map_set]
  have h2 : (far.map Int.toNat)[k]'(by simpa using hk) = (nth far k).toNat := by simp [nth_eq far k hk]
  unfold farW
  rw [e]
  rw [h2] at h1
  omega
theorem farW_le {n : Nat} {far : List Int} (hl : far.length = n) (hb : ∀ v, v < n → nth far v ≤ 16) : farW far ≤ 16 * n := by
  have key : ∀ (l : List Int), (∀ x ∈ l, x ≤ 16) → (l.map Int.toNat).sum ≤ 16 * l.length := by
    intro l
    induction l with
    | nil => simp
    | cons a l ih =>
      intro h
      have h1 := ih (fun x hx => h x (by simp [hx]))
      have h2 := h a (by simp)
      simp only [List.map_cons, List.sum_cons, List.length_cons]
      omega
  rw [← hl]
  refine key far (fun x hx => ?_)
  obtain ⟨i, hi, rfl⟩ := List.getElem_of_mem hx
  rw [← nth_eq far i hi]
  exact hb i (by omega)

theorem Going.perm {n : Nat} {C : Nat → Nat → Int} {s : Nat} {far : List Int} {hp hp' : List Pl} {ex : Nat → Nat → Prop} (h : Going n C s far hp ex) (hP : hp'.Perm hp) : Going n C s far hp' ex :=
  ⟨h.len, h.zero, h.bd, h.way, fun p hp => h.pl p (hP.mem_iff.1 hp), fun u hu hl => (h.done u hu hl).imp (fun ⟨p, hp, r⟩ => ⟨p, hP.mem_iff.2 hp, r⟩) id⟩
/-- At first. -/
theorem Going.start {n s : Nat} (C : Nat → Nat → Int) (hs : s < n) : Going n C s ((List.replicate n (16 : Int)).set s 0) [⟨0, s⟩] (fun _ _ => False) := by
  have hn : ∀ v, v < n → nth ((List.replicate n (16 : Int)).set s 0) v = if v = s then 0 else 16 := fun v hv => by
    rw [nth_set _ _ _ _ (by simpa using hs)]
    split
    · rfl
    · exact nth_replicate _ _ _ hv
  refine ⟨by simp, ?_, fun v hv => ?_, fun v hv h => ?_, fun p hp => ?_, fun u hu h => ?_⟩
  · rw [hn s hs, if_pos rfl]
  · rw [hn v hv]; split <;> omega
  · rw [hn v hv] at h ⊢
    split at h
    · rename_i e; subst e; rw [if_pos rfl]; exact .here
    · omega
  · rw [List.mem_singleton.1 hp]
    refine ⟨by simp, by simp; omega, by simp, by simp, ?_⟩
    show nth _ ((s : Int).toNat) ≤ 0
    rw [Int.toNat_natCast, hn s hs, if_pos rfl]
    omega
  · rw [hn u hu] at h ⊢
    split at h
    · rename_i e; subst e; exact .inl ⟨_, List.mem_singleton.2 rfl, rfl, by simp⟩
    · omega
/-- One is taken that is no more right. -/
theorem Going.stale {n : Nat} {C : Nat → Nat → Int} {s : Nat} {far : List Int} {x : Pl} {hp : List Pl} {ex : Nat → Nat → Prop} (h : Going n C s far (x :: hp) ex) (hx : nth far x.v.toNat < x.f) : Going n C s far hp ex :=
  ⟨h.len, h.zero, h.bd, h.way, fun p hp => h.pl p (List.mem_cons_of_mem _ hp), fun u hu hl => by
    rcases h.done u hu hl with ⟨p, hp, r1, r2⟩ | r
    · rcases List.mem_cons.1 hp with rfl | hp
      · exfalso; rw [r1, r2] at hx; simp at hx
      · exact .inl ⟨p, hp, r1, r2⟩
    · exact .inr r⟩
/-- One is taken that is right: none of its next ones is told yet. -/
theorem Going.take {n : Nat} {C : Nat → Nat → Int} {s : Nat} {far : List Int} {x : Pl} {hp : List Pl} (h : Going n C s far (x :: hp) (fun _ _ => False)) : Going n C s far hp (fun u k => u = x.v.toNat ∧ 0 ≤ k) :=
  ⟨h.len, h.zero, h.bd, h.way, fun p hp => h.pl p (List.mem_cons_of_mem _ hp), fun u hu hl => by
    rcases h.done u hu hl with ⟨p, hp, r1, r2⟩ | r
    · rcases List.mem_cons.1 hp with rfl | hp
      · exact .inr (fun k _ => .inl ⟨by rw [r1]; simp, by omega⟩)
      · exact .inl ⟨p, hp, r1, r2⟩
    · exact .inr (fun k hk => .inr ((r k hk).resolve_left (fun f => f)))⟩
/-- A next one is no nearer by it. -/
theorem Going.skip {n : Nat} {C : Nat → Nat → Int} {s : Nat} {far : List Int} {hp : List Pl} {v k : Nat} (h : Going n C s far hp (fun u j => u = v ∧ k ≤ j)) (hk : nth far k ≤ nth far v + C v k) : Going n C s far hp (fun u j => u = v ∧ k + 1 ≤ j) :=
  ⟨h.len, h.zero, h.bd, h.way, h.pl, fun u hu hl => by
    rcases h.done u hu hl with r | r
    · exact .inl r
    · refine .inr (fun j hj => ?_)
      rcases r j hj with ⟨r1, r2⟩ | r
      · by_cases e : j = k
        · subst e; subst r1; exact .inr hk
        · exact .inl ⟨r1, by omega⟩
      · exact .inr r⟩
/-- A next one is nearer by it. -/
theorem Going.tell {n : Nat} {C : Nat → Nat → Int} {s : Nat} {far : List Int} {hp hp' : List Pl} {v k : Nat} {d : Int} (h : Going n C s far hp (fun u j => u = v ∧ k ≤ j)) (hv : v < n) (hk : k < n) (hs : s < n) (hC : 0 ≤ C v k) (hC0 : C v v = 0) (hd : d = nth far v + C v k) (hlt : d < nth far k) (hP : hp'.Perm (⟨d, k⟩ :: hp)) :
    Going n C s (far.set k d) hp' (fun u j => u = v ∧ k + 1 ≤ j) ∧ nth (far.set k d) v = nth far v := by
  have h0 := h.bd v hv
  have hkb := h.bd k hk
  have hkv : v ≠ k := fun e => by subst e; omega
  have hks : k ≠ s := fun e => by subst e; have := h.zero; omega
  have hn : ∀ j, nth (far.set k d) j = if j = k then d else nth far j := fun j => nth_set _ _ _ _ (by rw [h.len]; exact hk)
  have hle : ∀ j, nth (far.set k d) j ≤ nth far j := fun j => by rw [hn]; split <;> (try subst_vars) <;> omega
  refine ⟨⟨by simp [h.len], by rw [hn, if_neg (fun e => hks e.symm)]; exact h.zero, fun j hj => ?_, fun j hj hl => ?_, fun p hp => ?_, fun u hu hl => ?_⟩, by rw [hn, if_neg hkv]⟩
  · rw [hn]
    split
    · omega
    · exact h.bd j hj
  · rw [hn] at hl ⊢
    split at hl
    · rename_i e
      subst e
      rw [if_pos rfl, hd]
      exact .step (h.way v hv (by omega)) hv hk
    · rename_i e
      rw [if_neg e]
      exact h.way j hj hl
  · rcases List.mem_cons.1 (hP.mem_iff.1 hp) with rfl | hp
    · refine ⟨by simp, by simp; omega, by simp only []; omega, by simp only []; omega, ?_⟩
      show nth _ ((k : Int).toNat) ≤ d
      rw [Int.toNat_natCast, hn, if_pos rfl]
      omega
    · obtain ⟨r1, r2, r3, r4, r5⟩ := h.pl p hp
      exact ⟨r1, r2, r3, r4, Int.le_trans (hle _) r5⟩
  · by_cases e : u = k
    · subst e
      exact .inl ⟨⟨d, u⟩, hP.mem_iff.2 List.mem_cons_self, rfl, by rw [hn, if_pos rfl]⟩
    · rw [hn, if_neg e] at hl ⊢
      rcases h.done u hu hl with ⟨p, hp, r1, r2⟩ | r
      · exact .inl ⟨p, hP.mem_iff.2 (List.mem_cons_of_mem _ hp), r1, r2⟩
      · refine .inr (fun j hj => ?_)
        rcases r j hj with ⟨r1, r2⟩ | r
        · by_cases e2 : j = k
          · subst e2; subst r1; right; rw [hn, if_pos rfl]; omega
          · exact .inl ⟨r1, by omega⟩
        · exact .inr (Int.le_trans (hle j) r)
theorem Going.told {n : Nat} {C : Nat → Nat → Int} {s : Nat} {far : List Int} {hp : List Pl} {v : Nat} (h : Going n C s far hp (fun u j => u = v ∧ n ≤ j)) : Going n C s far hp (fun _ _ => False) :=
  ⟨h.len, h.zero, h.bd, h.way, h.pl, fun u hu hl => (h.done u hu hl).imp id (fun r k hk => .inr ((r k hk).resolve_left (fun f => by omega)))⟩
/-- In the end. -/
theorem Going.isFar {n : Nat} {C : Nat → Nat → Int} {s : Nat} {far : List Int} (h : Going n C s far [] (fun _ _ => False)) (hC : ∀ u k, u < n → k < n → 0 ≤ C u k) : IsFar n C s far :=
  ⟨h.len, h.zero, h.bd, fun u k hu hk => by
    have h1 := h.bd u hu
    have h2 := h.bd k hk
    by_cases h16 : nth far u < 16
    · rcases h.done u hu h16 with ⟨p, hp, _⟩ | r
      · cases hp
      · exact (r k hk).resolve_left (fun f => f)
    · have := hC u k hu hk; omega, h.way⟩
end Go.Proofs.YtakkljdeencfbaaDoor
