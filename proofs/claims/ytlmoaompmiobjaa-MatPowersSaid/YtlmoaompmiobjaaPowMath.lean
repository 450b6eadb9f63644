import Derived.Test.YtlmoaompmiobjaaStar
namespace Go.Proofs.Ytlmoaompmiobjaa
open Go.RowKit

/-! The plain law of MatPowers: Floyd and Warshall's table is the n-th power. -/

theorem step_at {n : Nat} {rs : List (List Int)} (h : Tab n rs) (j i k : Nat) (hi : i < n) (hk : k < n) (x y : Nat) : at2 (stepL j i k rs) x y = if x = i ∧ y = k then imin (at2 rs i k) (at2 rs i j + at2 rs j k) else at2 rs x y := by
  have hl : i < rs.length := by rw [h.len]; exact hi
  unfold at2 stepL
  rw [nth_set rs i x _ hl]
  by_cases hx : x = i
  · subst hx
    rw [if_pos rfl, nth_set _ _ _ _ (by rw [h.rows x hi]; exact hk)]
    by_cases hy : y = k
    · rw [if_pos hy, if_pos ⟨rfl, hy⟩]
    · rw [if_neg hy, if_neg (fun hc => hy hc.2)]
  · rw [if_neg hx, if_neg (fun hc => hx hc.1)]

theorem imin_self_add (x : Int) : imin x (x + 0) = x := by unfold imin; split <;> omega
theorem imin_self_add' (x : Int) : imin x (0 + x) = x := by unfold imin; split <;> omega

/-- Within a phase. -/
theorem starK_at {n : Nat} {F : Nat → Nat → Int} {rs : List (List Int)} (h : Tab n rs) (j i : Nat) (hj : j < n) (hi : i < n) (hz : F j j = 0)
    (h0 : ∀ x y, x < n → y < n → at2 rs x y = if x < i then imin (F x y) (F x j + F j y) else F x y) : ∀ k, k ≤ n → ∀ x y, x < n → y < n →
    at2 (starK j i k rs) x y = if x < i ∨ (x = i ∧ y < k) then imin (F x y) (F x j + F j y) else F x y := by
  intro k
  induction k with
  | zero => intro _ x y hx hy; rw [show starK j i 0 rs = rs from rfl, h0 x y hx hy]; simp
  | succ k ih =>
    intro hk x y hx hy
    have ih' := ih (by omega)
    show at2 (stepL j i k (starK j i k rs)) x y = _
    rw [step_at (starK_tab h j i hj hi k (by omega)) j i k hi (by omega)]
    have e1 : at2 (starK j i k rs) i k = F i k := by rw [ih' i k hi (by omega), if_neg (by omega)]
    have e2 : at2 (starK j i k rs) i j = F i j := by
      rw [ih' i j hi hj]; split
      · rw [hz, imin_self_add]
      · rfl
    have e3 : at2 (starK j i k rs) j k = F j k := by
      rw [ih' j k hj (by omega)]; split
      · rw [hz, imin_self_add']
      · rfl
    by_cases hc : x = i ∧ y = k
    · rw [if_pos hc, e1, e2, e3, if_pos (by omega), hc.1, hc.2]
    · rw [if_neg hc, ih' x y hx hy]
      by_cases hd : x < i ∨ (x = i ∧ y < k)
      · rw [if_pos hd, if_pos (by omega)]
      · rw [if_neg hd, if_neg (by omega)]
theorem starI_at {n : Nat} {F : Nat → Nat → Int} {rs : List (List Int)} (h : Tab n rs) (j : Nat) (hj : j < n) (hz : F j j = 0) (h0 : ∀ x y, x < n → y < n → at2 rs x y = F x y) : ∀ i, i ≤ n → ∀ x y, x < n → y < n →
    at2 (starI n j i rs) x y = if x < i then imin (F x y) (F x j + F j y) else F x y := by
  intro i
  induction i with
  | zero => intro _ x y hx hy; rw [show starI n j 0 rs = rs from rfl, h0 x y hx hy]; simp
  | succ i ih =>
    intro hi x y hx hy
    show at2 (starK j i n (starI n j i rs)) x y = _
    rw [starK_at (F := F) (starI_tab h j hj i (by omega)) j i hj (by omega) hz (ih (by omega)) n (Nat.le_refl _) x y hx hy]
    by_cases hc : x < i + 1
    · rw [if_pos (by omega), if_pos hc]
    · rw [if_neg (by omega), if_neg hc]

/-- The tables of the phases. -/
def fw (D : Nat → Nat → Int) : Nat → Nat → Nat → Int
  | 0 => D
  | m + 1 => fun x y => imin (fw D m x y) (fw D m x m + fw D m m y)
theorem imin_cases (x y : Int) : imin x y = x ∨ imin x y = y := by unfold imin; split <;> simp

structure Dist0 (n : Nat) (D : Nat → Nat → Int) : Prop where
  z : ∀ i, i < n → D i i = 0
  p : ∀ i k, i < n → k < n → 0 ≤ D i k
  u : ∀ i k, i < n → k < n → D i k ≤ 16
theorem fw_dist {n : Nat} {D : Nat → Nat → Int} (h : Dist0 n D) : ∀ m, m ≤ n → Dist0 n (fw D m) := by
  intro m
  induction m with
  | zero => intro _; exact h
  | succ m ih =>
    intro hm
    have ih := ih (by omega)
    refine ⟨fun i hi => ?_, fun i k hi hk => imin_ge (ih.p i k hi hk) (by have := ih.p i m hi (by omega); have := ih.p m k (by omega) hk; omega), fun i k hi hk => Int.le_trans (imin_le_left _ _) (ih.u i k hi hk)⟩
    have h1 := ih.p i m hi (by omega)
    have h2 := ih.p m i (by omega) hi
    show imin (fw D m i i) _ = 0
    rw [ih.z i hi]
    unfold imin
    rw [if_neg (by omega)]
theorem fw_tri {n : Nat} {D : Nat → Nat → Int} (h : Dist0 n D) : ∀ m, m ≤ n → ∀ j, j < m → ∀ i k, i < n → k < n → fw D m i k ≤ fw D m i j + fw D m j k := by
  intro m
  induction m with
  | zero => intro _ j hj; omega
  | succ m ih =>
    intro hm j hj i k hi hk
    have ih := ih (by omega)
    have hd := fw_dist h m (by omega)
    have hmn : m < n := by omega
    have hjn : j < n := by omega
    have zm := hd.z m hmn
    have a1 := imin_le_left (fw D m i k) (fw D m i m + fw D m m k)
    have a2 := imin_le_right (fw D m i k) (fw D m i m + fw D m m k)
    show imin (fw D m i k) (fw D m i m + fw D m m k) ≤ imin (fw D m i j) (fw D m i m + fw D m m j) + imin (fw D m j k) (fw D m j m + fw D m m k)
    by_cases hjm : j = m
    · subst hjm
      rw [zm, imin_self_add, imin_self_add']
      exact a2
    · have hj2 : j < m := by omega
      have t1 := ih j hj2 i k hi hk
      have t2 := ih j hj2 i m hi hmn
      have t3 := ih j hj2 m k hmn hk
      have p1 := hd.p m j hmn hjn
      have p2 := hd.p j m hjn hmn
      rcases imin_cases (fw D m i j) (fw D m i m + fw D m m j) with e1 | e1 <;> rcases imin_cases (fw D m j k) (fw D m j m + fw D m m k) with e2 | e2 <;> rw [e1, e2] <;> omega
theorem fw_le {D : Nat → Nat → Int} (m : Nat) (i k : Nat) : fw D m i k ≤ D i k := by
  induction m with
  | zero => exact Int.le_refl _
  | succ m ih => exact Int.le_trans (imin_le_left _ _) ih

/-! Walks. -/
def cost (D : Nat → Nat → Int) : Nat → List Nat → Int
  | _, [] => 0
  | x, y :: l => D x y + cost D y l
def end' : Nat → List Nat → Nat
  | x, [] => x
  | _, y :: l => end' y l
theorem cost_nonneg {n : Nat} {D : Nat → Nat → Int} (h : Dist0 n D) : ∀ (l : List Nat) (x : Nat), x < n → (∀ y ∈ l, y < n) → 0 ≤ cost D x l := by
  intro l
  induction l with
  | nil => intro x _ _; exact Int.le_refl _
  | cons y l ih =>
    intro x hx hl
    have h1 := h.p x y hx (hl y (by simp))
    have h2 := ih y (hl y (by simp)) (fun z hz => hl z (by simp [hz]))
    simp only [cost]; omega
theorem cost_append (D : Nat → Nat → Int) : ∀ (l : List Nat) (x : Nat) (m : List Nat), cost D x (l ++ m) = cost D x l + cost D (end' x l) m := by
  intro l
  induction l with
  | nil => intro x m; simp [cost, end']
  | cons y l ih => intro x m; simp only [List.cons_append, cost, end', ih]; omega
theorem end_append : ∀ (l : List Nat) (x : Nat) (m : List Nat), end' x (l ++ m) = end' (end' x l) m := by
  intro l
  induction l with
  | nil => intro x m; rfl
  | cons y l ih => intro x m; simp only [List.cons_append, end', ih]
/-- From a node's last place on. -/
theorem last_place {n : Nat} {D : Nat → Nat → Int} (h : Dist0 n D) : ∀ (l : List Nat) (x s : Nat), x < n → (∀ y ∈ l, y < n) → ∃ l', (s = x ∨ s ∈ l → (∀ y ∈ l', y ∈ l ∧ y ≠ s) ∧ end' s l' = end' x l ∧ cost D s l' ≤ cost D x l) := by
  intro l
  induction l with
  | nil =>
    intro x s hx _
    refine ⟨[], fun hs => ?_⟩
    rcases hs with hs | hs
    · subst hs; exact ⟨(fun y hy => nomatch hy), rfl, Int.le_refl _⟩
    · cases hs
  | cons y l ih =>
    intro x s hx hl
    by_cases hs : s = y ∨ s ∈ l
    · obtain ⟨l', h'⟩ := ih y s (hl y (by simp)) (fun z hz => hl z (by simp [hz]))
      obtain ⟨h1, h2, h3⟩ := h' hs
      refine ⟨l', fun _ => ⟨fun z hz => ⟨List.mem_cons_of_mem _ (h1 z hz).1, (h1 z hz).2⟩, h2, ?_⟩⟩
      have := h.p x y hx (hl y (by simp))
      simp only [cost]; omega
    · refine ⟨y :: l, fun hx' => ?_⟩
      have hsx : s = x := by
        rcases hx' with h1 | h1
        · exact h1
        · exact absurd (List.mem_cons.1 h1) hs
      subst hsx
      exact ⟨fun z hz => ⟨hz, fun hzs => hs (by rw [hzs] at hz; exact List.mem_cons.1 hz)⟩, rfl, Int.le_refl _⟩
/-- No walk is better than one of less steps than there are nodes. -/
theorem short_walk {n : Nat} {D : Nat → Nat → Int} (h : Dist0 n D) : ∀ (m : Nat) (V : List Nat), V.length ≤ m → (∀ y ∈ V, y < n) → ∀ (l : List Nat) (x : Nat), x ∈ V → (∀ y ∈ l, y ∈ V) → ∃ l', l'.length + 1 ≤ m ∧ (∀ y ∈ l', y ∈ V) ∧ end' x l' = end' x l ∧ cost D x l' ≤ cost D x l := by
  intro m
  induction m with
  | zero =>
    intro V hV _ l x hx _
    have : V = [] := List.eq_nil_of_length_eq_zero (by omega)
    rw [this] at hx; cases hx
  | succ m ih =>
    intro V hV hVn l x hx hl
    obtain ⟨l1, h1⟩ := last_place h l x x (hVn x hx) (fun y hy => hVn y (hl y hy))
    obtain ⟨q1, q2, q3⟩ := h1 (.inl rfl)
    cases l1 with
    | nil => exact ⟨[], by simp, (fun y hy => by cases hy), q2, q3⟩
    | cons y l1 =>
      have hy := q1 y (by simp)
      have hVl : (V.filter (fun z => decide (z ≠ x))).length ≤ m := by
        have : (V.filter (fun z => decide (z ≠ x))).length < V.length := by
          rw [List.length_filter_lt_length_iff_exists]
          exact ⟨x, hx, by simp⟩
        omega
      obtain ⟨l2, r1, r2, r3, r4⟩ := ih (V.filter (fun z => decide (z ≠ x))) hVl (fun z hz => hVn z (List.mem_filter.1 hz).1) l1 y (List.mem_filter.2 ⟨hl y hy.1, by simpa using hy.2⟩)
        (fun z hz => List.mem_filter.2 ⟨hl z (q1 z (by simp [hz])).1, by simpa using (q1 z (by simp [hz])).2⟩)
      refine ⟨y :: l2, by simp; omega, ?_, ?_, ?_⟩
      · intro z hz
        rcases List.mem_cons.1 hz with rfl | hz
        · exact hl z hy.1
        · exact (List.mem_filter.1 (r2 z hz)).1
      · show end' y l2 = _
        rw [r3]; exact q2
      · show D x y + cost D y l2 ≤ _
        have : D x y + cost D y l1 ≤ cost D x l := q3
        omega

/-- Each number of a phase's table is borne by a walk. -/
theorem fw_walk {n : Nat} {D : Nat → Nat → Int} : ∀ m, m ≤ n → ∀ i k, i < n → k < n → ∃ l, (∀ y ∈ l, y < n) ∧ end' i l = k ∧ cost D i l ≤ fw D m i k := by
  intro m
  induction m with
  | zero => intro _ i k _ hk; exact ⟨[k], by simpa using hk, rfl, by simp [cost, fw]⟩
  | succ m ih =>
    intro hm i k hi hk
    have ih := ih (by omega)
    show ∃ l, _ ∧ _ ∧ cost D i l ≤ imin (fw D m i k) (fw D m i m + fw D m m k)
    rcases imin_cases (fw D m i k) (fw D m i m + fw D m m k) with e | e
    · rw [e]; exact ih i k hi hk
    · rw [e]
      obtain ⟨l1, a1, a2, a3⟩ := ih i m hi (by omega)
      obtain ⟨l2, b1, b2, b3⟩ := ih m k (by omega) hk
      refine ⟨l1 ++ l2, fun y hy => (List.mem_append.1 hy).elim (a1 y) (b1 y), by rw [end_append, a2, b2], ?_⟩
      rw [cost_append, a2]; omega

/-- The powers of D, from One on. -/
def pw (n : Nat) (D : Nat → Nat → Int) : Nat → Nat → Nat → Int
  | 0 => fun i k => if k = i then 0 else 16
  | m + 1 => fun i k => mm (fun j => pw n D m i j) (fun j => D j k) n
theorem mm_le_at (f g : Nat → Int) (n j : Nat) (hj : j < n) : mm f g n ≤ f j + g j := by
  induction n with
  | zero => omega
  | succ n ih =>
    by_cases h : j = n
    · subst h; exact imin_le_right _ _
    · exact Int.le_trans (imin_le_left _ _) (ih (by omega))
theorem mm_le16 (f g : Nat → Int) (n : Nat) : mm f g n ≤ 16 := by
  induction n with
  | zero => exact Int.le_refl _
  | succ n ih => exact Int.le_trans (imin_le_left _ _) ih
theorem mm_ge {f g : Nat → Int} {n : Nat} {z : Int} (h0 : z ≤ 16) (h : ∀ j, j < n → z ≤ f j + g j) : z ≤ mm f g n := by
  induction n with
  | zero => exact h0
  | succ n ih => exact imin_ge (ih (fun j hj => h j (by omega))) (h n (by omega))
theorem pw_down {n : Nat} {D : Nat → Nat → Int} (h : Dist0 n D) (m i k : Nat) (hk : k < n) : pw n D (m + 1) i k ≤ pw n D m i k := by
  have := mm_le_at (fun j => pw n D m i j) (fun j => D j k) n k hk
  have e := h.z k hk
  show mm _ _ n ≤ _
  simp only [e] at this
  omega
theorem pw_mono {n : Nat} {D : Nat → Nat → Int} (h : Dist0 n D) (m d i k : Nat) (hk : k < n) : pw n D (m + d) i k ≤ pw n D m i k := by
  induction d with
  | zero => exact Int.le_refl _
  | succ d ih => exact Int.le_trans (pw_down h (m + d) i k hk) ih
theorem pw_walk {n : Nat} {D : Nat → Nat → Int} (i : Nat) : ∀ (l : List Nat) (x m : Nat), x < n → (∀ y ∈ l, y < n) → pw n D (m + l.length) i (end' x l) ≤ pw n D m i x + cost D x l := by
  intro l
  induction l with
  | nil => intro x m _ _; simp [cost, end']
  | cons y l ih =>
    intro x m hx hl
    have hy := hl y (by simp)
    have h1 := ih y (m + 1) hy (fun z hz => hl z (by simp [hz]))
    have h2 : pw n D (m + 1) i y ≤ pw n D m i x + D x y := mm_le_at (fun j => pw n D m i j) (fun j => D j y) n x hx
    have e : m + (y :: l).length = m + 1 + l.length := by simp; omega
    rw [e]
    show pw n D (m + 1 + l.length) i (end' y l) ≤ _ + (D x y + cost D y l)
    omega
theorem pw_ge {n : Nat} {D : Nat → Nat → Int} (h : Dist0 n D) : ∀ m i k, i < n → k < n → fw D n i k ≤ pw n D m i k := by
  have hd := fw_dist h n (Nat.le_refl _)
  intro m
  induction m with
  | zero =>
    intro i k hi hk
    show fw D n i k ≤ if k = i then 0 else 16
    split
    · rename_i e; subst e; rw [hd.z k hk]; exact Int.le_refl _
    · exact hd.u i k hi hk
  | succ m ih =>
    intro i k hi hk
    refine mm_ge (hd.u i k hi hk) (fun j hj => ?_)
    have h1 := ih i j hi hj
    have h2 := fw_tri h n (Nat.le_refl _) j hj i k hi hk
    have h3 : fw D n j k ≤ D j k := fw_le n j k
    omega
theorem pw_eq {n : Nat} {D : Nat → Nat → Int} (h : Dist0 n D) (i k : Nat) (hi : i < n) (hk : k < n) : pw n D n i k = fw D n i k := by
  have h1 := pw_ge h n i k hi hk
  obtain ⟨l, a1, a2, a3⟩ := fw_walk (D := D) n (Nat.le_refl _) i k hi hk
  obtain ⟨l', b1, b2, b3, b4⟩ := short_walk h n (List.range n) (by simp) (fun y hy => List.mem_range.1 hy) l i (List.mem_range.2 hi) (fun y hy => List.mem_range.2 (a1 y hy))
  have h2 := pw_walk (n := n) (D := D) i l' i 0 hi (fun y hy => List.mem_range.1 (b2 y hy))
  rw [b3, a2] at h2
  have h3 := pw_mono h (0 + l'.length) (n - l'.length) i k hk
  have e : 0 + l'.length + (n - l'.length) = n := by omega
  rw [e] at h3
  have h4 : pw n D 0 i i = 0 := by show (if i = i then (0 : Int) else 16) = 0; rw [if_pos rfl]
  omega
end Go.Proofs.Ytlmoaompmiobjaa
