import Derived.Test.YtfjempfffdeklaaDoorBase
namespace Go.Proofs.YtfjempfffdeklaaDoor
open Go.RowKit

/-! All at once: what each node thinks, step by step; with poison it is the same; so many steps as nodes are enough. -/
structure Th where
  f : Int
  x : Int
deriving Inhabited, DecidableEq
abbrev Th.cells (t : Th) : List Value := [.int .i64 t.f, .int .i64 t.x]
theorem Th.cells_len (t : Th) : t.cells.length = 2 := rfl

def scan1 (ok : Nat → Bool) (v : Nat → Int) (a : Th) (k : Nat) : Th := if ok k = true ∧ v k < a.f then ⟨v k, k⟩ else a
def scanT (ok : Nat → Bool) (v : Nat → Int) (a : Th) (n : Nat) : Th := (List.range n).foldl (scan1 ok v) a
theorem scanT_succ (ok : Nat → Bool) (v : Nat → Int) (a : Th) (n : Nat) : scanT ok v a (n + 1) = scan1 ok v (scanT ok v a n) n := by
  unfold scanT; rw [List.range_succ, List.foldl_append]; rfl
structure ScanIs (ok : Nat → Bool) (v : Nat → Int) (a : Th) (n : Nat) (r : Th) : Prop where
  le : r.f ≤ a.f
  lo : ∀ k, k < n → ok k = true → r.f ≤ v k
  got : r = a ∨ ∃ k : Nat, k < n ∧ ok k = true ∧ r = ⟨v k, k⟩ ∧ v k < a.f ∧ ∀ j, j < k → ok j = true → v k < v j
theorem scan_is (ok : Nat → Bool) (v : Nat → Int) (a : Th) : ∀ n, ScanIs ok v a n (scanT ok v a n)
  | 0 => ⟨Int.le_refl _, fun _ h => absurd h (Nat.not_lt_zero _), .inl rfl⟩
  | n + 1 => by
    have ih := scan_is ok v a n
    rw [scanT_succ]
    generalize scanT ok v a n = r0 at ih ⊢
    unfold scan1
    split
    · rename_i h
      refine ⟨by have := ih.le; simp only; omega, fun k hk hok => ?_, .inr ⟨n, by omega, h.1, rfl, by have := ih.le; omega, fun j hj hok => by have := ih.lo j hj hok; omega⟩⟩
      by_cases e : k = n
      · subst e; exact Int.le_refl _
      · have := ih.lo k (by omega) hok; simp only; omega
    · rename_i h
      refine ⟨ih.le, fun k hk hok => ?_, ?_⟩
      · by_cases e : k = n
        · subst e
          have : ¬ v k < r0.f := fun hh => h ⟨hok, hh⟩
          omega
        · exact ih.lo k (by omega) hok
      · rcases ih.got with g | ⟨k, g1, g2, g3, g4, g5⟩
        · exact .inl g
        · exact .inr ⟨k, by omega, g2, g3, g4, g5⟩
theorem scan_same {ok : Nat → Bool} {v v' : Nat → Int} {a : Th} {n : Nat} (h : ∀ k, k < n → ok k = true → v' k = v k ∨ (v k ≤ v' k ∧ (scanT ok v a n).f < v k)) : scanT ok v' a n = scanT ok v a n := by
  have s := scan_is ok v a n
  have s' := scan_is ok v' a n
  generalize scanT ok v a n = r at s h ⊢
  generalize scanT ok v' a n = r' at s' ⊢
  have hle : ∀ k, k < n → ok k = true → v k ≤ v' k := fun k hk hok => by rcases h k hk hok with e | e <;> omega
  rcases s.got with e | ⟨k, k1, k2, e, k4, k5⟩
  · rcases s'.got with e' | ⟨j, j1, j2, e', j4, j5⟩
    · rw [e, e']
    · have := s.lo j j1 j2
      have := hle j j1 j2
      rw [e] at *
      omega
  · have hk : v' k = v k := by
      rcases h k k1 k2 with q | q
      · exact q
      · rw [e] at q; simp only at q; omega
    rcases s'.got with e' | ⟨j, j1, j2, e', j4, j5⟩
    · have := s'.lo k k1 k2
      rw [e', hk] at this
      omega
    · have b1 := s'.lo k k1 k2
      have b2 := s.lo j j1 j2
      have b3 := hle j j1 j2
      rw [e'] at b1
      rw [e] at b2
      simp only at b1 b2
      have hj : v' j = v k := by omega
      have hj2 : v j = v k := by omega
      by_cases c1 : j < k
      · have := k5 j c1 j2; omega
      · by_cases c2 : k < j
        · have := j5 k c2 k2; omega
        · obtain rfl : j = k := by omega
          rw [e, e', hj]
theorem scan_congr {ok : Nat → Bool} {v v' : Nat → Int} {a : Th} {n : Nat} (h : ∀ k, k < n → ok k = true → v' k = v k) : scanT ok v' a n = scanT ok v a n := scan_same (fun k hk hok => .inl (h k hk hok))
theorem scan_mono {ok : Nat → Bool} {v v' : Nat → Int} {a : Th} {n : Nat} (h : ∀ k, k < n → ok k = true → v' k ≤ v k) : (scanT ok v' a n).f ≤ (scanT ok v a n).f := by
  have s := scan_is ok v a n
  have s' := scan_is ok v' a n
  rcases s.got with e | ⟨k, k1, k2, e, -⟩
  · rw [e]; exact s'.le
  · rw [e]
    have := s'.lo k k1 k2
    have := h k k1 k2
    simp only
    omega

def startT (i o : Nat) : Th := if o = i then ⟨0, -1⟩ else ⟨16, -1⟩
def okT (C : Nat → Nat → Int) (i o : Nat) (k : Nat) : Bool := decide (¬ o = i ∧ ¬ k = i ∧ ¬ C i k = 16)
def toldT (p : Bool) (R : Nat → Nat → Th) (k i o : Nat) : Int := if p = true ∧ (R k o).x = i then 16 else (R k o).f
def stepTh (C : Nat → Nat → Int) (p : Bool) (n : Nat) (R : Nat → Nat → Th) (i o : Nat) : Th := scanT (okT C i o) (fun k => C i k + toldT p R k i o) (startT i o) n
def lineT (C : Nat → Nat → Int) (p : Bool) (n : Nat) : Nat → Nat → Nat → Th
  | 0 => startT
  | m + 1 => stepTh C p n (lineT C p n m)
theorem stepTh_congr {C : Nat → Nat → Int} {p : Bool} {n : Nat} {R S : Nat → Nat → Th} (h : ∀ k o, k < n → o < n → R k o = S k o) {i o : Nat} (ho : o < n) : stepTh C p n R i o = stepTh C p n S i o := by
  unfold stepTh
  refine scan_congr (fun k hk _ => ?_)
  simp only [toldT]
  rw [h k o hk ho]
theorem stepTh_f {C : Nat → Nat → Int} {n : Nat} {R S : Nat → Nat → Th} (h : ∀ k o, k < n → o < n → (R k o).f = (S k o).f) {i o : Nat} (ho : o < n) : stepTh C false n R i o = stepTh C false n S i o := by
  unfold stepTh
  refine scan_congr (fun k hk _ => ?_)
  have e : ∀ T : Nat → Nat → Th, toldT false T k i o = (T k o).f := fun T => if_neg (fun hh => by cases hh.1)
  simp only [e]
  rw [h k o hk ho]

/-- Costs: alike from either side, from 1 to 16 between two. -/
structure CPos (n : Nat) (C : Nat → Nat → Int) : Prop where
  pos : ∀ i k, i < n → k < n → i ≠ k → 1 ≤ C i k ∧ C i k ≤ 16
  sym : ∀ i k, i < n → k < n → C i k = C k i
namespace LineT
variable {C : Nat → Nat → Int} {n : Nat}
theorem told0 (R : Nat → Nat → Th) (k i o : Nat) : toldT false R k i o = (R k o).f := if_neg (fun hh => by cases hh.1)
theorem start_f (i o : Nat) : 0 ≤ (startT i o).f ∧ (startT i o).f ≤ 16 := by unfold startT; split <;> simp
theorem bd (hC : CPos n C) : ∀ m i o, i < n → o < n → 0 ≤ (lineT C false n m i o).f ∧ (lineT C false n m i o).f ≤ 16
  | 0, i, o, _, _ => start_f i o
  | m + 1, i, o, hi, ho => by
    have s := scan_is (okT C i o) (fun k => C i k + toldT false (lineT C false n m) k i o) (startT i o) n
    have h0 := start_f i o
    show 0 ≤ (scanT _ _ _ _).f ∧ (scanT _ _ _ _).f ≤ 16
    refine ⟨?_, by have := s.le; omega⟩
    rcases s.got with e | ⟨k, k1, k2, e, -⟩
    · rw [e]; exact h0.1
    · rw [e, told0]
      have := (bd hC m k o k1 ho).1
      have hk := of_decide_eq_true k2
      have := (hC.pos i k hi k1 (fun e => hk.2.1 e.symm)).1
      simp only
      omega
theorem down (hC : CPos n C) : ∀ m i o, i < n → o < n → (lineT C false n (m + 1) i o).f ≤ (lineT C false n m i o).f
  | 0, i, o, _, _ => (scan_is _ _ _ _).le
  | m + 1, i, o, hi, ho => by
    refine scan_mono (fun k hk _ => ?_)
    simp only [told0]
    have := down hC m k o hk ho
    omega
theorem by_x {m i o k : Nat} (h : (lineT C false n (m + 1) i o).x = k) : k < n ∧ okT C i o k = true ∧ (lineT C false n (m + 1) i o).f = C i k + (lineT C false n m k o).f := by
  have s := scan_is (okT C i o) (fun k => C i k + toldT false (lineT C false n m) k i o) (startT i o) n
  have h : (scanT (okT C i o) (fun k => C i k + toldT false (lineT C false n m) k i o) (startT i o) n).x = k := h
  show _ ∧ _ ∧ (scanT (okT C i o) (fun k => C i k + toldT false (lineT C false n m) k i o) (startT i o) n).f = _
  rcases s.got with e | ⟨j, j1, j2, e, -⟩
  · rw [e] at h
    exfalso
    unfold startT at h
    split at h <;> simp at h <;> omega
  · rw [e] at h ⊢
    simp only at h
    obtain rfl : j = k := by omega
    exact ⟨j1, j2, by rw [told0]⟩
theorem poison (hC : CPos n C) : ∀ m i o, i < n → o < n → lineT C true n m i o = lineT C false n m i o
  | 0, _, _, _, _ => rfl
  | m + 1, i, o, hi, ho => by
    show stepTh C true n (lineT C true n m) i o = stepTh C false n (lineT C false n m) i o
    rw [stepTh_congr (S := lineT C false n m) (fun k o hk ho => poison hC m k o hk ho) ho]
    refine scan_same (fun k hk hok => ?_)
    have hok := of_decide_eq_true hok
    simp only [told0]
    unfold toldT
    by_cases hx : (lineT C false n m k o).x = i
    · right
      rw [if_pos ⟨rfl, hx⟩]
      refine ⟨by have := (bd hC m k o hk ho).2; omega, ?_⟩
      cases m with
      | zero =>
        exfalso
        simp only [lineT] at hx
        unfold startT at hx
        split at hx <;> simp at hx <;> omega
      | succ m =>
        obtain ⟨_, _, q⟩ := by_x hx
        have a1 := down hC m i o hi ho
        have a2 := down hC (m + 1) i o hi ho
        have a3 := (hC.pos i k hi hk (fun e => hok.2.1 e.symm)).1
        have a4 := hC.sym i k hi hk
        have a5 : (scanT (okT C i o) (fun k => C i k + toldT false (lineT C false n (m + 1)) k i o) (startT i o) n).f ≤ (lineT C false n (m + 1) i o).f := a2
        simp only [told0] at a5
        omega
    · left
      rw [if_neg (fun hh => hx hh.2)]

theorem mono_stops : ∀ (b : Nat) (g : Nat → Int), (∀ m, 0 ≤ g m) → (∀ m, g (m + 1) ≤ g m) → (g 0).toNat ≤ b → ∃ M, ∀ m, M ≤ m → g m = g M := by
  intro b
  induction b with
  | zero =>
    intro g h0 hd hb
    have hall : ∀ m, g m = g 0 := fun m => by
      induction m with
      | zero => rfl
      | succ m ih => have := hd m; have := h0 (m + 1); have := h0 0; omega
    exact ⟨0, fun m _ => hall m⟩
  | succ b ih =>
    intro g h0 hd hb
    by_cases h : ∃ m, g m < g 0
    · obtain ⟨m, hm⟩ := h
      obtain ⟨M, hM⟩ := ih (fun k => g (m + k)) (fun k => h0 _) (fun k => hd (m + k)) (by have := h0 m; have := h0 0; simp only [Nat.add_zero]; omega)
      refine ⟨m + M, fun k hk => ?_⟩
      have := hM (k - m) (by omega)
      rwa [show m + (k - m) = k by omega] at this
    · have hall : ∀ m, g m = g 0 := fun m => by
        have h1 : ¬ g m < g 0 := fun q => h ⟨m, q⟩
        have h2 : g m ≤ g 0 := by
          induction m with
          | zero => exact Int.le_refl _
          | succ m ih => have := hd m; have := ih (fun q => h ⟨m, q⟩); omega
        omega
      exact ⟨0, fun m _ => hall m⟩
theorem common (P : Nat → Nat → Prop) : ∀ n, (∀ i, i < n → ∃ M, ∀ m, M ≤ m → P i m) → ∃ M, ∀ i, i < n → ∀ m, M ≤ m → P i m
  | 0, _ => ⟨0, fun _ h => absurd h (Nat.not_lt_zero _)⟩
  | n + 1, h => by
    obtain ⟨M, hM⟩ := common P n (fun i hi => h i (by omega))
    obtain ⟨M', hM'⟩ := h n (by omega)
    refine ⟨max M M', fun i hi m hm => ?_⟩
    by_cases e : i = n
    · subst e; exact hM' m (by omega)
    · exact hM i (by omega) m (by omega)
theorem countP_lt {p q : Nat → Bool} : ∀ (l : List Nat), (∀ x ∈ l, p x = true → q x = true) → ∀ x ∈ l, q x = true → ¬ p x = true → l.countP p < l.countP q
  | [], _, x, hx, _, _ => by cases hx
  | y :: l, h, x, hx, hq, hp => by
    have hle : l.countP p ≤ l.countP q := List.countP_mono_left (fun z hz => h z (List.mem_cons_of_mem _ hz))
    have hy := h y List.mem_cons_self
    rw [List.countP_cons, List.countP_cons]
    rcases List.mem_cons.1 hx with rfl | hx
    · rw [if_pos hq, if_neg hp]; omega
    · have ih := countP_lt l (fun z hz => h z (List.mem_cons_of_mem _ hz)) x hx hq hp
      by_cases hpy : p y = true
      · rw [if_pos hpy, if_pos (hy hpy)]; omega
      · rw [if_neg hpy]; split <;> omega
theorem down_le (hC : CPos n C) {i o : Nat} (hi : i < n) (ho : o < n) {m k : Nat} (h : m ≤ k) : (lineT C false n k i o).f ≤ (lineT C false n m i o).f := by
  induction k with
  | zero => have e : m = 0 := by omega
            subst e; exact Int.le_refl _
  | succ k ih =>
    by_cases e : m = k + 1
    · subst e; exact Int.le_refl _
    · have := ih (by omega); have := down hC k i o hi ho; omega
/-- As many steps as there are other nodes are enough. -/
theorem settled (hC : CPos n C) {o : Nat} (ho : o < n) : ∃ D : Nat → Int, ∀ i, i < n → ∀ m, n ≤ m + 1 → (lineT C false n m i o).f = D i := by
  have hone : ∀ i, i < n → ∃ M, ∀ m, M ≤ m → (lineT C false n m i o).f = (lineT C false n M i o).f := fun i hi =>
    mono_stops _ (fun m => (lineT C false n m i o).f) (fun m => (bd hC m i o hi ho).1) (fun m => down hC m i o hi ho) (Nat.le_refl _)
  obtain ⟨M, hM⟩ : ∃ M, ∀ i, i < n → ∀ m, M ≤ m → (lineT C false n m i o).f = (lineT C false n M i o).f := by
    obtain ⟨M, hM⟩ := common (fun i m => ∃ M', M' ≤ m ∧ ∀ k, M' ≤ k → (lineT C false n k i o).f = (lineT C false n M' i o).f) n (fun i hi => by
      obtain ⟨M, h⟩ := hone i hi
      exact ⟨M, fun m hm => ⟨M, hm, h⟩⟩)
    refine ⟨M, fun i hi m hm => ?_⟩
    obtain ⟨M', h1, h2⟩ := hM i hi M (Nat.le_refl _)
    rw [h2 m (by omega), h2 M h1]
  refine ⟨fun i => (lineT C false n M i o).f, ?_⟩
  obtain ⟨D, hD⟩ : ∃ D : Nat → Int, ∀ i, D i = (lineT C false n M i o).f := ⟨_, fun _ => rfl⟩
  have hlow : ∀ i, i < n → ∀ m, D i ≤ (lineT C false n m i o).f := fun i hi m => by
    rw [hD]
    rcases Nat.le_total m M with h | h
    · exact down_le hC hi ho h
    · rw [hM i hi m h]; exact Int.le_refl _
  have hfix : ∀ i, i < n → i = o ∨ D i = 16 ∨ ∃ k, k < n ∧ D k < D i ∧ k ≠ i ∧ C i k ≠ 16 ∧ D i = C i k + D k := fun i hi => by
    have e1 : (lineT C false n (M + 1) i o).f = D i := by rw [hD]; exact hM i hi (M + 1) (by omega)
    have s := scan_is (okT C i o) (fun k => C i k + toldT false (lineT C false n M) k i o) (startT i o) n
    have e2 : (scanT (okT C i o) (fun k => C i k + toldT false (lineT C false n M) k i o) (startT i o) n).f = D i := e1
    rcases s.got with e | ⟨k, k1, k2, e, -⟩
    · rw [e] at e2
      unfold startT at e2
      split at e2
      · rename_i h; exact .inl h.symm
      · exact .inr (.inl e2.symm)
    · rw [e, told0, ← hD] at e2
      simp only at e2
      have hk := of_decide_eq_true k2
      have := (hC.pos i k hi k1 (fun q => hk.2.1 q.symm)).1
      exact .inr (.inr ⟨k, k1, by omega, hk.2.1, hk.2.2, by omega⟩)
  have h00 : D o = 0 := by
    have h1 := hlow o ho 0
    have h2 : (lineT C false n 0 o o).f = 0 := by show (startT o o).f = 0; unfold startT; rw [if_pos rfl]
    have h3 : 0 ≤ D o := by rw [hD]; exact (bd hC M o o ho ho).1
    omega
  have hrank : ∀ r i, i < n → (List.range n).countP (fun k => decide (D k < D i)) ≤ r → ∀ m, r ≤ m → (lineT C false n m i o).f = D i := by
    intro r
    induction r with
    | zero =>
      intro i hi hr m hm
      rcases hfix i hi with rfl | h | ⟨k, k1, k2, -⟩
      · have h1 := hlow i hi m
        have h2 := down_le hC hi ho (Nat.zero_le m)
        have h3 : (lineT C false n 0 i i).f = 0 := by show (startT i i).f = 0; unfold startT; rw [if_pos rfl]
        omega
      · have := hlow i hi m; have := (bd hC m i o hi ho).2; omega
      · exfalso
        have : 0 < (List.range n).countP (fun k => decide (D k < D i)) := List.countP_pos_iff.2 ⟨k, List.mem_range.2 k1, decide_eq_true k2⟩
        omega
    | succ r ih =>
      intro i hi hr m hm
      rcases hfix i hi with rfl | h | ⟨k, k1, k2, k3, k4, k5⟩
      · have h1 := hlow i hi m
        have h2 := down_le hC hi ho (Nat.zero_le m)
        have h3 : (lineT C false n 0 i i).f = 0 := by show (startT i i).f = 0; unfold startT; rw [if_pos rfl]
        omega
      · have := hlow i hi m; have := (bd hC m i o hi ho).2; omega
      · have hlt := countP_lt (p := fun j => decide (D j < D k)) (q := fun j => decide (D j < D i)) (List.range n) (fun j _ hj => by have := of_decide_eq_true hj; exact decide_eq_true (by omega)) k (List.mem_range.2 k1) (decide_eq_true k2) (by simp)
        obtain ⟨m, rfl⟩ : ∃ q, m = q + 1 := ⟨m - 1, by omega⟩
        have hk := ih k k1 (by omega) m (by omega)
        have h1 := hlow i hi (m + 1)
        by_cases hio : o = i
        · subst hio
          have h2 := down_le hC hi ho (Nat.zero_le (m + 1))
          have h3 : (lineT C false n 0 o o).f = 0 := by show (startT o o).f = 0; unfold startT; rw [if_pos rfl]
          omega
        · have s := (scan_is (okT C i o) (fun k => C i k + toldT false (lineT C false n m) k i o) (startT i o) n).lo k k1 (decide_eq_true ⟨hio, k3, k4⟩)
          simp only [told0, hk] at s
          have s2 : (lineT C false n (m + 1) i o).f ≤ C i k + D k := by
            have : (scanT (okT C i o) (fun k => C i k + toldT false (lineT C false n m) k i o) (startT i o) n).f = (lineT C false n (m + 1) i o).f := rfl
            simp only [told0] at this
            omega
          omega
  intro i hi m hm
  show _ = (lineT C false n M i o).f
  rw [← hD]
  have hc := countP_lt (p := fun j => decide (D j < D i)) (q := fun _ => true) (List.range n) (fun _ _ _ => rfl) i (List.mem_range.2 hi) rfl (by simp)
  have hl : (List.range n).countP (fun _ => true) = n := by simp
  exact hrank (n - 1) i hi (by omega) m (by omega)
theorem still (hC : CPos n C) (p : Bool) {i o : Nat} (hi : i < n) (ho : o < n) : stepTh C p n (lineT C p n n) i o = lineT C p n n i o := by
  have key : lineT C false n (n + 1) i o = lineT C false n n i o := by
    obtain ⟨m, rfl⟩ : ∃ m, n = m + 1 := ⟨n - 1, by omega⟩
    refine stepTh_f (fun k o hk ho => ?_) ho
    obtain ⟨D, hD⟩ := settled hC ho
    rw [hD k hk (m + 1) (by omega), hD k hk m (by omega)]
  cases p with
  | false => exact key
  | true =>
    have h1 := poison hC (n + 1) i o hi ho
    have h2 := poison hC n i o hi ho
    show lineT C true n (n + 1) i o = _
    rw [h1, h2, key]
end LineT
end Go.Proofs.YtfjempfffdeklaaDoor
