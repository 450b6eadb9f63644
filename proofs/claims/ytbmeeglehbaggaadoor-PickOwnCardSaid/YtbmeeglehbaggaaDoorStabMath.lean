import Derived.Test.YtbmeeglehbaggaaDoorBase
namespace Go.Proofs.YtbmeeglehbaggaaDoor
open Go.RowKit

/-! slices.SortStableFunc as its text goes: blocks of 20, merged in place. -/
def swp (d : List Int) (i j : Nat) : List Int := (d.set i (nth d j)).set j (nth d i)
/-- So many numbers, each one of so many. -/
structure OkD (N M : Nat) (d : List Int) : Prop where
  len : d.length = N
  bd : ∀ x ∈ d, 0 ≤ x ∧ x < M
theorem OkD.nth {N M : Nat} {d : List Int} (h : OkD N M d) {i : Nat} (hi : i < N) : 0 ≤ nth d i ∧ nth d i < M := h.bd _ (nth_mem d i (by rw [h.len]; exact hi))
theorem OkD.swp {N M : Nat} {d : List Int} (h : OkD N M d) {i j : Nat} (hi : i < N) (hj : j < N) : OkD N M (swp d i j) := by
  refine ⟨by unfold Go.Proofs.YtbmeeglehbaggaaDoor.swp; rw [List.length_set, List.length_set, h.len], fun x hx => ?_⟩
  unfold Go.Proofs.YtbmeeglehbaggaaDoor.swp at hx
  rcases List.mem_or_eq_of_mem_set hx with hx | rfl
  · rcases List.mem_or_eq_of_mem_set hx with hx | rfl
    · exact h.bd x hx
    · exact h.nth hj
  · exact h.nth hi
section
variable (lt : Int → Int → Bool)
/-- One number to its place among those before it. -/
def insJ (a : Nat) : Nat → List Int → List Int
  | 0, d => d
  | j + 1, d => if a < j + 1 ∧ lt (nth d (j + 1)) (nth d j) = true then insJ a j (swp d (j + 1) j) else d
def insL (a : Nat) (d : List Int) (i b : Nat) : List Int := (List.range' i (b - i)).foldl (fun d i => insJ lt a i d) d
def insS (d : List Int) (a b : Nat) : List Int := insL lt a d (a + 1) b
theorem insJ_go {a j : Nat} {d : List Int} (h : a < j) (hl : lt (nth d j) (nth d (j - 1)) = true) : insJ lt a j d = insJ lt a (j - 1) (swp d j (j - 1)) := by
  obtain ⟨j, rfl⟩ : ∃ q, j = q + 1 := ⟨j - 1, by omega⟩
  rw [Nat.add_sub_cancel] at hl ⊢
  show (if _ then _ else _) = _
  rw [if_pos ⟨h, hl⟩]
theorem insJ_end {a j : Nat} {d : List Int} (h : j ≤ a) : insJ lt a j d = d := by
  cases j with
  | zero => rfl
  | succ j => show (if _ then _ else _) = _; rw [if_neg (fun q => by omega)]
theorem insJ_stop {a j : Nat} {d : List Int} (hl : lt (nth d j) (nth d (j - 1)) = false) : insJ lt a j d = d := by
  cases j with
  | zero => rfl
  | succ j => rw [Nat.add_sub_cancel] at hl; show (if _ then _ else _) = _; rw [if_neg (fun q => by rw [hl] at q; exact absurd q.2 (by decide))]
theorem insL_go {a i b : Nat} (d : List Int) (h : i < b) : insL lt a d i b = insL lt a (insJ lt a i d) (i + 1) b := by
  unfold insL
  rw [show b - i = (b - (i + 1)) + 1 by omega, List.range'_succ]
  rfl
theorem insL_end {a i b : Nat} (d : List Int) (h : b ≤ i) : insL lt a d i b = d := by
  unfold insL
  rw [show b - i = 0 by omega]
  rfl
/-- The first place between i and j at which p is no more. -/
def bsr (p : Nat → Bool) : Nat → Nat → Nat → Nat
  | 0, i, _ => i
  | f + 1, i, j => if i < j then (if p ((i + j) / 2) = true then bsr p f ((i + j) / 2 + 1) j else bsr p f i ((i + j) / 2)) else i
/-- On the way to it. -/
def BsTo (p : Nat → Bool) (i j r : Nat) : Prop := ∃ f, j - i ≤ f ∧ bsr p f i j = r
theorem BsTo.start (p : Nat → Bool) (i j : Nat) : BsTo p i j (bsr p (j - i) i j) := ⟨_, Nat.le_refl _, rfl⟩
theorem BsTo.end {p : Nat → Bool} {i j r : Nat} (h : BsTo p i j r) (hij : j ≤ i) : i = r := by
  obtain ⟨f, -, h⟩ := h
  rw [← h]
  cases f with
  | zero => rfl
  | succ f => unfold bsr; rw [if_neg (by omega)]
theorem BsTo.up {p : Nat → Bool} {i j r h : Nat} (b : BsTo p i j r) (hij : i < j) (hh : h = (i + j) / 2) (hp : p h = true) : BsTo p (h + 1) j r := by
  subst hh
  obtain ⟨f, h1, h2⟩ := b
  obtain ⟨f, rfl⟩ : ∃ q, f = q + 1 := ⟨f - 1, by omega⟩
  unfold bsr at h2
  rw [if_pos hij, if_pos hp] at h2
  exact ⟨f, by omega, h2⟩
theorem BsTo.down {p : Nat → Bool} {i j r h : Nat} (b : BsTo p i j r) (hij : i < j) (hh : h = (i + j) / 2) (hp : p h = false) : BsTo p i h r := by
  subst hh
  obtain ⟨f, h1, h2⟩ := b
  obtain ⟨f, rfl⟩ : ∃ q, f = q + 1 := ⟨f - 1, by omega⟩
  unfold bsr at h2
  rw [if_pos hij, if_neg (by rw [hp]; decide)] at h2
  exact ⟨f, by omega, h2⟩

/-- Neighbours changed, from k up to e - 1; from k down to i. -/
def upS (d : List Int) (k e : Nat) : List Int := (List.range' k (e - k)).foldl (fun d k => swp d k (k + 1)) d
theorem upS_go {k e : Nat} (d : List Int) (h : k < e) : upS d k e = upS (swp d k (k + 1)) (k + 1) e := by
  unfold upS
  rw [show e - k = (e - (k + 1)) + 1 by omega, List.range'_succ]
  rfl
theorem upS_end {k e : Nat} (d : List Int) (h : e ≤ k) : upS d k e = d := by
  unfold upS
  rw [show e - k = 0 by omega]
  rfl
def dnS (i : Nat) : Nat → List Int → List Int
  | 0, d => d
  | k + 1, d => if i < k + 1 then dnS i k (swp d (k + 1) k) else d
theorem dnS_go {i k : Nat} (d : List Int) (h : i < k) : dnS i k d = dnS i (k - 1) (swp d k (k - 1)) := by
  obtain ⟨k, rfl⟩ : ∃ q, k = q + 1 := ⟨k - 1, by omega⟩
  rw [Nat.add_sub_cancel]
  show (if _ then _ else _) = _
  rw [if_pos h]
theorem dnS_end {i k : Nat} (d : List Int) (h : k ≤ i) : dnS i k d = d := by
  cases k with
  | zero => rfl
  | succ k => show (if _ then _ else _) = _; rw [if_neg (by omega)]
/-- Two blocks of n changed. -/
def swR (d : List Int) (a b i n : Nat) : List Int := (List.range' i (n - i)).foldl (fun d i => swp d (a + i) (b + i)) d
theorem swR_go {a b i n : Nat} (d : List Int) (h : i < n) : swR d a b i n = swR (swp d (a + i) (b + i)) a b (i + 1) n := by
  unfold swR
  rw [show n - i = (n - (i + 1)) + 1 by omega, List.range'_succ]
  rfl
theorem swR_end {a b i n : Nat} (d : List Int) (h : n ≤ i) : swR d a b i n = d := by
  unfold swR
  rw [show n - i = 0 by omega]
  rfl
def rotF (m : Nat) : Nat → List Int → Nat → Nat → List Int
  | 0, d, _, _ => d
  | f + 1, d, i, j => if i = j then swR d (m - i) m 0 i else if j < i then rotF m f (swR d (m - i) m 0 j) (i - j) j else rotF m f (swR d (m - i) (m + j - i) 0 i) i (j - i)
def rotD (d : List Int) (a m b : Nat) : List Int := rotF m (b - a) d (m - a) (b - m)
def RotTo (m : Nat) (d : List Int) (i j : Nat) (r : List Int) : Prop := ∃ f, i + j ≤ f ∧ rotF m f d i j = r
theorem RotTo.start (d : List Int) {a m b : Nat} (h1 : a ≤ m) (h2 : m ≤ b) : RotTo m d (m - a) (b - m) (rotD d a m b) := ⟨b - a, by omega, rfl⟩
theorem RotTo.end {m i j : Nat} {d r : List Int} (h : RotTo m d i j r) (h1 : 0 < i) (hij : i = j) : swR d (m - i) m 0 i = r := by
  obtain ⟨f, h2, h3⟩ := h
  obtain ⟨f, rfl⟩ : ∃ q, f = q + 1 := ⟨f - 1, by omega⟩
  unfold rotF at h3
  rwa [if_pos hij] at h3
theorem RotTo.more {m i j : Nat} {d r : List Int} (h : RotTo m d i j r) (h1 : 0 < j) (hij : j < i) : RotTo m (swR d (m - i) m 0 j) (i - j) j r := by
  obtain ⟨f, h2, h3⟩ := h
  obtain ⟨f, rfl⟩ : ∃ q, f = q + 1 := ⟨f - 1, by omega⟩
  unfold rotF at h3
  rw [if_neg (by omega), if_pos hij] at h3
  exact ⟨f, by omega, h3⟩
theorem RotTo.less {m i j : Nat} {d r : List Int} (h : RotTo m d i j r) (h1 : 0 < i) (hij : i < j) : RotTo m (swR d (m - i) (m + j - i) 0 i) i (j - i) r := by
  obtain ⟨f, h2, h3⟩ := h
  obtain ⟨f, rfl⟩ : ∃ q, f = q + 1 := ⟨f - 1, by omega⟩
  unfold rotF at h3
  rw [if_neg (by omega), if_neg (by omega)] at h3
  exact ⟨f, by omega, h3⟩
/-- Where the merge parts. -/
def symP (d : List Int) (n : Nat) : Nat → Bool := fun c => !lt (nth d (n - 1 - c)) (nth d c)
def symS (d : List Int) (a m b : Nat) : Nat :=
  if (a + b) / 2 < m then bsr (symP lt d ((a + b) / 2 + m)) ((a + b) / 2 - ((a + b) / 2 + m - b)) ((a + b) / 2 + m - b) ((a + b) / 2) else bsr (symP lt d ((a + b) / 2 + m)) (m - a) a m
def symRot (d : List Int) (m s e : Nat) : List Int := if s < m ∧ m < e then rotD d s m e else d
def upP (d : List Int) (a : Nat) : Nat → Bool := fun h => lt (nth d h) (nth d a)
def dnP (d : List Int) (m : Nat) : Nat → Bool := fun h => !lt (nth d m) (nth d h)
def symM : Nat → List Int → Nat → Nat → Nat → List Int
  | 0, d, _, _, _ => d
  | f + 1, d, a, m, b =>
    if m = a + 1 then upS d a (bsr (upP lt d a) (b - m) m b - 1)
    else if b = m + 1 then dnS (bsr (dnP lt d m) (m - a) a m) m d
    else
      if (a + b) / 2 < ((a + b) / 2 + m - symS lt d a m b) ∧ ((a + b) / 2 + m - symS lt d a m b) < b then
        symM f (if a < symS lt d a m b ∧ symS lt d a m b < (a + b) / 2 then symM f (symRot d m (symS lt d a m b) ((a + b) / 2 + m - symS lt d a m b)) a (symS lt d a m b) ((a + b) / 2) else symRot d m (symS lt d a m b) ((a + b) / 2 + m - symS lt d a m b)) ((a + b) / 2) ((a + b) / 2 + m - symS lt d a m b) b
      else (if a < symS lt d a m b ∧ symS lt d a m b < (a + b) / 2 then symM f (symRot d m (symS lt d a m b) ((a + b) / 2 + m - symS lt d a m b)) a (symS lt d a m b) ((a + b) / 2) else symRot d m (symS lt d a m b) ((a + b) / 2 + m - symS lt d a m b))
/-- One block after the other: all whole ones; where they end. -/
def blkF (g : List Int → Nat → Nat → List Int) (s n : Nat) : Nat → List Int → Nat → List Int × Nat
  | 0, d, a => (d, a)
  | f + 1, d, a => if a + s ≤ n then blkF g s n f (g d a (a + s)) (a + s) else (d, a)
def BlkTo (g : List Int → Nat → Nat → List Int) (s n : Nat) (d : List Int) (a : Nat) (r : List Int × Nat) : Prop := ∃ f, n - a ≤ f ∧ blkF g s n f d a = r
theorem BlkTo.start (g : List Int → Nat → Nat → List Int) (s n : Nat) (d : List Int) : BlkTo g s n d 0 (blkF g s n n d 0) := ⟨n, by omega, rfl⟩
theorem BlkTo.go {g : List Int → Nat → Nat → List Int} {s n a : Nat} {d : List Int} {r : List Int × Nat} (h : BlkTo g s n d a r) (hs : 0 < s) (ha : a + s ≤ n) : BlkTo g s n (g d a (a + s)) (a + s) r := by
  obtain ⟨f, h1, h2⟩ := h
  obtain ⟨f, rfl⟩ : ∃ q, f = q + 1 := ⟨f - 1, by omega⟩
  unfold blkF at h2
  rw [if_pos ha] at h2
  exact ⟨f, by omega, h2⟩
theorem BlkTo.end {g : List Int → Nat → Nat → List Int} {s n a : Nat} {d : List Int} {r : List Int × Nat} (h : BlkTo g s n d a r) (ha : ¬ a + s ≤ n) : (d, a) = r := by
  obtain ⟨f, h1, h2⟩ := h
  rw [← h2]
  cases f with
  | zero => rfl
  | succ f => unfold blkF; rw [if_neg ha]
def mrgS (d : List Int) (s n : Nat) : List Int × Nat := blkF (fun d a b => symM lt 64 d a (a + s) b) (2 * s) n n d 0
def mrgR (d : List Int) (s n : Nat) : List Int := if (mrgS lt d s n).2 + s < n then symM lt 64 (mrgS lt d s n).1 (mrgS lt d s n).2 ((mrgS lt d s n).2 + s) n else (mrgS lt d s n).1
def mrgF (n : Nat) : Nat → List Int → Nat → List Int
  | 0, d, _ => d
  | f + 1, d, s => if s < n then mrgF n f (mrgR lt d s n) (s * 2) else d
def MrgTo (n : Nat) (d : List Int) (s : Nat) (r : List Int) : Prop := ∃ f, n - s ≤ f ∧ mrgF lt n f d s = r
theorem MrgTo.go {n s : Nat} {d r : List Int} (h : MrgTo lt n d s r) (h0 : 0 < s) (hs : s < n) : MrgTo lt n (mrgR lt d s n) (s * 2) r := by
  obtain ⟨f, h1, h2⟩ := h
  obtain ⟨f, rfl⟩ : ∃ q, f = q + 1 := ⟨f - 1, by omega⟩
  unfold mrgF at h2
  rw [if_pos hs] at h2
  exact ⟨f, by omega, h2⟩
theorem MrgTo.end {n s : Nat} {d r : List Int} (h : MrgTo lt n d s r) (hs : ¬ s < n) : d = r := by
  obtain ⟨f, h1, h2⟩ := h
  rw [← h2]
  cases f with
  | zero => rfl
  | succ f => unfold mrgF; rw [if_neg hs]
def stabD (d : List Int) (n : Nat) : List Int := mrgF lt n n (insS lt (blkF (insS lt) 20 n n d 0).1 (blkF (insS lt) 20 n n d 0).2 n) 20
end
end Go.Proofs.YtbmeeglehbaggaaDoor
