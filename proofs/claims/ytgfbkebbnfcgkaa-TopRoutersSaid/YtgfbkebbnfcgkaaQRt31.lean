import Derived.Test.YtgfbkebbnfcgkaaQRt29
import Derived.Test.YtgfbkebbnfcgkaaQRt30
section
namespace Go

/-- What a node believes: its root, how far, by whom. -/
structure Bl where
  r : Int
  f : Int
  u : Int
deriving DecidableEq
instance : Inhabited Bl := ⟨⟨0, 0, 0⟩⟩
abbrev Bl.cells (b : Bl) : List Value := [.int .i64 b.r, .int .i64 b.f, .int .i64 b.u]
theorem Bl.cells_len (b : Bl) : b.cells.length = 3 := rfl
def Bl.lt (b c : Bl) : Prop := b.r < c.r ∨ (b.r = c.r ∧ (b.f < c.f ∨ (b.f = c.f ∧ b.u < c.u)))
instance (b c : Bl) : Decidable (Bl.lt b c) := by unfold Bl.lt; infer_instance
/-- No farther from a root no greater. -/
def Bl.le2 (b : Bl) (r d : Int) : Prop := b.r < r ∨ (b.r = r ∧ b.f ≤ d)
/-- What 'x.a' tells 'x.b'. -/
def told (bs : List Bl) (x : Lk) : Bl := ⟨(nth bs x.a.toNat).r, (nth bs x.a.toNat).f + x.c, x.a⟩
def tell (bs : List Bl) (x : Lk) : List Bl := if Bl.lt (told bs x) (nth bs x.b.toNat) then bs.set x.b.toNat (told bs x) else bs

theorem nodup_le (n : Nat) : ∀ (l : List Nat), l.Nodup → (∀ x ∈ l, x < n) → l.length ≤ n := by
  induction n with
  | zero =>
    intro l _ h
    cases l with
    | nil => simp
    | cons a l => exact absurd (h a (by simp)) (by omega)
  | succ n ih =>
    intro l hd h
    by_cases hn : n ∈ l
    · have h1 := ih (l.erase n) (hd.erase n) (fun x hx => by
        have h2 := (hd.mem_erase_iff).1 hx
        have := h x h2.2
        omega)
      rw [List.length_erase_of_mem hn] at h1
      omega
    · have := ih l hd (fun x hx => by
        have h1 := h x hx
        have : x ≠ n := fun e => hn (by rw [← e]; exact hx)
        omega)
      omega

/-- The way by which a belief came: nodes with how far they were, each once; none of them is worse off now. -/
structure Came (n : Nat) (bs : List Bl) (v : Nat) (P : List (Nat × Int)) : Prop where
  head : ∃ T, P = (v, (nth bs v).f) :: T
  nodup : (P.map Prod.fst).Nodup
  lt : ∀ p ∈ P, p.1 < n
  now : ∀ p ∈ P, Bl.le2 (nth bs p.1) (nth bs v).r p.2
  far : ∀ p ∈ P, p.2 ≤ (nth bs v).f
  sum : (nth bs v).f + 15 ≤ 15 * P.length
structure BsOk (n : Nat) (bs : List Bl) : Prop where
  len : bs.length = n
  came : ∀ v, v < n → ∃ P, Came n bs v P
  r0 : ∀ v, v < n → 0 ≤ (nth bs v).r ∧ (nth bs v).r ≤ v
  f0 : ∀ v, v < n → 0 ≤ (nth bs v).f
  u0 : ∀ v, v < n → -1 ≤ (nth bs v).u ∧ (nth bs v).u < n
namespace BsOk
variable {n : Nat} {bs : List Bl}
theorem far (h : BsOk n bs) {v : Nat} (hv : v < n) : (nth bs v).f ≤ 15 * n := by
  obtain ⟨P, hP⟩ := h.came v hv
  have h1 := nodup_le n (P.map Prod.fst) hP.nodup (fun x hx => by
    obtain ⟨p, hp, rfl⟩ := List.mem_map.1 hx
    exact hP.lt p hp)
  rw [List.length_map] at h1
  have := hP.sum
  omega
end BsOk
theorem Bl.le2_mono {b c : Bl} {r d : Int} (h : Bl.le2 b r d) (k : Bl.lt c b ∨ c = b) : Bl.le2 c r d := by
  rcases k with k | rfl
  · unfold Bl.le2 Bl.lt at *; omega
  · exact h
theorem nth_set_self {α : Type} [Inhabited α] (l : List α) (i : Nat) (x : α) (h : i < l.length) : nth (l.set i x) i = x := by
  rw [nth_eq _ i (by simpa using h)]; simp
theorem nth_set_ne {α : Type} [Inhabited α] (l : List α) (i k : Nat) (x : α) (h : i ≠ k) : nth (l.set i x) k = nth l k := by
  by_cases hk : k < l.length
  · rw [nth_eq _ k (by simpa using hk), nth_eq l k hk]; simp [List.getElem_set_ne h]
  · unfold nth; simp [List.getElem?_set_ne h]

theorem tell_ok {n : Nat} {bs : List Bl} (h : BsOk n bs) {x : Lk} (ha : 0 ≤ x.a ∧ x.a < n) (hb : 0 ≤ x.b ∧ x.b < n) (hc : 1 ≤ x.c ∧ x.c ≤ 15) (hlt : Bl.lt (told bs x) (nth bs x.b.toNat)) : BsOk n (bs.set x.b.toNat (told bs x)) := by
  obtain ⟨a, b, c⟩ := x
  simp only at ha hb hc hlt
  obtain ⟨p, rfl⟩ : ∃ p : Nat, a = p := ⟨a.toNat, by omega⟩
  obtain ⟨q, rfl⟩ : ∃ q : Nat, b = q := ⟨b.toNat, by omega⟩
  simp only [Int.toNat_natCast] at *
  have hp : p < n := by omega
  have hq : q < n := by omega
  have hlen := h.len
  obtain ⟨B, hB⟩ : ∃ B, B = told bs ⟨p, q, c⟩ := ⟨_, rfl⟩
  have hBr : B.r = (nth bs p).r := by rw [hB]; simp [told]
  have hBf : B.f = (nth bs p).f + c := by rw [hB]; simp [told]
  have hBu : B.u = p := by rw [hB]; simp [told]
  rw [← hB] at hlt ⊢
  have hq' := nth_set_self bs q B (by omega)
  have hpq : p ≠ q := fun e => by
    subst e
    unfold Bl.lt at hlt
    omega
  have hle : ∀ k r d, Bl.le2 (nth bs k) r d → Bl.le2 (nth (bs.set q B) k) r d := fun k r d hk => by
    by_cases e : q = k
    · subst e; rw [hq']; exact Bl.le2_mono hk (.inl hlt)
    · rw [nth_set_ne bs q k B e]; exact hk
  refine ⟨by simpa using hlen, fun v hv => ?_, fun v hv => ?_, fun v hv => ?_, fun v hv => ?_⟩
  · by_cases e : q = v
    · subst e
      obtain ⟨P, hP⟩ := h.came p hp
      refine ⟨(q, B.f) :: P, ⟨⟨P, by rw [hq']⟩, ?_, ?_, ?_, ?_, ?_⟩⟩
      · rw [List.map_cons, List.nodup_cons]
        refine ⟨fun hm => ?_, hP.nodup⟩
        obtain ⟨z, hz, hz1⟩ := List.mem_map.1 hm
        have h1 := hP.now z hz
        have h2 := hP.far z hz
        rw [hz1] at h1
        simp only at h1
        unfold Bl.le2 at h1
        unfold Bl.lt at hlt
        omega
      · intro z hz
        rcases List.mem_cons.1 hz with rfl | hz
        · exact hq
        · exact hP.lt z hz
      · intro z hz
        rw [hq']
        rcases List.mem_cons.1 hz with rfl | hz
        · simp only; rw [hq']; exact .inr ⟨rfl, Int.le_refl _⟩
        · rw [hBr]; exact hle _ _ _ (hP.now z hz)
      · intro z hz
        rw [hq']
        rcases List.mem_cons.1 hz with rfl | hz
        · exact Int.le_refl _
        · have := hP.far z hz; omega
      · rw [hq', List.length_cons]; have := hP.sum; omega
    · obtain ⟨P, hP⟩ := h.came v hv
      have ev := nth_set_ne bs q v B e
      refine ⟨P, ⟨by rw [ev]; exact hP.head, hP.nodup, hP.lt, fun z hz => by rw [ev]; exact hle _ _ _ (hP.now z hz), by rw [ev]; exact hP.far, by rw [ev]; exact hP.sum⟩⟩
  · by_cases e : q = v
    · subst e
      rw [hq', hBr]
      have h1 := h.r0 p hp
      have h2 := h.r0 q hq
      unfold Bl.lt at hlt
      omega
    · rw [nth_set_ne bs q v B e]; exact h.r0 v hv
  · by_cases e : q = v
    · subst e
      rw [hq', hBf]
      have h1 := h.f0 p hp
      omega
    · rw [nth_set_ne bs q v B e]; exact h.f0 v hv
  · by_cases e : q = v
    · subst e
      rw [hq', hBu]
      omega
    · rw [nth_set_ne bs q v B e]; exact h.u0 v hv

/-- How much is left to learn. -/
def blW (b : Bl) : Nat := b.r.toNat * 2000 + b.f.toNat * 10 + (b.u + 1).toNat
def bsW (bs : List Bl) : Nat := (bs.map blW).sum
theorem sum_set : ∀ (l : List Nat) (i x : Nat) (h : i < l.length), (l.set i x).sum + l[i] = l.sum + x
  | [], _, _, h => by simp at h
  | a :: l, 0, x, _ => by simp; omega
  | a :: l, i + 1, x, h => by
    have := sum_set l i x (by simpa using h)
    simp; omega
theorem tell_less {n : Nat} {bs : List Bl} (h : BsOk n bs) (hn : n ≤ 8) {x : Lk} (ha : 0 ≤ x.a ∧ x.a < n) (hb : 0 ≤ x.b ∧ x.b < n) (hc : 1 ≤ x.c ∧ x.c ≤ 15) (hlt : Bl.lt (told bs x) (nth bs x.b.toNat)) : bsW (bs.set x.b.toNat (told bs x)) < bsW bs := by
  have hok := tell_ok h ha hb hc hlt
  have hq : x.b.toNat < n := by omega
  have hl : x.b.toNat < bs.length := by rw [h.len]; exact hq
  have h1 := hok.far hq
  have h2 := hok.f0 _ hq
  have h3 := hok.r0 _ hq
  have h4 := hok.u0 _ hq
  have k1 := h.far hq
  have k2 := h.f0 _ hq
  have k3 := h.r0 _ hq
  have k4 := h.u0 _ hq
  rw [nth_set_self bs _ _ hl] at h1 h2 h3 h4
  have hw : blW (told bs x) < blW (nth bs x.b.toNat) := by
    unfold Bl.lt at hlt
    unfold blW
    omega
  have hs := sum_set (bs.map blW) x.b.toNat (blW (told bs x)) (by simpa using hl)
  rw [List.getElem_map, ← nth_eq bs _ hl] at hs
  unfold bsW
  rw [List.map_set]
  omega
theorem bsW_le {n : Nat} {bs : List Bl} (h : BsOk n bs) (hn : n ≤ 8) : bsW bs ≤ 1000000 := by
  have key : ∀ (l : List Bl), (∀ b ∈ l, blW b ≤ 100000) → (l.map blW).sum ≤ l.length * 100000 := by
    intro l
    induction l with
    | nil => simp
    | cons b l ih =>
      intro hl
      have h1 := ih (fun c hc => hl c (by simp [hc]))
      have h2 := hl b (by simp)
      simp; omega
  have h1 := key bs (fun b hb => by
    obtain ⟨k, hk, rfl⟩ := List.mem_iff_getElem.1 hb
    rw [h.len] at hk
    have h1 := h.far hk
    have h2 := h.f0 k hk
    have h3 := h.r0 k hk
    have h4 := h.u0 k hk
    rw [nth_eq bs k (by rw [h.len]; exact hk)] at h1 h2 h3 h4
    unfold blW
    omega)
  unfold bsW
  have := h.len
  omega
/-- At first each is its own root. -/
def bs0 (n : Nat) : List Bl := (List.range n).map fun i : Nat => ⟨(i : Int), 0, -1⟩
theorem bs0_nth {n v : Nat} (hv : v < n) : nth (bs0 n) v = ⟨v, 0, -1⟩ := by
  rw [nth_eq _ v (by simp [bs0]; exact hv)]; simp [bs0]
theorem bs0_ok (n : Nat) : BsOk n (bs0 n) := by
  refine ⟨by simp [bs0], fun v hv => ⟨[(v, 0)], ?_⟩, fun v hv => ?_, fun v hv => ?_, fun v hv => ?_⟩
  · rw [← show (nth (bs0 n) v).f = 0 by rw [bs0_nth hv]]
    refine ⟨⟨[], rfl⟩, by simp, fun p hp => ?_, fun p hp => ?_, fun p hp => ?_, ?_⟩
    · rw [List.mem_singleton.1 hp]; exact hv
    · rw [List.mem_singleton.1 hp]; exact .inr ⟨rfl, Int.le_refl _⟩
    · rw [List.mem_singleton.1 hp]; exact Int.le_refl _
    · rw [bs0_nth hv]; simp
  · rw [bs0_nth hv]; simp
  · rw [bs0_nth hv]; simp
  · rw [bs0_nth hv]; simp; omega
/-- Whatever is alike at both ends of each link is alike at a node and its root. -/
def Rooted (l : List Lk) (n : Nat) (bs : List Bl) : Prop := ∀ g : Int → Int, (∀ x ∈ l, g x.a = g x.b) → ∀ v : Nat, v < n → g (nth bs v).r = g v
theorem bs0_rooted (l : List Lk) (n : Nat) : Rooted l n (bs0 n) := fun g _ v hv => by rw [bs0_nth hv]
theorem tell_rooted {l : List Lk} {n : Nat} {bs : List Bl} (h : Rooted l n bs) (hl : bs.length = n) {x : Lk} (ha : 0 ≤ x.a ∧ x.a < n) (hb : 0 ≤ x.b ∧ x.b < n) (hx : ∀ g : Int → Int, (∀ x ∈ l, g x.a = g x.b) → g x.a = g x.b) : Rooted l n (bs.set x.b.toNat (told bs x)) := by
  intro g hg v hv
  by_cases e : x.b.toNat = v
  · subst e
    rw [nth_set_self bs _ _ (by omega)]
    have h1 := h g hg x.a.toNat (by omega)
    have h2 := hx g hg
    rw [show ((x.a.toNat : Nat) : Int) = x.a by omega] at h1
    rw [show ((x.b.toNat : Nat) : Int) = x.b by omega, ← h2, ← h1]
    rfl
  · rw [nth_set_ne bs _ _ _ e]; exact h g hg v hv
/-- Nobody learns better. -/
def Still (l : List Lk) (bs : List Bl) : Prop := ∀ x ∈ l, (nth bs x.a.toNat).r = (nth bs x.b.toNat).r
theorem still_of {l : List Lk} {bs : List Bl} (h : ∀ x ∈ l, ¬ Bl.lt (told bs x) (nth bs x.b.toNat) ∧ ¬ Bl.lt (told bs ⟨x.b, x.a, x.c⟩) (nth bs x.a.toNat)) : Still l bs := fun x hx => by
  obtain ⟨h1, h2⟩ := h x hx
  unfold Bl.lt told at h1 h2
  simp only at h1 h2
  omega
/-- The law: one link more. -/
theorem span_more {n : Nat} {l m : List Lk} {bs cs : List Bl} (hlm : ∀ x ∈ l, x ∈ m) (_hm : ∀ x ∈ m, (0 ≤ x.a ∧ x.a < n) ∧ (0 ≤ x.b ∧ x.b < n)) (hb : BsOk n bs) (hr : Rooted l n bs) (hc : BsOk n cs) (hs : Still m cs) {a b : Nat} (ha : a < n) (hbn : b < n) :
    (nth cs a).r ≤ (nth bs a).r ∧ ((nth bs a).r = (nth bs b).r → (nth cs a).r = (nth cs b).r) := by
  have key : ∀ v : Nat, v < n → (nth cs (nth bs v).r.toNat).r = (nth cs v).r := fun v hv => by
    have := hr (fun z => (nth cs z.toNat).r) (fun x hx => hs x (hlm x hx)) v hv
    simpa using this
  refine ⟨?_, fun e => ?_⟩
  · have h1 := hb.r0 a ha
    have h2 := hc.r0 (nth bs a).r.toNat (by omega)
    rw [key a ha] at h2
    omega
  · rw [← key a ha, ← key b hbn, e]
end Go
end

section
namespace Go
open Go.RowKit

theorem lk_nodup {n : Int} : ∀ (l : List Lk) (seen : List (Int × Int)), Proofs.Ytgfbkebbnfcgkaa.lkErr n seen l = none → (l.map fun x => (Proofs.Ytgfbkebbnfcgkaa.Lk.lo x, Proofs.Ytgfbkebbnfcgkaa.Lk.hi x)).Nodup ∧ ∀ x ∈ l, (Proofs.Ytgfbkebbnfcgkaa.Lk.lo x, Proofs.Ytgfbkebbnfcgkaa.Lk.hi x) ∉ seen
  | [], _, _ => ⟨by simp, fun x hx => absurd hx (by simp)⟩
  | y :: l, seen, h => by
    rw [Proofs.Ytgfbkebbnfcgkaa.lkErr_cons] at h
    split at h
    · cases h
    · split at h
      · cases h
      · split at h
        · cases h
        · rename_i h3
          obtain ⟨h1, h2⟩ := lk_nodup l _ h
          refine ⟨?_, fun x hx => ?_⟩
          · rw [List.map_cons, List.nodup_cons]
            refine ⟨fun hm => ?_, h1⟩
            obtain ⟨z, hz, hze⟩ := List.mem_map.1 hm
            exact h2 z hz (by rw [hze]; simp)
          · rcases List.mem_cons.1 hx with rfl | hx
            · exact h3
            · exact fun hs => h2 x hx (by simp [hs])
end Go
namespace Go.Proofs.Ytgfbkebbnfcgkaa
open Go.RowKit

/-- What the check lets through. -/
theorem graph_ok {n : Int} {l : List Lk} (h : graphErr n l = none) : (1 ≤ n ∧ n ≤ 8) ∧ (∀ x ∈ l, ¬ Lk.bad n x ∧ x.a ≠ x.b) ∧ l.length ≤ 64 := by
  unfold graphErr at h
  split at h
  · cases h
  · rename_i hn
    have hn' : 1 ≤ n ∧ n ≤ 8 := by omega
    have hk := lkErr_ok l [] h
    refine ⟨hn', hk, ?_⟩
    have hd := (lk_nodup l [] h).1
    have hlt : ∀ x ∈ l, (0 ≤ Lk.lo x ∧ Lk.lo x < 8) ∧ (0 ≤ Lk.hi x ∧ Lk.hi x < 8) := fun x hx => by
      have := (hk x hx).1
      unfold Lk.bad at this
      unfold Lk.lo Lk.hi
      split <;> split <;> omega
    have := nodup_le 64 (l.map fun x => (Lk.lo x * 8 + Lk.hi x).toNat) (by
      unfold List.Nodup at *
      rw [List.pairwise_map] at *
      exact hd.imp_of_mem (fun {x y} hx hy hne he => hne (by
        have h1 := hlt x hx
        have h2 := hlt y hy
        have : Lk.lo x = Lk.lo y ∧ Lk.hi x = Lk.hi y := by omega
        rw [this.1, this.2]))) (fun v hv => by
      obtain ⟨x, hx, rfl⟩ := List.mem_map.1 hv
      have h1 := hlt x hx
      omega)
    simpa using this
end Go.Proofs.Ytgfbkebbnfcgkaa
end

section
namespace Go.Proofs.Ytgfbkebbnfcgkaa
open Go.RowKit

theorem fold_keep {n : Nat} : ∀ (l : List Lk) (rs : List (List Int)), Sq n rs → (∀ x ∈ l, x.a.toNat < n ∧ x.b.toNat < n) → ∀ p q : Nat, (∀ x ∈ l, ¬ (p = x.b.toNat ∧ q = x.a.toNat) ∧ ¬ (p = x.a.toNat ∧ q = x.b.toNat)) → at2 (l.foldl putL rs) p q = at2 rs p q
  | [], _, _, _, _, _, _ => rfl
  | y :: l, rs, h, hl, p, q, hpq => by
    rw [List.foldl_cons, fold_keep l _ (putL_sq h y (hl y (by simp)).1 (hl y (by simp)).2) (fun x hx => hl x (by simp [hx])) p q (fun x hx => hpq x (by simp [hx])), putL_at h y (hl y (by simp)).1 (hl y (by simp)).2]
    have := hpq y (by simp)
    rw [if_neg this.1, if_neg this.2]
theorem one_at {n : Nat} {p q : Nat} (hp : p < n) (hq : q < n) : at2 (ran n (oneRow n)) p q = if q = p then 0 else 16 := by
  unfold at2
  rw [nth_ran n _ p hp, oneRow, nth_set _ _ _ _ (by simpa using hp)]
  split
  · rfl
  · rw [nth_replicate _ _ _ hq]
/-- One link more. -/
theorem cost_more {N : Nat} {l : List Lk} {x : Lk} (h : graphErr N (l ++ [x]) = none) :
    (∀ i k, i < N → k < N → at2 (costsM N (l ++ [x])) i k ≤ at2 (costsM N l) i k) ∧ at2 (costsM N (l ++ [x])) x.a.toNat x.b.toNat = x.c ∧ at2 (costsM N (l ++ [x])) x.b.toNat x.a.toNat = x.c := by
  obtain ⟨hn, hk, -⟩ := graph_ok h
  have hd : ((l ++ [x]).map fun x => (Lk.lo x, Lk.hi x)).Nodup := by
    unfold graphErr at h
    split at h
    · cases h
    · exact (lk_nodup _ [] h).1
  have hb : ∀ y ∈ l ++ [x], y.a.toNat < N ∧ y.b.toNat < N ∧ 0 ≤ y.a ∧ 0 ≤ y.b ∧ 1 ≤ y.c ∧ y.c ≤ 15 ∧ y.a ≠ y.b := fun y hy => by
    obtain ⟨h1, h2⟩ := hk y hy
    unfold Lk.bad at h1
    omega
  have hx := hb x (by simp)
  have hsq : Sq N (costsM N l) := fold_sq l _ (one_sq N) (fun y hy => ⟨(hb y (by simp [hy])).1, (hb y (by simp [hy])).2.1⟩)
  have he : costsM N (l ++ [x]) = putL (costsM N l) x := by unfold costsM; rw [List.foldl_append]; rfl
  have hne : ∀ y ∈ l, (Lk.lo y, Lk.hi y) ≠ (Lk.lo x, Lk.hi x) := fun y hy hyx => by
    rw [List.map_append, List.nodup_append] at hd
    exact hd.2.2 _ (List.mem_map.2 ⟨y, hy, rfl⟩) _ (by simp) hyx
  have hno : ∀ p q : Nat, p < N → q < N → p ≠ q → (p = x.a.toNat ∧ q = x.b.toNat ∨ p = x.b.toNat ∧ q = x.a.toNat) → at2 (costsM N l) p q = 16 := fun p q hp hq hpq hor => by
    unfold costsM
    rw [fold_keep l _ (one_sq N) (fun y hy => ⟨(hb y (by simp [hy])).1, (hb y (by simp [hy])).2.1⟩) p q (fun y hy => ?_), one_at hp hq, if_neg (fun e => hpq e.symm)]
    have h1 := hne y hy
    have h2 := hb y (by simp [hy])
    have h3 : ¬ (y.a = x.a ∧ y.b = x.b) ∧ ¬ (y.a = x.b ∧ y.b = x.a) := by
      constructor
      · rintro ⟨e1, e2⟩
        exact h1 (by simp only [Lk.lo, Lk.hi, e1, e2])
      · rintro ⟨e1, e2⟩
        refine h1 ?_
        simp only [Lk.lo, Lk.hi, e1, e2, Prod.mk.injEq]
        constructor <;> split <;> split <;> omega
    omega
  rw [he]
  refine ⟨fun i k hi hk => ?_, ?_, ?_⟩
  · rw [putL_at hsq x hx.1 hx.2.1]
    split
    · rename_i e
      rw [hno i k hi hk (by omega) (.inr e)]; omega
    · split
      · rename_i e
        rw [hno i k hi hk (by omega) (.inl e)]; omega
      · exact Int.le_refl _
  · rw [putL_at hsq x hx.1 hx.2.1, if_neg (by omega), if_pos ⟨rfl, rfl⟩]
  · rw [putL_at hsq x hx.1 hx.2.1, if_pos ⟨rfl, rfl⟩]

/-- The one net that is asked first. -/
theorem far_one {far : List Int} (h : IsFar 2 (fun i k => at2 (costsM 2 [⟨0, 1, 3⟩]) i k) 0 far) : far = [0, 3] := by
  refine h.eq ⟨rfl, rfl, fun v hv => ?_, fun u k hu hk => ?_, fun v hv _ => ?_⟩
  · rcases (by omega : v = 0 ∨ v = 1) with rfl | rfl <;> decide
  · rcases (by omega : u = 0 ∨ u = 1) with rfl | rfl <;> rcases (by omega : k = 0 ∨ k = 1) with rfl | rfl <;> decide
  · rcases (by omega : v = 0 ∨ v = 1) with rfl | rfl
    · exact Come.here
    · exact Come.step (u := 0) Come.here (by omega) (by omega)
end Go.Proofs.Ytgfbkebbnfcgkaa
end
