import Derived.Test.YtbmeeglehbaggaaCosts
import Derived.Test.YtbmeeglehbaggaaMapL
import Derived.Test.YtbmeeglehbaggaaGKey
namespace Go
open Go.RowKit

/-- The integer in a cell. -/
def iv (w : World) (g i : Nat) : Int := match w.cell? ⟨g, i, none⟩ with | some (.int _ x) => x | _ => 0
theorem iv_of {w : World} {g i : Nat} {x : Int} (h : w.cell? ⟨g, i, none⟩ = some (.int .i64 x)) : iv w g i = x := by unfold iv; rw [h]
theorem iv_fr {S : Nat → Prop} {w w' : World} (f : Fr S w w') {g i : Nat} (hg : g < w.heap.size) (hs : ¬ S g) : iv w' g i = iv w g i := by
  unfold iv
  rw [f.cell (p := ⟨g, i, none⟩) hg hs]
/-- A block of which the cells from 'lo' on, n of them, are integers; it has s cells at least. -/
def IR (H : Array Obj) (E : TypeId) (g lo n s : Nat) : Prop := ∃ cs, Blk H g E cs ∧ s ≤ cs.length ∧ ∀ i, lo ≤ i → i < lo + n → ∃ x, cs[i]? = some (.int .i64 x)
namespace IR
variable {H : Array Obj} {E : TypeId} {g lo n s : Nat} {w w' : World} {S : Nat → Prop}
theorem lt (h : IR H E g lo n s) : g < H.size := by obtain ⟨cs, h1, -⟩ := h; exact h1.lt
theorem fr (h : IR w.heap E g lo n s) (f : Fr S w w') (hs : ¬ S g) : IR w'.heap E g lo n s := by
  obtain ⟨cs, h1, h2⟩ := h
  exact ⟨cs, h1.fr f hs, h2⟩
theorem set (h : IR w.heap E g lo n s) (b i : Nat) (x : Int) : IR (w.setCell ⟨b, i, none⟩ (.int .i64 x)).heap E g lo n s := by
  obtain ⟨cs, h1, h2, h3⟩ := h
  by_cases hb : g = b
  · subst hb
    refine ⟨_, h1.set i _, by simpa using h2, fun j hj hj' => ?_⟩
    obtain ⟨y, hy⟩ := h3 j hj hj'
    by_cases hij : i = j
    · subst hij
      have hl : i < cs.length := (List.getElem?_eq_some_iff.1 hy).1
      exact ⟨x, by rw [List.getElem?_set_self hl]⟩
    · exact ⟨y, by rw [List.getElem?_set_ne hij]; exact hy⟩
  · exact ⟨cs, h1.other (p := ⟨b, i, none⟩) hb _, h2, h3⟩
theorem cell (h : IR w.heap E g lo n s) {i : Nat} (h1 : lo ≤ i) (h2 : i < lo + n) : w.cell? ⟨g, i, none⟩ = some (.int .i64 (iv w g i)) := by
  obtain ⟨cs, h3, -, h4⟩ := h
  obtain ⟨x, hx⟩ := h4 i h1 h2
  have h5 := (h3.cell i).trans hx
  rw [h5, iv_of h5]
theorem frozen (h : IR w.heap E g lo n s) (i : Nat) : w.frozen? ⟨g, i, none⟩ = false := by
  obtain ⟨cs, h3, -⟩ := h
  exact h3.frozen i
theorem isSome (h : IR w.heap E g lo n s) {i : Nat} (hi : i < s) : (w.cell? ⟨g, i, none⟩).isSome = true := by
  obtain ⟨cs, h3, h4, -⟩ := h
  rw [h3.cell, List.getElem?_eq_getElem (by omega)]
  rfl
/-- One more. -/
theorem push (h : IR w.heap E g lo n s) (hs : lo + n < s) (x : Int) : IR (w.setCell ⟨g, lo + n, none⟩ (.int .i64 x)).heap E g lo (n + 1) s := by
  obtain ⟨cs, h1, h2, h3⟩ := h
  refine ⟨_, h1.set (lo + n) _, by simpa using h2, fun j hj hj' => ?_⟩
  by_cases hij : lo + n = j
  · subst hij
    exact ⟨x, by rw [List.getElem?_set_self (by omega)]⟩
  · obtain ⟨y, hy⟩ := h3 j hj (by omega)
    exact ⟨y, by rw [List.getElem?_set_ne hij]; exact hy⟩
theorem next (h : IR H E g lo n s) {m : Nat} (hm : m + 1 = n) : IR H E g (lo + 1) m s := by
  obtain ⟨cs, h1, h2, h3⟩ := h
  exact ⟨cs, h1, h2, fun j hj hj' => h3 j (by omega) (by omega)⟩
theorem of_own {a : Option Addr} {c : Nat} {l : List Int} {ob : Option Nat} (h : Ownd H E 1 a n c (ivals .i64 l) ob) (hn : 0 < n) : ∃ g, a = some ⟨g, 0, none⟩ ∧ ob = some g ∧ IR H E g 0 n c := by
  rcases h.is with ⟨_, h2, _⟩ | ⟨g, cur, h1, h2, h3, h4, h5, h6, h7⟩
  · omega
  · refine ⟨g, h1, h2, cur.toList, by unfold Blk; simpa using h3, by simp; omega, fun i _ hi => ?_⟩
    have hl := h.len
    have hi' : i < l.length := by simp at hl; omega
    have h8 : (cur.toList.take (n * 1))[i]? = some (.int .i64 (nth l i)) := by rw [h7]; exact ivals_get .i64 l i hi'
    rw [List.getElem?_take, if_pos (by omega)] at h8
    exact ⟨_, h8⟩
end IR
theorem Blk.ne {H : Array Obj} {g g' : Nat} {E E' : TypeId} {cs cs' : List Value} (h : Blk H g E cs) (h' : Blk H g' E' cs') (hE : E ≠ E') : g ≠ g' := fun e => by
  subst e
  have := h.symm.trans h'
  simp at this
  exact hE this.2
theorem MapL.ne {κ : Type} {w : World} {P : Program} {k : TypeId} {kl : κ → Lit} {b g : Nat} {L : List (κ × Value)} {E : TypeId} {cs : List Value} (h : MapL w P k kl b L) (h' : Blk w.heap g E cs) : b ≠ g := fun e => by
  subst e
  obtain ⟨es, ⟨xs, clock, hb, _⟩, _⟩ := h
  have := hb.symm.trans h'
  simp at this
end Go
namespace Go.Proofs.Ytbmeeglehbaggaa
open Go.RowKit Go.Maps

/-- Where all that belongs to a net lies. -/
structure FL where
  (cb cc nb nc mb : Nat)
  (cr ccr nd hr hc : Nat → Nat)
/-- What stands on a way: a slice of integers, anywhere in a block of 'Pd'. -/
def WayOk (H : Array Obj) (Pd : Nat → Prop) (v : Value) : Prop := ∃ a n c, v = .slice a n c ∧ n ≤ c ∧ ((a = none ∧ n = 0 ∧ c = 0) ∨ ∃ g off, a = some ⟨g, off, none⟩ ∧ Pd g ∧ IR H 3 g off n (off + c))
abbrev klp (p : Int × Int) : Lit := kl2 p.1 p.2
def KeyOk (p : Int × Int) : Prop := (Lit.int .i64 p.1).wf = true ∧ (Lit.int .i64 p.2).wf = true
structure LN (w : World) (Pd : Nat → Prop) (sb n : Nat) (to : Int) (c : Nat) (L : FL) : Prop where
  n8 : 1 ≤ n ∧ n ≤ 8
  sB : Blk w.heap sb 102 [.int .i64 to, .slice (some ⟨L.cb, 0, none⟩) n L.cc, .slice (some ⟨L.nb, 0, none⟩) n L.nc, .map (some L.mb)]
  cT : ∃ cs, Blk w.heap L.cb 22 cs ∧ ∀ i, i < n → cs[i]? = some (.slice (some ⟨L.cr i, 0, none⟩) n (L.ccr i))
  cR : ∀ i, i < n → IR w.heap 3 (L.cr i) 0 n n
  nT : ∃ cs, Blk w.heap L.nb 103 cs ∧ ∀ i, i < n → cs[i]? = some (.pointer (some ⟨L.nd i, 0, none⟩))
  nB : ∀ i, i < n → ∃ f l, Blk w.heap (L.nd i) 106 [.int .i64 f, .int .i64 l, .slice (some ⟨L.hr i, 0, none⟩) n (L.hc i)]
  hR : ∀ i, i < n → IR w.heap 3 (L.hr i) 0 n n
  mp : ∃ M : List ((Int × Int) × Value), MapL w Try.prog 107 klp L.mb M ∧ M.length ≤ c ∧ (∀ p ∈ M, KeyOk p.1) ∧ ∀ p ∈ M, WayOk w.heap Pd p.2
  pd : Pd sb ∧ Pd L.cb ∧ Pd L.nb ∧ Pd L.mb ∧ ∀ i, i < n → Pd (L.cr i) ∧ Pd (L.nd i) ∧ Pd (L.hr i)

theorem WayOk.mono {H : Array Obj} {Pd Qd : Nat → Prop} {v : Value} (h : WayOk H Pd v) (hq : ∀ k, k < H.size → Pd k → Qd k) : WayOk H Qd v := by
  obtain ⟨a, n, c, h1, h2, h3⟩ := h
  refine ⟨a, n, c, h1, h2, h3.imp id ?_⟩
  rintro ⟨g, off, e, hp, h⟩
  exact ⟨g, off, e, hq g h.lt hp, h⟩
theorem WayOk.fr {S Pd : Nat → Prop} {w w' : World} {v : Value} (h : WayOk w.heap Pd v) (f : Fr S w w') (hs : ∀ k, k < w.heap.size → Pd k → ¬ S k) : WayOk w'.heap Pd v := by
  obtain ⟨a, n, c, h1, h2, h3⟩ := h
  refine ⟨a, n, c, h1, h2, h3.imp id ?_⟩
  rintro ⟨g, off, e, hp, h⟩
  exact ⟨g, off, e, hp, h.fr f (hs g h.lt hp)⟩
theorem WayOk.set {Pd : Nat → Prop} {w : World} {v : Value} (h : WayOk w.heap Pd v) (b i : Nat) (x : Int) : WayOk (w.setCell ⟨b, i, none⟩ (.int .i64 x)).heap Pd v := by
  obtain ⟨a, n, c, h1, h2, h3⟩ := h
  refine ⟨a, n, c, h1, h2, h3.imp id ?_⟩
  rintro ⟨g, off, e, hp, h⟩
  exact ⟨g, off, e, hp, h.set b i x⟩

namespace LN
variable {w w' : World} {Pd Qd S : Nat → Prop} {sb n c : Nat} {to : Int} {L : FL}
theorem lts (h : LN w Pd sb n to c L) : sb < w.heap.size ∧ L.cb < w.heap.size ∧ L.nb < w.heap.size ∧ L.mb < w.heap.size ∧ ∀ i, i < n → L.cr i < w.heap.size ∧ L.nd i < w.heap.size ∧ L.hr i < w.heap.size := by
  obtain ⟨_, h1, _⟩ := h.cT
  obtain ⟨_, h2, _⟩ := h.nT
  obtain ⟨_, h3, _⟩ := h.mp
  refine ⟨h.sB.lt, h1.lt, h2.lt, h3.lt, fun i hi => ⟨(h.cR i hi).lt, ?_, (h.hR i hi).lt⟩⟩
  obtain ⟨_, _, h4⟩ := h.nB i hi
  exact h4.lt
theorem mono (h : LN w Pd sb n to c L) (hq : ∀ k, k < w.heap.size → Pd k → Qd k) {c' : Nat} (hc : c ≤ c') : LN w Qd sb n to c' L := by
  obtain ⟨l1, l2, l3, l4, l5⟩ := h.lts
  obtain ⟨p1, p2, p3, p4, p5⟩ := h.pd
  refine ⟨h.n8, h.sB, h.cT, h.cR, h.nT, h.nB, h.hR, ?_, hq _ l1 p1, hq _ l2 p2, hq _ l3 p3, hq _ l4 p4, fun i hi => ⟨hq _ (l5 i hi).1 (p5 i hi).1, hq _ (l5 i hi).2.1 (p5 i hi).2.1, hq _ (l5 i hi).2.2 (p5 i hi).2.2⟩⟩
  obtain ⟨M, m1, m2, m3, m4⟩ := h.mp
  exact ⟨M, m1, by omega, m3, fun p hp => (m4 p hp).mono hq⟩
theorem frP (h : LN w Pd sb n to c L) (f : Fr S w w') (hs : ∀ k, k < w.heap.size → Pd k → ¬ S k) : LN w' Pd sb n to c L := by
  obtain ⟨l1, l2, l3, l4, l5⟩ := h.lts
  obtain ⟨p1, p2, p3, p4, p5⟩ := h.pd
  refine ⟨h.n8, h.sB.fr f (hs _ l1 p1), ?_, fun i hi => (h.cR i hi).fr f (hs _ (l5 i hi).1 (p5 i hi).1), ?_, fun i hi => ?_, fun i hi => (h.hR i hi).fr f (hs _ (l5 i hi).2.2 (p5 i hi).2.2), ?_, h.pd⟩
  · obtain ⟨cs, c1, c2⟩ := h.cT
    exact ⟨cs, c1.fr f (hs _ l2 p2), c2⟩
  · obtain ⟨cs, c1, c2⟩ := h.nT
    exact ⟨cs, c1.fr f (hs _ l3 p3), c2⟩
  · obtain ⟨x, y, c1⟩ := h.nB i hi
    exact ⟨x, y, c1.fr f (hs _ (l5 i hi).2.1 (p5 i hi).2.1)⟩
  · obtain ⟨M, m1, m2, m3, m4⟩ := h.mp
    exact ⟨M, m1.fr f (hs _ l4 p4), m2, m3, fun p hp => (m4 p hp).fr f hs⟩
theorem fr0 (h : LN w Pd sb n to c L) (f : Fr (fun _ => False) w w') : LN w' Pd sb n to c L := h.frP f (fun _ _ _ h => h)

/-- One integer written into a block of integers. -/
theorem setI (h : LN w Pd sb n to c L) {b lo m s : Nat} (hb : IR w.heap 3 b lo m s) (i : Nat) (x : Int) : LN (w.setCell ⟨b, i, none⟩ (.int .i64 x)) Pd sb n to c L := by
  obtain ⟨ds, hb, -⟩ := hb
  refine ⟨h.n8, h.sB.other (p := ⟨b, i, none⟩) (h.sB.ne hb (by decide)) _, ?_, fun j hj => (h.cR j hj).set b i x, ?_, fun j hj => ?_, fun j hj => (h.hR j hj).set b i x, ?_, h.pd⟩
  · obtain ⟨cs, c1, c2⟩ := h.cT
    exact ⟨cs, c1.other (p := ⟨b, i, none⟩) (c1.ne hb (by decide)) _, c2⟩
  · obtain ⟨cs, c1, c2⟩ := h.nT
    exact ⟨cs, c1.other (p := ⟨b, i, none⟩) (c1.ne hb (by decide)) _, c2⟩
  · obtain ⟨y, z, c1⟩ := h.nB j hj
    exact ⟨y, z, c1.other (p := ⟨b, i, none⟩) (c1.ne hb (by decide)) _⟩
  · obtain ⟨M, m1, m2, m3, m4⟩ := h.mp
    exact ⟨M, m1.fr (((Fr.refl (fun k => k = b) w).setCell (p := ⟨b, i, none⟩) (fun _ => rfl) _)) (m1.ne hb), m2, m3, fun p hp => (m4 p hp).set b i x⟩
/-- One integer written into a node. -/
theorem setN (h : LN w Pd sb n to c L) {k i : Nat} (hk : k < n) (hi : i < 2) (x : Int) : LN (w.setCell ⟨L.nd k, i, none⟩ (.int .i64 x)) Pd sb n to c L := by
  obtain ⟨f0, l0, hb⟩ := h.nB k hk
  refine ⟨h.n8, h.sB.other (p := ⟨L.nd k, i, none⟩) (h.sB.ne hb (by decide)) _, ?_, fun j hj => (h.cR j hj).set _ i x, ?_, fun j hj => ?_, fun j hj => (h.hR j hj).set _ i x, ?_, h.pd⟩
  · obtain ⟨cs, c1, c2⟩ := h.cT
    exact ⟨cs, c1.other (p := ⟨L.nd k, i, none⟩) (c1.ne hb (by decide)) _, c2⟩
  · obtain ⟨cs, c1, c2⟩ := h.nT
    exact ⟨cs, c1.other (p := ⟨L.nd k, i, none⟩) (c1.ne hb (by decide)) _, c2⟩
  · obtain ⟨y, z, c1⟩ := h.nB j hj
    by_cases e : L.nd j = L.nd k
    · have c2 := c1.set i (.int .i64 x)
      rw [e] at c2 ⊢
      match i, hi with
      | 0, _ => exact ⟨x, z, c2⟩
      | 1, _ => exact ⟨y, x, c2⟩
    · exact ⟨y, z, c1.other (p := ⟨L.nd k, i, none⟩) e _⟩
  · obtain ⟨M, m1, m2, m3, m4⟩ := h.mp
    exact ⟨M, m1.fr (((Fr.refl (fun k' => k' = L.nd k) w).setCell (p := ⟨L.nd k, i, none⟩) (fun _ => rfl) _)) (m1.ne hb), m2, m3, fun p hp => (m4 p hp).set _ i x⟩
theorem cells (h : LN w Pd sb n to c L) : w.cell? ⟨sb, 0, none⟩ = some (.int .i64 to) ∧ w.cell? ⟨sb, 1, none⟩ = some (.slice (some ⟨L.cb, 0, none⟩) n L.cc) ∧ w.cell? ⟨sb, 2, none⟩ = some (.slice (some ⟨L.nb, 0, none⟩) n L.nc) ∧ w.cell? ⟨sb, 3, none⟩ = some (.map (some L.mb)) :=
  ⟨h.sB.cell 0, h.sB.cell 1, h.sB.cell 2, h.sB.cell 3⟩
theorem rowC (h : LN w Pd sb n to c L) {i : Nat} (hi : i < n) : w.cell? ⟨L.cb, i, none⟩ = some (.slice (some ⟨L.cr i, 0, none⟩) n (L.ccr i)) ∧ (∀ k, k < n → w.cell? ⟨L.cr i, k, none⟩ = some (.int .i64 (iv w (L.cr i) k))) ∧ ∀ k, w.frozen? ⟨L.cr i, k, none⟩ = false := by
  obtain ⟨cs, c1, c2⟩ := h.cT
  exact ⟨(c1.cell i).trans (c2 i hi), fun k hk => (h.cR i hi).cell (by omega) (by omega), (h.cR i hi).frozen⟩
theorem rowN (h : LN w Pd sb n to c L) {i : Nat} (hi : i < n) : w.cell? ⟨L.nb, i, none⟩ = some (.pointer (some ⟨L.nd i, 0, none⟩)) ∧ w.cell? ⟨L.nd i, 0, none⟩ = some (.int .i64 (iv w (L.nd i) 0)) ∧ w.cell? ⟨L.nd i, 1, none⟩ = some (.int .i64 (iv w (L.nd i) 1)) ∧ w.cell? ⟨L.nd i, 2, none⟩ = some (.slice (some ⟨L.hr i, 0, none⟩) n (L.hc i)) ∧ (∀ k, w.frozen? ⟨L.nd i, k, none⟩ = false) ∧ (∀ k, k < n → w.cell? ⟨L.hr i, k, none⟩ = some (.int .i64 (iv w (L.hr i) k))) ∧ ∀ k, w.frozen? ⟨L.hr i, k, none⟩ = false := by
  obtain ⟨cs, c1, c2⟩ := h.nT
  obtain ⟨f, l, c3⟩ := h.nB i hi
  have d0 : w.cell? ⟨L.nd i, 0, none⟩ = some (.int .i64 f) := c3.cell 0
  have d1 : w.cell? ⟨L.nd i, 1, none⟩ = some (.int .i64 l) := c3.cell 1
  refine ⟨(c1.cell i).trans (c2 i hi), ?_, ?_, c3.cell 2, c3.frozen, fun k hk => (h.hR i hi).cell (by omega) (by omega), (h.hR i hi).frozen⟩
  · rw [iv_of d0]; exact d0
  · rw [iv_of d1]; exact d1
end LN

/-- Are both nodes, and neighbours? -/
def lnear (w : World) (L : FL) (n : Nat) (a b : Int) : Option Int :=
  if (a < 0 ∨ (n : Int) ≤ a) ∨ b < 0 ∨ (n : Int) ≤ b then some 1 else if a = b ∨ iv w (L.cr a.toNat) b.toNat = 16 then some 2 else none
def lone (n : Nat) (a : Int) : Option Int := if a < 0 ∨ (n : Int) ≤ a then some 1 else none
theorem lnear_none {w : World} {L : FL} {n : Nat} {a b : Int} (h : lnear w L n a b = none) : (0 ≤ a ∧ a < n) ∧ (0 ≤ b ∧ b < n) ∧ a ≠ b := by
  unfold lnear at h
  split at h
  · cases h
  · split at h
    · cases h
    · omega
/-- Is k a next one of i? -/
def nxP (w : World) (L : FL) (n : Nat) (to : Int) (i k : Nat) : Bool := (decide ((i : Int) ≠ to) && (lnear w L n i k).isNone) && decide (iv w (L.hr i) k < iv w (L.nd i) 1)
def nextsE (w : World) (L : FL) (n : Nat) (to : Int) (i m : Nat) : List Int := ((List.range m).filter (nxP w L n to i)).map (fun k : Nat => (k : Int))
theorem nextsE_succ (w : World) (L : FL) (n : Nat) (to : Int) (i m : Nat) : nextsE w L n to i (m + 1) = nextsE w L n to i m ++ if nxP w L n to i m then [(m : Int)] else [] := by
  unfold nextsE
  rw [List.range_succ, List.filter_append, List.map_append]
  congr 1
  by_cases h : nxP w L n to i m = true
  · simp [h]
  · simp [h]
theorem nextsE_mem {w : World} {L : FL} {n : Nat} {to : Int} {i m : Nat} : ∀ x ∈ nextsE w L n to i m, ∃ k : Nat, x = k ∧ k < m := by
  intro x hx
  obtain ⟨k, hk, rfl⟩ := List.mem_map.1 hx
  exact ⟨k, rfl, List.mem_range.1 (List.mem_filter.1 hk).1⟩
theorem nextsE_len {w : World} {L : FL} {n : Nat} {to : Int} {i m : Nat} : (nextsE w L n to i m).length ≤ m := by
  unfold nextsE
  rw [List.length_map]
  exact Nat.le_trans (List.length_filter_le _ _) (by simp)
/-- The next ones are told by the net's own cells. -/
theorem nextsE_fr {w w' : World} {Pd : Nat → Prop} {sb n c : Nat} {to : Int} {L : FL} (h : LN w Pd sb n to c L) (f : Fr (fun _ => False) w w') {i : Nat} (hi : i < n) : nextsE w' L n to i n = nextsE w L n to i n := by
  obtain ⟨-, -, -, -, l5⟩ := h.lts
  obtain ⟨l1, l2, l3⟩ := l5 i hi
  unfold nextsE
  congr 1
  refine List.filter_congr fun k hk => ?_
  have hk' := List.mem_range.1 hk
  unfold nxP lnear
  rw [Int.toNat_natCast, Int.toNat_natCast, iv_fr f l1 (fun h => h), iv_fr f l2 (fun h => h), iv_fr f l3 (fun h => h)]
end Go.Proofs.Ytbmeeglehbaggaa
