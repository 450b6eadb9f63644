import Derived.Test.YtfjempfffdeklaaDoorLineRep
import Derived.Test.YtfjempfffdeklaaDoorCTab
namespace Go.Proofs.YtfjempfffdeklaaDoor
open Go.RowKit

/-- What a node thinks, as a list. -/
def rowTh (R : Nat → Nat → Th) (n i : Nat) : List Th := (List.range n).map (R i)
theorem rowTh_len (R : Nat → Nat → Th) (n i : Nat) : (rowTh R n i).length = n := by simp [rowTh]
theorem rowTh_nth (R : Nat → Nat → Th) {n i o : Nat} (h : o < n) : nth (rowTh R n i) o = R i o := by simp [rowTh, nth, List.getD, h]
theorem rowTh_congr {R S : Nat → Nat → Th} {n i : Nat} (h : ∀ o, o < n → R i o = S i o) : rowTh R n i = rowTh S n i := List.map_congr_left (fun o ho => h o (List.mem_range.1 ho))
/-- k rows of n thoughts each. -/
structure TMat (H : Array Obj) (n k : Nat) (R : Nat → Nat → Th) (a : Option Addr) (c : Nat) (ob : Option Nat) (G C : Nat → Nat) : Prop where
  top : Ownd H 151 1 a k c ((List.range k).map fun i => .slice (some ⟨G i, 0, none⟩) n (C i)) ob
  row : ∀ i, i < k → Ownd H 154 2 (some ⟨G i, 0, none⟩) n (C i) ((rowTh R n i).flatMap Th.cells) (some (G i))
  obn : ∀ g, ob = some g → ∀ i, i < k → G i ≠ g
namespace TMat
variable {w w' : World} {n k : Nat} {R : Nat → Nat → Th} {a : Option Addr} {c : Nat} {ob : Option Nat} {G C : Nat → Nat} {S : Nat → Prop}
theorem nil (H : Array Obj) (n : Nat) (R : Nat → Nat → Th) (G C : Nat → Nat) : TMat H n 0 R none 0 none G C := ⟨Ownd.nil _ _ _, (fun _ h => absurd h (Nat.not_lt_zero _)), (fun _ h => nomatch h)⟩
theorem fr (h : TMat w.heap n k R a c ob G C) (f : Fr S w w') (h1 : ∀ g, ob = some g → ¬ S g) (h2 : ∀ i, i < k → ¬ S (G i)) : TMat w'.heap n k R a c ob G C :=
  ⟨h.top.fr f h1, fun i hi => (h.row i hi).fr f (fun g hg => by cases hg; exact h2 i hi), h.obn⟩
theorem fr0 (h : TMat w.heap n k R a c ob G C) (f : Fr (fun _ => False) w w') : TMat w'.heap n k R a c ob G C := h.fr f (fun _ _ h => h) (fun _ _ h => h)
theorem push (h : TMat w.heap n k R a c ob G C) {g cr : Nat} (hr : Ownd w.heap 154 2 (some ⟨g, 0, none⟩) n cr ((rowTh R n k).flatMap Th.cells) (some g)) (hg : ob ≠ some g)
    {a' : Option Addr} {c' : Nat} {ob' : Option Nat} (h1 : Ownd w'.heap 151 1 a' (k + 1) c' ((List.range k).map (fun i => .slice (some ⟨G i, 0, none⟩) n (C i)) ++ [.slice (some ⟨g, 0, none⟩) n cr]) ob') (h2 : Fr (fun q => ob = some q) w w') (h3 : ob' = ob ∨ ∃ g', ob' = some g' ∧ w.heap.size ≤ g') :
    TMat w'.heap n (k + 1) R a' c' ob' (fun i => if i < k then G i else g) (fun i => if i < k then C i else cr) := by
  refine ⟨?_, fun i hi => ?_, fun q hq i hi => ?_⟩
  · have e : (List.range (k + 1)).map (fun i => Value.slice (some ⟨if i < k then G i else g, 0, none⟩) n (if i < k then C i else cr)) = (List.range k).map (fun i => .slice (some ⟨G i, 0, none⟩) n (C i)) ++ [.slice (some ⟨g, 0, none⟩) n cr] := by
      rw [List.range_succ, List.map_append]
      congr 1
      · apply List.map_congr_left
        intro i hi
        have hi' := List.mem_range.1 hi
        rw [if_pos hi', if_pos hi']
      · simp
    rw [e]; exact h1
  · by_cases hk : i < k
    · simp only [if_pos hk]
      exact (h.row i hk).fr h2 (fun q hq hs => by cases hq; exact h.obn _ hs i hk rfl)
    · obtain rfl : i = k := by omega
      simp only [if_neg hk]
      exact hr.fr h2 (fun q hq hs => by cases hq; exact hg hs)
  · have hlt : (if i < k then G i else g) < w.heap.size := by
      by_cases hk : i < k
      · rw [if_pos hk]; exact (h.row i hk).lt _ rfl
      · rw [if_neg hk]; exact hr.lt _ rfl
    rcases h3 with h3 | ⟨g2, h3, h4⟩
    · rw [h3] at hq
      by_cases hk : i < k
      · simp only [if_pos hk]; exact h.obn q hq i hk
      · simp only [if_neg hk]; intro e; exact hg (by rw [hq, e])
    · rw [h3] at hq; cases hq; omega
theorem congr {R' : Nat → Nat → Th} (h : TMat w.heap n k R a c ob G C) (hR : ∀ i o, i < k → o < n → R i o = R' i o) : TMat w.heap n k R' a c ob G C :=
  ⟨h.top, fun i hi => by rw [← rowTh_congr (R := R) (S := R') (fun o ho => hR i o hi ho)]; exact h.row i hi, h.obn⟩
/-- A thought in a cell. -/
theorem cells (h : TMat w.heap n k R a c ob G C) {i o : Nat} (hi : i < k) (ho : o < n) : ∃ g, a = some ⟨g, 0, none⟩ ∧ g < w.heap.size ∧ w.cell? ⟨g, i, none⟩ = some (.slice (some ⟨G i, 0, none⟩) n (C i)) ∧ G i < w.heap.size ∧ w.cell? ⟨G i, o * 2, none⟩ = some (.int .i64 (R i o).f) ∧ w.cell? ⟨G i, o * 2 + 1, none⟩ = some (.int .i64 (R i o).x) := by
  obtain ⟨g, h1, -, h3, h4, -⟩ := h.top.pos (by omega)
  obtain ⟨g', k1, -, k3, k4, -⟩ := (h.row i hi).pos (by omega)
  cases k1
  have c0 := (k4 (o * 2 + 0) (by omega)).trans (flat_get Th.cells 2 Th.cells_len (rowTh R n i) o 0 (by rw [rowTh_len]; exact ho) (by omega))
  have c1 := (k4 (o * 2 + 1) (by omega)).trans (flat_get Th.cells 2 Th.cells_len (rowTh R n i) o 1 (by rw [rowTh_len]; exact ho) (by omega))
  rw [rowTh_nth R ho] at c0 c1
  refine ⟨g, h1, h3, ?_, k3, by simpa using c0, by simpa using c1⟩
  rw [h4 i (by omega)]
  simp [hi]
end TMat

/-- A line of nodes; T: its blocks. -/
structure IsLine (H : Array Obj) (bs n : Nat) (l : List Lk) (p : Bool) (R : Nat → Nat → Th) (T : Nat → Prop) (al : Option Addr) (cl : Nat) (ar : Option Addr) (cr : Nat) (ob : Option Nat) (G C : Nat → Nat) : Prop where
  blk : Blk H bs 150 [.slice al l.length cl, .bool p, .slice ar n cr]
  lk : Links H al l
  mat : TMat H n n R ar cr ob G C
  ok : graphErr n l = none
  tb : T bs
  tl : ∀ b off, al = some ⟨b, off, none⟩ → T b
  tob : ∀ g, ob = some g → T g
  tg : ∀ i, i < n → T (G i)
  lt : ∀ k, T k → k < H.size
  rb : ∀ i o, i < n → o < n → 0 ≤ (R i o).f ∧ (R i o).f ≤ 16
  nl : ∀ b off, al = some ⟨b, off, none⟩ → b ≠ bs
namespace IsLine
variable {w w' : World} {bs n : Nat} {l : List Lk} {p : Bool} {R : Nat → Nat → Th} {T : Nat → Prop} {al : Option Addr} {cl : Nat} {ar : Option Addr} {cr : Nat} {ob : Option Nat} {G C : Nat → Nat} {S : Nat → Prop}
theorem fr (h : IsLine w.heap bs n l p R T al cl ar cr ob G C) (f : Fr S w w') (hs : ∀ k, T k → ¬ S k) : IsLine w'.heap bs n l p R T al cl ar cr ob G C :=
  ⟨h.blk.fr f (hs _ h.tb), h.lk.fr f (fun b off e => hs b (h.tl b off e)), h.mat.fr f (fun g hg => hs g (h.tob g hg)) (fun i hi => hs _ (h.tg i hi)), h.ok, h.tb, h.tl, h.tob, h.tg, fun k hk => Nat.lt_of_lt_of_le (h.lt k hk) f.size, h.rb, h.nl⟩
theorem fr0 (h : IsLine w.heap bs n l p R T al cl ar cr ob G C) (f : Fr (fun _ => False) w w') : IsLine w'.heap bs n l p R T al cl ar cr ob G C := h.fr f (fun _ _ h => h)
theorem n8 (h : IsLine w.heap bs n l p R T al cl ar cr ob G C) : 1 ≤ n ∧ n ≤ 8 := by
  have := h.ok
  unfold graphErr at this
  split at this
  · cases this
  · omega
theorem bcells (h : IsLine w.heap bs n l p R T al cl ar cr ob G C) : w.cell? ⟨bs, 0, none⟩ = some (.slice al l.length cl) ∧ w.cell? ⟨bs, 1, none⟩ = some (.bool p) ∧ w.cell? ⟨bs, 2, none⟩ = some (.slice ar n cr) ∧ w.frozen? ⟨bs, 2, none⟩ = false ∧ bs < w.heap.size :=
  ⟨h.blk.cell 0, h.blk.cell 1, h.blk.cell 2, h.blk.frozen 2, h.blk.lt⟩
end IsLine
/-- A line somewhere. -/
def LineAt (w : World) (bs n : Nat) (l : List Lk) (p : Bool) (R : Nat → Nat → Th) (T : Nat → Prop) : Prop := ∃ al cl ar cr ob G C, IsLine w.heap bs n l p R T al cl ar cr ob G C
theorem LineAt.fr {w w' : World} {bs n : Nat} {l : List Lk} {p : Bool} {R : Nat → Nat → Th} {T S : Nat → Prop} (h : LineAt w bs n l p R T) (f : Fr S w w') (hs : ∀ k, T k → ¬ S k) : LineAt w' bs n l p R T := by
  obtain ⟨al, cl, ar, cr, ob, G, C, h⟩ := h; exact ⟨al, cl, ar, cr, ob, G, C, h.fr f hs⟩
theorem LineAt.fr0 {w w' : World} {bs n : Nat} {l : List Lk} {p : Bool} {R : Nat → Nat → Th} {T : Nat → Prop} (h : LineAt w bs n l p R T) (f : Fr (fun _ => False) w w') : LineAt w' bs n l p R T := h.fr f (fun _ _ h => h)
theorem LineAt.lt {w : World} {bs n : Nat} {l : List Lk} {p : Bool} {R : Nat → Nat → Th} {T : Nat → Prop} (h : LineAt w bs n l p R T) : ∀ k, T k → k < w.heap.size := by
  obtain ⟨al, cl, ar, cr, ob, G, C, h⟩ := h; exact h.lt
theorem LineAt.tb {w : World} {bs n : Nat} {l : List Lk} {p : Bool} {R : Nat → Nat → Th} {T : Nat → Prop} (h : LineAt w bs n l p R T) : T bs := by
  obtain ⟨al, cl, ar, cr, ob, G, C, h⟩ := h; exact h.tb
theorem LineAt.rb {w : World} {bs n : Nat} {l : List Lk} {p : Bool} {R : Nat → Nat → Th} {T : Nat → Prop} (h : LineAt w bs n l p R T) : ∀ i o, i < n → o < n → 0 ≤ (R i o).f ∧ (R i o).f ≤ 16 := by
  obtain ⟨al, cl, ar, cr, ob, G, C, h⟩ := h; exact h.rb
theorem LineAt.n8 {w : World} {bs n : Nat} {l : List Lk} {p : Bool} {R : Nat → Nat → Th} {T : Nat → Prop} (h : LineAt w bs n l p R T) : 1 ≤ n ∧ n ≤ 8 := by
  obtain ⟨al, cl, ar, cr, ob, G, C, h⟩ := h; exact h.n8

set_option maxRecDepth 100000 in
set_option maxHeartbeats 1000000 in
theorem ltold_any {w : World} {bs n : Nat} {l : List Lk} {p : Bool} {R : Nat → Nat → Th} {T : Nat → Prop} (k i o : Nat) (h : LineAt w bs n l p R T) (hk : k < n) (ho : o < n) :
    Calls Tryd.prog 122 #[.pointer (some ⟨bs, 0, none⟩), .int .i64 k, .int .i64 i, .int .i64 o] w (RetV w (.int .i64 (toldT p R k i o))) := by
  obtain ⟨al, cl, ar, cr, ob, G, C, h⟩ := h
  have hn := h.n8
  obtain ⟨-, b1, b2, -, bl⟩ := h.bcells
  obtain ⟨g, rfl, hg, d1, hG, d2, d3⟩ := h.mat.cells hk ho
  have HT : Hid (∀ t : Th, t = R k o → toldT p R k i o = if p = true ∧ t.x = i then 16 else t.f) := Lib.hid (fun t ht => by subst ht; rfl)
  obtain ⟨t, ht⟩ : ∃ t, t = R k o := ⟨_, rfl⟩
  rw [← ht] at d2 d3
  have HT := Lib.hid (HT.out t ht)
  clear h ht
  obtain ⟨tf, tx⟩ := t
  simp only at d2 d3
  obtain ⟨v, hv⟩ : ∃ v, v = toldT p R k i o := ⟨_, rfl⟩
  rw [← hv] at HT ⊢
  clear hv
  cases p with
  | false =>
    have HV := Lib.hid (show v = tf by rw [HT.out, if_neg (fun q => by cases q.1)])
    clear HT
    go_enter Tryd.func122, Tryd.ntmps122
    go_wp2
    go_ret
    exact RetV.mk (x := .int .i64 tf) (by rw [HV.out]) rfl ((Fr.refl _ _).alloc _)
  | true =>
    by_cases hx : tx = i
    · have HV := Lib.hid (show v = 16 by rw [HT.out, if_pos ⟨rfl, hx⟩])
      have e1 : (tx == (i : Int)) = true := by simp [hx]
      clear HT hx
      go_enter Tryd.func122, Tryd.ntmps122
      go_wp2
      go_ret
      exact RetV.mk (x := .int .i64 16) (by rw [HV.out]) rfl ((Fr.refl _ _).alloc _)
    · have HV := Lib.hid (show v = tf by rw [HT.out, if_neg (fun q => hx q.2)])
      have e1 : (tx == (i : Int)) = false := by simp [hx]
      clear HT hx
      go_enter Tryd.func122, Tryd.ntmps122
      go_wp2
      go_ret
      exact RetV.mk (x := .int .i64 tf) (by rw [HV.out]) rfl ((Fr.refl _ _).alloc _)
end Go.Proofs.YtfjempfffdeklaaDoor
