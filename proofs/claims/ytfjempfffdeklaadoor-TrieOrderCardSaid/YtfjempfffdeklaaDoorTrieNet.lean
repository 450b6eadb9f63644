import Derived.Test.YtfjempfffdeklaaDoorTrieMath
namespace Go.Proofs.YtfjempfffdeklaaDoor
open Go.RowKit

def ptrO : Option Nat → Value
  | none => .pointer none
  | some b => .pointer (some ⟨b, 0, none⟩)
/-- A node's cells. -/
def nodeC (N : Int → Nat → Option Nat) (C : List Nt) (V : Nt → Int) (a : Int) (k : Nat) : List Value :=
  [.bool (decide ((⟨a, (k : Int)⟩ : Nt) ∈ C)), .int .i64 (V ⟨a, (k : Int)⟩), ptrO (N a (k + 1)), ptrO (N (a + 2 ^ (31 - k)) (k + 1))]
def nodeT (bt b : Nat) : TypeId := if b = bt then 184 else 182
def nodeX (bt : Nat) (C : List Nt) (b : Nat) : List Value := if b = bt then [.int .i64 (C.length : Nat)] else []
/-- A table of nets: N: which block each node has; C: the nets that were put; V: their numbers. -/
structure IsTrie (H : Array Obj) (base bt : Nat) (N : Int → Nat → Option Nat) (C : List Nt) (V : Nt → Int) : Prop where
  top : N 0 0 = some bt
  blk : ∀ a k b, N a k = some b → Blk H b (nodeT bt b) (nodeC N C V a k ++ nodeX bt C b)
  ok : ∀ a k b, N a k = some b → k ≤ 32 ∧ (0 ≤ a ∧ a < 4294967296) ∧ cutA a k = a ∧ base ≤ b
  inj : ∀ a k a' k' b, N a k = some b → N a' k' = some b → a = a' ∧ k = k'
  par : ∀ a k b, N a (k + 1) = some b → ∃ b', N (cutA a k) k = some b'
  mem : ∀ x ∈ C, NtOk x ∧ ∃ b, N x.a x.n.toNat = some b
  srt : NSorted C
  len : C.length ≤ 64
/-- The blocks of a table. -/
def Tof (N : Int → Nat → Option Nat) (k : Nat) : Prop := ∃ a j, N a j = some k
namespace IsTrie
variable {w w' : World} {base bt : Nat} {N : Int → Nat → Option Nat} {C : List Nt} {V : Nt → Int}
theorem lt (h : IsTrie w.heap base bt N C V) : ∀ k, Tof N k → k < w.heap.size := fun k ⟨a, j, hk⟩ => (h.blk a j k hk).lt
theorem fr {S : Nat → Prop} (h : IsTrie w.heap base bt N C V) (f : Fr S w w') (hs : ∀ k, Tof N k → ¬ S k) : IsTrie w'.heap base bt N C V :=
  ⟨h.top, fun a k b hb => (h.blk a k b hb).fr f (hs b ⟨a, k, hb⟩), h.ok, h.inj, h.par, h.mem, h.srt, h.len⟩
theorem fr0 (h : IsTrie w.heap base bt N C V) (f : Fr (fun _ => False) w w') : IsTrie w'.heap base bt N C V := h.fr f (fun _ _ h => h)
theorem cells (h : IsTrie w.heap base bt N C V) {a : Int} {k b : Nat} (hb : N a k = some b) :
    w.cell? ⟨b, 0, none⟩ = some (.bool (decide ((⟨a, (k : Int)⟩ : Nt) ∈ C))) ∧ w.cell? ⟨b, 1, none⟩ = some (.int .i64 (V ⟨a, (k : Int)⟩)) ∧ w.cell? ⟨b, 2, none⟩ = some (ptrO (N a (k + 1))) ∧ w.cell? ⟨b, 3, none⟩ = some (ptrO (N (a + 2 ^ (31 - k)) (k + 1))) ∧ (∀ i, w.frozen? ⟨b, i, none⟩ = false) ∧ b < w.heap.size :=
  ⟨(h.blk a k b hb).cell 0, (h.blk a k b hb).cell 1, (h.blk a k b hb).cell 2, (h.blk a k b hb).cell 3, (h.blk a k b hb).frozen, (h.blk a k b hb).lt⟩
theorem count (h : IsTrie w.heap base bt N C V) : w.cell? ⟨bt, 4, none⟩ = some (.int .i64 (C.length : Nat)) := by
  have := (h.blk 0 0 bt h.top).cell 4
  simpa [nodeC, nodeX] using this
/-- Above a node there is one. -/
theorem up (h : IsTrie w.heap base bt N C V) {a : Int} : ∀ {k b : Nat}, N a k = some b → ∀ j, j ≤ k → ∃ b', N (cutA a j) j = some b' := by
  intro k
  induction k generalizing a with
  | zero =>
    intro b hb j hj
    obtain rfl : j = 0 := by omega
    rw [(h.ok a 0 b hb).2.2.1]
    exact ⟨b, hb⟩
  | succ k ih =>
    intro b hb j hj
    by_cases e : j = k + 1
    · subst e; rw [(h.ok a _ b hb).2.2.1]; exact ⟨b, hb⟩
    · obtain ⟨b', hb'⟩ := h.par a k b hb
      obtain ⟨b2, h2⟩ := ih hb' j (by omega)
      rw [cutA_cut a (by omega) (by have := (h.ok a _ b hb).1; omega)] at h2
      exact ⟨b2, h2⟩
theorem none_up (h : IsTrie w.heap base bt N C V) {a : Int} {j k : Nat} (hj : N (cutA a j) j = none) (hjk : j ≤ k) : N (cutA a k) k = none := by
  cases hk : N (cutA a k) k with
  | none => rfl
  | some b =>
    obtain ⟨b', hb'⟩ := h.up hk j hjk
    rw [cutA_cut a hjk (h.ok _ _ b hk).1, hj] at hb'
    cases hb'
theorem no_subs (h : IsTrie w.heap base bt N C V) {a : Int} {k : Nat} (hk : N a k = none) : subs C a k = [] := by
  refine subs_none (fun x hx ⟨g1, g2⟩ => ?_)
  obtain ⟨-, b, hb⟩ := h.mem x hx
  obtain ⟨b', hb'⟩ := h.up hb k g1
  rw [g2, hk] at hb'
  cases hb'
end IsTrie

theorem ntk_inj {a a' : Int} {k k' : Nat} (h : (⟨a, (k : Int)⟩ : Nt) = ⟨a', (k' : Int)⟩) : a = a' ∧ k = k' := by
  have h1 : a = a' := congrArg Nt.a h
  have h2 : (k : Int) = (k' : Int) := congrArg Nt.n h
  exact ⟨h1, by omega⟩
/-- The number of a net turned. -/
def updV (V : Nt → Int) (x : Nt) (v : Int) : Nt → Int := fun y => if y = x then v else V y
theorem updV_at (V : Nt → Int) (x : Nt) (v : Int) : updV V x v x = v := if_pos rfl
theorem updV_ne (V : Nt → Int) {x y : Nt} (v : Int) (h : y ≠ x) : updV V x v y = V y := if_neg h
def updN (N : Int → Nat → Option Nat) (a : Int) (k g : Nat) : Int → Nat → Option Nat := fun a' k' => if a' = a ∧ k' = k then some g else N a' k'
theorem updN_at (N : Int → Nat → Option Nat) (a : Int) (k g : Nat) : updN N a k g a k = some g := if_pos ⟨rfl, rfl⟩
theorem updN_ne (N : Int → Nat → Option Nat) {a a' : Int} {k k' g : Nat} (h : ¬ (a' = a ∧ k' = k)) : updN N a k g a' k' = N a' k' := if_neg h

namespace IsTrie
variable {w w' : World} {base bt : Nat} {N : Int → Nat → Option Nat} {C : List Nt} {V : Nt → Int}
/-- A net's number is another one. -/
theorem setV (h : IsTrie w.heap base bt N C V) {a : Int} {k b : Nat} (hb : N a k = some b) (v : Int) : IsTrie (w.setCell ⟨b, 1, none⟩ (.int .i64 v)).heap base bt N C (updV V ⟨a, k⟩ v) := by
  refine ⟨h.top, fun a' k' b' hb' => ?_, h.ok, h.inj, h.par, h.mem, h.srt, h.len⟩
  have hB := h.blk a' k' b' hb'
  by_cases e : b' = b
  · subst e
    obtain ⟨rfl, rfl⟩ := h.inj _ _ _ _ _ hb hb'
    refine (hB.set 1 (.int .i64 v)).eq ?_
    simp [nodeC, updV_at]
  · have hne : ¬ ((⟨a', (k' : Int)⟩ : Nt) = ⟨a, (k : Int)⟩) := fun hh => by
      obtain ⟨rfl, rfl⟩ := ntk_inj hh
      rw [hb] at hb'; cases hb'; exact e rfl
    refine (hB.other (p := ⟨b, 1, none⟩) e (.int .i64 v)).eq ?_
    simp [nodeC, updV_ne V v hne]
/-- A node's kid. -/
def kid (a : Int) (k : Nat) (c : Nat) : Int := if c = 0 then a else a + 2 ^ (31 - k)
theorem kid_cut {a : Int} {k : Nat} (ha : cutA a k = a) (hk : k < 32) (c : Nat) : cutA (kid a k c) (k + 1) = kid a k c ∧ cutA (kid a k c) k = a := by
  unfold kid
  split
  · exact ⟨cut_low ha hk, ha⟩
  · exact cut_high ha hk
/-- A new node below. -/
theorem grow (h : IsTrie w.heap base bt N C V) {a : Int} {k b c : Nat} (hb : N a k = some b) (hk : k < 32) (hc : c < 2) (hn : N (kid a k c) (k + 1) = none) (ha2 : 0 ≤ kid a k c ∧ kid a k c < 4294967296) (hbase : base ≤ w.heap.size) :
    IsTrie ((w.setCell ⟨b, 2 + c, none⟩ (.pointer (some ⟨w.heap.size, 0, none⟩))).alloc (.cells #[.bool false, .int .i64 0, .pointer none, .pointer none] 182)).heap base bt (updN N (kid a k c) (k + 1) w.heap.size) C (updV V ⟨kid a k c, ((k + 1 : Nat) : Int)⟩ 0) ∧ updN N (kid a k c) (k + 1) w.heap.size (kid a k c) (k + 1) = some w.heap.size := by
  have hA := (h.ok a k b hb).2.2.1
  obtain ⟨hk1, hk2⟩ := kid_cut hA hk c
  have hlt : ∀ a' k' b', N a' k' = some b' → b' < w.heap.size := fun a' k' b' hb' => (h.blk a' k' b' hb').lt
  have hnew : ∀ a' k' b', N a' k' = some b' → ¬ (a' = kid a k c ∧ k' = k + 1) := fun a' k' b' hb' ⟨e1, e2⟩ => by rw [e1, e2, hn] at hb'; cases hb'
  have hbtl := hlt 0 0 bt h.top
  refine ⟨⟨by rw [updN_ne N (by simp)]; exact h.top, fun a' k' b' hb' => ?_, fun a' k' b' hb' => ?_, fun a1 k1 a2 k2 b' h1 h2 => ?_, fun a' k' b' hb' => ?_, fun x hx => ?_, h.srt, h.len⟩, updN_at _ _ _ _⟩
  · by_cases e : a' = kid a k c ∧ k' = k + 1
    · obtain ⟨rfl, rfl⟩ := e
      rw [updN_at] at hb'
      cases hb'
      have hne : w.heap.size ≠ bt := by omega
      have hm := Blk.made (w.setCell ⟨b, 2 + c, none⟩ (.pointer (some ⟨w.heap.size, 0, none⟩))) 182 [.bool false, .int .i64 0, .pointer none, .pointer none]
      rw [World.size_setCell] at hm
      unfold nodeT nodeX
      rw [if_neg hne, if_neg hne]
      refine hm.eq ?_
      have g0 : ¬ (⟨kid a k c, ((k + 1 : Nat) : Int)⟩ : Nt) ∈ C := fun hm => by
        obtain ⟨-, b2, hb2⟩ := h.mem _ hm
        simp only at hb2
        rw [show (((k + 1 : Nat) : Int)).toNat = k + 1 by omega, hn] at hb2
        cases hb2
      have gk : ∀ z, cutA z (k + 1) = kid a k c → N z (k + 1 + 1) = none := fun z hz => by
        cases hq : N z (k + 1 + 1) with
        | none => rfl
        | some q =>
          obtain ⟨q2, hq2⟩ := h.par z (k + 1) q hq
          rw [hz, hn] at hq2; cases hq2
      have g1 : N (kid a k c) (k + 1 + 1) = none := gk _ hk1
      have g2 : N (kid a k c + 2 ^ (31 - (k + 1))) (k + 1 + 1) = none := by
        cases hq : N (kid a k c + 2 ^ (31 - (k + 1))) (k + 1 + 1) with
        | none => rfl
        | some q =>
          have hq3 := (h.ok _ _ q hq).1
          rw [gk _ (cut_high hk1 (by omega)).2] at hq
          cases hq
      unfold nodeC
      rw [decide_eq_false g0, updV_at, updN_ne N (by simp), updN_ne N (by simp), g1, g2]
      rfl
    · rw [updN_ne N e] at hb'
      have hB := h.blk a' k' b' hb'
      have hV : updV V ⟨kid a k c, ((k + 1 : Nat) : Int)⟩ 0 ⟨a', (k' : Int)⟩ = V ⟨a', (k' : Int)⟩ := updV_ne V 0 (fun hh => by
        obtain ⟨q1, q2⟩ := ntk_inj hh
        exact e ⟨q1, q2⟩)
      by_cases eb : b' = b
      · subst eb
        obtain ⟨rfl, rfl⟩ := h.inj _ _ _ _ _ hb hb'
        refine ((hB.set (2 + c) (.pointer (some ⟨w.heap.size, 0, none⟩))).alloc _).eq ?_
        have hc2 : c = 0 ∨ c = 1 := by omega
        have hp := pow31_pos k
        rcases hc2 with rfl | rfl
        · unfold nodeC
          rw [hV, show kid a k 0 = a from rfl, updN_at, updN_ne N (by rintro ⟨q, -⟩; omega)]
          rfl
        · unfold nodeC
          rw [hV, show kid a k 1 = a + 2 ^ (31 - k) from rfl, updN_at, updN_ne N (by rintro ⟨q, -⟩; omega)]
          rfl
      · refine ((hB.other (p := ⟨b, 2 + c, none⟩) eb _).alloc _).eq ?_
        have hA' := (h.ok a' k' b' hb').2.2.1
        have hpar : ∀ c', kid a' k' c' = kid a k c → k' + 1 = k + 1 → False := fun c' q1 q2 => by
          obtain rfl : k' = k := by omega
          have q3 := (kid_cut hA' hk c').2
          rw [q1, hk2] at q3
          rw [← q3, hb] at hb'
          cases hb'
          exact eb rfl
        unfold nodeC
        rw [hV, updN_ne N (a' := a') (k' := k' + 1) (fun ⟨q1, q2⟩ => hpar 0 q1 q2), updN_ne N (a' := a' + 2 ^ (31 - k')) (k' := k' + 1) (fun ⟨q1, q2⟩ => hpar 1 q1 q2)]
  · by_cases e : a' = kid a k c ∧ k' = k + 1
    · obtain ⟨rfl, rfl⟩ := e
      rw [updN_at] at hb'
      cases hb'
      exact ⟨by omega, ha2, hk1, hbase⟩
    · rw [updN_ne N e] at hb'; exact h.ok a' k' b' hb'
  · by_cases e1 : a1 = kid a k c ∧ k1 = k + 1
    · by_cases e2 : a2 = kid a k c ∧ k2 = k + 1
      · exact ⟨e1.1.trans e2.1.symm, e1.2.trans e2.2.symm⟩
      · rw [e1.1, e1.2, updN_at] at h1
        cases h1
        rw [updN_ne N e2] at h2
        have := hlt _ _ _ h2
        omega
    · rw [updN_ne N e1] at h1
      by_cases e2 : a2 = kid a k c ∧ k2 = k + 1
      · rw [e2.1, e2.2, updN_at] at h2
        cases h2
        have := hlt _ _ _ h1
        omega
      · rw [updN_ne N e2] at h2; exact h.inj _ _ _ _ _ h1 h2
  · by_cases e : a' = kid a k c ∧ k' + 1 = k + 1
    · obtain ⟨rfl, e2⟩ := e
      obtain rfl : k' = k := by omega
      rw [hk2, updN_ne N (by rintro ⟨-, q⟩; omega)]
      exact ⟨b, hb⟩
    · rw [updN_ne N e] at hb'
      obtain ⟨b2, hb2⟩ := h.par a' k' b' hb'
      rw [updN_ne N (hnew _ _ _ hb2)]
      exact ⟨b2, hb2⟩
  · obtain ⟨h1, b2, hb2⟩ := h.mem x hx
    exact ⟨h1, b2, by rw [updN_ne N (hnew _ _ _ hb2)]; exact hb2⟩
/-- A net is put that was not there. -/
theorem put (h : IsTrie w.heap base bt N C V) {a : Int} {k b : Nat} (hb : N a k = some b) (hx : ¬ (⟨a, (k : Int)⟩ : Nt) ∈ C) (hl : C.length < 64) (v : Int) :
    IsTrie (((w.setCell ⟨b, 0, none⟩ (.bool true)).setCell ⟨b, 1, none⟩ (.int .i64 v)).setCell ⟨bt, 4, none⟩ (.int .i64 ((C.length + 1 : Nat) : Int))).heap base bt N (nIns C ⟨a, k⟩) (updV V ⟨a, k⟩ v) := by
  obtain ⟨o1, o2, o3, o4⟩ := h.ok a k b hb
  have hmem : ∀ y : Nt, y ∈ nIns C ⟨a, (k : Int)⟩ ↔ y = ⟨a, (k : Int)⟩ ∨ y ∈ C := fun y => nIns_mem
  refine ⟨h.top, fun a' k' b' hb' => ?_, h.ok, h.inj, h.par, fun x hxm => ?_, nIns_sorted h.srt (fun hh => hx ((nHas_iff h.srt _).1 hh)), by rw [nIns_len]; omega⟩
  · have hB := h.blk a' k' b' hb'
    by_cases e : b' = b
    · subst e
      obtain ⟨rfl, rfl⟩ := h.inj _ _ _ _ _ hb hb'
      have hB2 := (hB.set 0 (.bool true)).set 1 (.int .i64 v)
      have g0 : decide ((⟨a, (k : Int)⟩ : Nt) ∈ nIns C ⟨a, (k : Int)⟩) = true := decide_eq_true ((hmem _).2 (.inl rfl))
      by_cases et : b' = bt
      · subst et
        refine (hB2.set 4 _).eq ?_
        unfold nodeX
        rw [if_pos rfl, if_pos rfl]
        unfold nodeC
        rw [g0, updV_at, nIns_len]
        rfl
      · refine (hB2.other (p := ⟨bt, 4, none⟩) et _).eq ?_
        unfold nodeX
        rw [if_neg et, if_neg et]
        unfold nodeC
        rw [g0, updV_at]
        rfl
    · have hne : ¬ ((⟨a', (k' : Int)⟩ : Nt) = ⟨a, (k : Int)⟩) := fun hh => by
        obtain ⟨rfl, rfl⟩ := ntk_inj hh
        rw [hb] at hb'; cases hb'; exact e rfl
      have g0 : decide ((⟨a', (k' : Int)⟩ : Nt) ∈ nIns C ⟨a, (k : Int)⟩) = decide ((⟨a', (k' : Int)⟩ : Nt) ∈ C) := by
        rw [decide_eq_decide, hmem]
        exact ⟨fun hh => hh.resolve_left hne, .inr⟩
      have hB2 := (hB.other (p := ⟨b, 0, none⟩) e (.bool true)).other (p := ⟨b, 1, none⟩) e (.int .i64 v)
      by_cases et : b' = bt
      · subst et
        refine (hB2.set 4 _).eq ?_
        unfold nodeX
        rw [if_pos rfl, if_pos rfl]
        unfold nodeC
        rw [g0, updV_ne V v hne, nIns_len]
        rfl
      · refine (hB2.other (p := ⟨bt, 4, none⟩) et _).eq ?_
        unfold nodeX
        rw [if_neg et, if_neg et]
        unfold nodeC
        rw [g0, updV_ne V v hne]
  · rcases (hmem x).1 hxm with rfl | hxm
    · exact ⟨⟨by simp only; omega, by simp only; omega, o2.1, o2.2, by simpa using o3⟩, b, by simpa using hb⟩
    · exact h.mem x hxm
end IsTrie
end Go.Proofs.YtfjempfffdeklaaDoor
