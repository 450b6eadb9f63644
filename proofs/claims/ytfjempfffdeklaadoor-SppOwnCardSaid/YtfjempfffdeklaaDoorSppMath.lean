import Derived.Test.YtfjempfffdeklaaDoorArg3
import Derived.Test.YtfjempfffdeklaaDoorErr
namespace Go.Proofs.YtfjempfffdeklaaDoor
open Go.RowKit

/-! Ways that each node likes: what is right, the best, a run. -/
/-- Is it a way from a node to 0? -/
def rightB (n i : Int) (w : List Int) : Bool := decide (w ≠ [] ∧ nth w 0 = i ∧ nth w (w.length - 1) = 0 ∧ ∀ k, k < w.length → 0 ≤ nth w k ∧ nth w k < n ∧ nth w k ∉ w.take k)
theorem rightB_no {n i : Int} {w : List Int} (h : ¬ (w ≠ [] ∧ nth w 0 = i ∧ nth w (w.length - 1) = 0 ∧ ∀ k, k < w.length → 0 ≤ nth w k ∧ nth w k < n ∧ nth w k ∉ w.take k)) : rightB n i w = false := decide_eq_false h
theorem rightB_yes {n i : Int} {w : List Int} (h : w ≠ [] ∧ nth w 0 = i ∧ nth w (w.length - 1) = 0 ∧ ∀ k, k < w.length → 0 ≤ nth w k ∧ nth w k < n ∧ nth w k ∉ w.take k) : rightB n i w = true := decide_eq_true h
/-- What is wrong with what nodes like. -/
def sppErr (V : List (List (List Int))) : Option Int :=
  if V.length < 1 ∨ 8 < V.length then some 1 else if ∀ i, i < V.length → ∀ w ∈ nth V i, rightB V.length i w = true then none else some 3
theorem sppErr_1 {V : List (List (List Int))} (h : V.length < 1 ∨ 8 < V.length) : sppErr V = some 1 := if_pos h
theorem sppErr_0 {V : List (List (List Int))} (h : ¬ (V.length < 1 ∨ 8 < V.length)) (h2 : ∀ i, i < V.length → ∀ w ∈ nth V i, rightB V.length i w = true) : sppErr V = none := by unfold sppErr; rw [if_neg h, if_pos h2]
theorem sppErr_3 {V : List (List (List Int))} (h : ¬ (V.length < 1 ∨ 8 < V.length)) {i : Nat} (hi : i < V.length) {w : List Int} (hw : w ∈ nth V i) (hr : rightB V.length i w = false) : sppErr V = some 3 := by
  unfold sppErr
  rw [if_neg h, if_neg (fun hh => by have := hh i hi w hw; rw [hr] at this; cases this)]
/-- The first one that a node likes and may have; none: no way. -/
def likedB (ws : List (List Int)) (w : List Int) : Bool := decide (1 < w.length ∧ w.drop 1 ∈ ws)
def bestL (l : List (List Int)) (ws : List (List Int)) (i : Nat) : List Int := if i = 0 then [0] else (l.find? (likedB ws)).getD []
/-- Node by node. -/
def runL (V : List (List (List Int))) : List Int → List (List Int) → Option (List (List Int))
  | [], ws => some ws
  | i :: o, ws => if i < 0 ∨ (V.length : Int) ≤ i then none else runL V o (ws.set i.toNat (bestL (nth V i.toNat) ws i.toNat))
def sppRun (V : List (List (List Int))) (order : List Int) : Except Int (List (List Int)) := match sppErr V with
  | some k => .error k
  | none => match runL V order ((List.replicate V.length []).set 0 [0]) with
    | some ws => .ok ws
    | none => .error 1
theorem runL_cons_bad {V : List (List (List Int))} {i : Int} {o : List Int} {ws : List (List Int)} (h : i < 0 ∨ (V.length : Int) ≤ i) : runL V (i :: o) ws = none := if_pos h
theorem runL_cons {V : List (List (List Int))} {i : Int} {o : List Int} {ws : List (List Int)} (h : ¬ (i < 0 ∨ (V.length : Int) ≤ i)) : runL V (i :: o) ws = runL V o (ws.set i.toNat (bestL (nth V i.toNat) ws i.toNat)) := if_neg h
theorem sppRun_err {V : List (List (List Int))} {order : List Int} {k : Int} (h : sppErr V = some k) : sppRun V order = .error k := by unfold sppRun; rw [h]
theorem sppRun_bad {V : List (List (List Int))} {order : List Int} (h : sppErr V = none) (h2 : runL V order ((List.replicate V.length []).set 0 [0]) = none) : sppRun V order = .error 1 := by unfold sppRun; rw [h, h2]
theorem sppRun_ok {V : List (List (List Int))} {order : List Int} {ws : List (List Int)} (h : sppErr V = none) (h2 : runL V order ((List.replicate V.length []).set 0 [0]) = some ws) : sppRun V order = .ok ws := by unfold sppRun; rw [h, h2]
theorem runL_len {V : List (List (List Int))} : ∀ {o : List Int} {ws ws' : List (List Int)}, runL V o ws = some ws' → ws'.length = ws.length
  | [], ws, ws', h => by cases h; rfl
  | i :: o, ws, ws', h => by
    unfold runL at h
    split at h
    · cases h
    · rw [runL_len h]; simp

theorem find_at (p : List Int → Bool) : ∀ (l : List (List Int)) (j : Nat), j < l.length → p (nth l j) = true → (∀ k, k < j → p (nth l k) = false) → l.find? p = some (nth l j)
  | [], j, h, _, _ => absurd h (Nat.not_lt_zero _)
  | x :: l, 0, _, h1, _ => by
    rw [nth_cons_zero] at h1 ⊢
    simp [h1]
  | x :: l, j + 1, h, h1, h2 => by
    rw [nth_cons_succ] at h1 ⊢
    have h0 : p x = false := h2 0 (by omega)
    rw [List.find?_cons_of_neg (by simp [h0])]
    exact find_at p l j (by simpa using h) h1 (fun k hk => by have := h2 (k + 1) (by omega); rwa [nth_cons_succ] at this)
theorem find_no (p : List Int → Bool) : ∀ (l : List (List Int)), (∀ k, k < l.length → p (nth l k) = false) → l.find? p = none
  | [], _ => rfl
  | x :: l, h => by
    have h0 : p x = false := h 0 (by simp)
    rw [List.find?_cons_of_neg (by simp [h0])]
    exact find_no p l (fun k hk => by have := h (k + 1) (by simpa using hk); rwa [nth_cons_succ] at this)
theorem bestL_zero (l ws : List (List Int)) : bestL l ws 0 = [0] := rfl
theorem bestL_at {l ws : List (List Int)} {i j : Nat} (hi : i ≠ 0) (h : j < l.length) (h1 : likedB ws (nth l j) = true) (h2 : ∀ k, k < j → likedB ws (nth l k) = false) : bestL l ws i = nth l j := by
  unfold bestL
  rw [if_neg hi, find_at _ l j h h1 h2]
  rfl
theorem bestL_no {l ws : List (List Int)} {i : Nat} (hi : i ≠ 0) (h2 : ∀ k, k < l.length → likedB ws (nth l k) = false) : bestL l ws i = [] := by
  unfold bestL
  rw [if_neg hi, find_no _ l h2]
  rfl

/-- What nodes like, in memory; T: the blocks that hold it. -/
structure Likes (H : Array Obj) (a : Option Addr) (L : List Rw) (T : Nat → Prop) : Prop where
  top : Recs H a 1 Rw.cells L
  mat : ∀ x ∈ L, Mat H x.a x.rs x.A x.C
  ta : ∀ b off, a = some ⟨b, off, none⟩ → L ≠ [] → T b
  cap : ∀ x ∈ L, ∀ i, i < x.rs.length → (nth x.rs i).length ≤ x.C i
  many : ∀ x ∈ L, x.rs.length ≤ 9223372036854775807
  tx : ∀ x ∈ L, (∀ b off, x.a = some ⟨b, off, none⟩ → x.rs ≠ [] → T b) ∧ ∀ i, i < x.rs.length → ∀ b off, x.A i = some ⟨b, off, none⟩ → nth x.rs i ≠ [] → T b
abbrev vals (L : List Rw) : List (List (List Int)) := L.map Rw.rs
theorem vals_len (L : List Rw) : (vals L).length = L.length := by simp
theorem vals_nth (L : List Rw) {i : Nat} (h : i < L.length) : nth (vals L) i = (nth L i).rs := nth_map _ _ _ h
theorem Rd.fr1 {S : Nat → Prop} {w w' : World} {a : Option Addr} {n sz : Nat} {xs : List Value} (h : Rd w.heap a n sz xs) (f : Fr S w w') (hs : xs ≠ [] → ∀ b off, a = some ⟨b, off, none⟩ → ¬ S b) : Rd w'.heap a n sz xs := by
  by_cases e : xs = []
  · exact ⟨h.len, .inl e⟩
  · exact h.fr f (hs e)
namespace Likes
variable {w w' : World} {a : Option Addr} {L : List Rw} {T S : Nat → Prop}
theorem fr (h : Likes w.heap a L T) (f : Fr S w w') (hs : ∀ k, T k → ¬ S k) : Likes w'.heap a L T := by
  refine ⟨Rd.fr1 h.top f (fun hne b off e => hs b (h.ta b off e (fun e2 => hne (by rw [e2]; rfl)))), fun x hx => ?_, h.ta, h.cap, h.many, h.tx⟩
  have hm := h.mat x hx
  obtain ⟨t1, t2⟩ := h.tx x hx
  refine ⟨Rd.fr1 hm.top f (fun hne b off e => hs b (t1 b off e (fun e2 => hne (by rw [e2]; rfl)))), fun i hi => Rd.fr1 (hm.row i hi) f (fun hne b off e => hs b (t2 i hi b off e (fun e2 => hne (by rw [e2]; rfl)))), hm.lens⟩
theorem fr0 (h : Likes w.heap a L T) (f : Fr (fun _ => False) w w') : Likes w'.heap a L T := h.fr f (fun _ _ h => h)
theorem weak {T' : Nat → Prop} (h : Likes w.heap a L T) (ht : ∀ k, T k → T' k) : Likes w.heap a L T' := ⟨h.top, h.mat, fun b off e hn => ht b (h.ta b off e hn), h.cap, h.many, fun x hx => ⟨fun b off e hn => ht b ((h.tx x hx).1 b off e hn), fun i hi b off e hn => ht b ((h.tx x hx).2 i hi b off e hn)⟩⟩
/-- What came in lies in old memory. -/
theorem old (h1 : Recs w.heap a 1 Rw.cells L) (h2 : ∀ x ∈ L, Mat w.heap x.a x.rs x.A x.C) (h3 : ∀ x ∈ L, ∀ i, i < x.rs.length → (nth x.rs i).length ≤ x.C i) (h4 : ∀ x ∈ L, x.rs.length ≤ 9223372036854775807) : Likes w.heap a L (fun k => k < w.heap.size) := by
  have lt : ∀ {a : Option Addr} {n sz : Nat} {xs : List Value}, Rd w.heap a n sz xs → xs ≠ [] → ∀ b off, a = some ⟨b, off, none⟩ → b < w.heap.size := fun {a n sz xs} h hne b off e => by
    rcases h.at' with q | ⟨b', off', e', hb, -⟩
    · exact absurd q hne
    · rw [e] at e'; cases e'; exact hb
  refine ⟨h1, h2, fun b off e hne => lt h1 (fun q => hne ?_) b off e, h3, h4, fun x hx => ⟨fun b off e hne => lt (h2 x hx).top (fun q => hne ?_) b off e, fun i hi b off e hne => lt ((h2 x hx).row i hi) (fun q => hne ?_) b off e⟩⟩
  · cases L with
    | nil => rfl
    | cons y l => simp at q
  · have := congrArg List.length q
    simp at this
    exact this
  · have := congrArg List.length q
    simp [ivals] at this
    exact this
end Likes
end Go.Proofs.YtfjempfffdeklaaDoor
