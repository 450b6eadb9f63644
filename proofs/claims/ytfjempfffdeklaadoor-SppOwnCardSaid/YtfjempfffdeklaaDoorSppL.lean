import Derived.Test.YtfjempfffdeklaaDoorSppR
import Derived.Test.YtfjempfffdeklaaDoorRows7
namespace Go.Proofs.YtfjempfffdeklaaDoor
open Go.RowKit

theorem bestL_all {P : List Int → Prop} {l ws : List (List Int)} {i : Nat} (h : ∀ r ∈ l, P r) (h0 : P [0]) (h1 : P []) : P (bestL l ws i) := by
  unfold bestL
  split
  · exact h0
  · cases hf : l.find? (likedB ws) with
    | none => exact h1
    | some r => exact h r (List.mem_of_find?_eq_some hf)
theorem runL_all {P : List Int → Prop} {V : List (List (List Int))} (h : ∀ i, i < V.length → ∀ r ∈ nth V i, P r) (h0 : P [0]) (h1 : P []) : ∀ {o : List Int} {ws ws' : List (List Int)}, runL V o ws = some ws' → (∀ r ∈ ws, P r) → ∀ r ∈ ws', P r
  | [], ws, ws', e, hw => by cases e; exact hw
  | i :: o, ws, ws', e, hw => by
    unfold runL at e
    split at e
    · cases e
    · rename_i hi
      refine runL_all h h0 h1 e (fun r hr => ?_)
      rcases List.mem_or_eq_of_mem_set hr with q | q
      · exact hw r q
      · subst q; exact bestL_all (h i.toNat (by omega)) h0 h1
theorem sppRows_all {P : List Int → Prop} {V : List (List (List Int))} (h : ∀ i, i < V.length → ∀ r ∈ nth V i, P r) (h0 : P [0]) (h1 : P []) (o : List Int) : (sppRows (sppRun V o)).length ≤ 8 ∧ ∀ r ∈ sppRows (sppRun V o), P r := by
  cases hE : sppErr V with
  | some k => rw [sppRun_err hE]; exact ⟨by simp [sppRows], by simp [sppRows]⟩
  | none =>
    cases hR : runL V o ((List.replicate V.length []).set 0 [0]) with
    | none => rw [sppRun_bad hE hR]; exact ⟨by simp [sppRows], by simp [sppRows]⟩
    | some ws =>
      rw [sppRun_ok hE hR]
      refine ⟨?_, runL_all h h0 h1 hR (fun r hr => ?_)⟩
      · show ws.length ≤ 8
        rw [runL_len hR]
        rcases Nat.lt_or_ge 8 V.length with q | q
        · rw [sppErr_1 (.inr q)] at hE; cases hE
        · simpa using q
      · rcases List.mem_or_eq_of_mem_set hr with q | q
        · rw [List.eq_of_mem_replicate q]; exact h1
        · subst q; exact h0

/-- A row of rows within a list: it can be read; T: the blocks that hold it. -/
structure RwOk (H : Array Obj) (T : Nat → Prop) (x : Rw) : Prop where
  mat : Mat H x.a x.rs x.A x.C
  cap : ∀ i, i < x.rs.length → (nth x.rs i).length ≤ x.C i
  many : x.rs.length ≤ 9223372036854775807
  tx : (∀ b off, x.a = some ⟨b, off, none⟩ → x.rs ≠ [] → T b) ∧ ∀ i, i < x.rs.length → ∀ b off, x.A i = some ⟨b, off, none⟩ → nth x.rs i ≠ [] → T b
namespace RwOk
variable {w w' : World} {H : Array Obj} {T S T' : Nat → Prop} {x : Rw}
theorem fr (h : RwOk w.heap T x) (f : Fr S w w') (hs : ∀ k, T k → ¬ S k) : RwOk w'.heap T x :=
  ⟨⟨Rd.fr1 h.mat.top f (fun hne b off e => hs b (h.tx.1 b off e (fun e2 => hne (by rw [e2]; rfl)))), fun i hi => Rd.fr1 (h.mat.row i hi) f (fun hne b off e => hs b (h.tx.2 i hi b off e (fun e2 => hne (by rw [e2]; rfl)))), h.mat.lens⟩, h.cap, h.many, h.tx⟩
theorem weak (h : RwOk H T x) (ht : ∀ k, k < H.size → T k → T' k) : RwOk H T' x := by
  have lt : ∀ {a : Option Addr} {n sz : Nat} {xs : List Value}, Rd H a n sz xs → xs ≠ [] → ∀ b off, a = some ⟨b, off, none⟩ → b < H.size := fun {a n sz xs} h hne b off e => by
    rcases h.at' with q | ⟨b', off', e', hb, -⟩
    · exact absurd q hne
    · rw [e] at e'; cases e'; exact hb
  refine ⟨h.mat, h.cap, h.many, fun b off e hn => ht b (lt h.mat.top (fun q => hn ?_) b off e) (h.tx.1 b off e hn), fun i hi b off e hn => ht b (lt (h.mat.row i hi) (fun q => hn ?_) b off e) (h.tx.2 i hi b off e hn)⟩
  · have := congrArg List.length q
    simp at this
    exact this
  · have := congrArg List.length q
    simp [ivals] at this
    exact this
/-- Rows of the call's own. -/
theorem own {base : Nat} {T1 E : TypeId} {a : Option Addr} {c : Nat} {ob : Option Nat} {rs : List (List Int)} {G C : Nat → Nat} (h : OMat w.heap base T1 E a c ob rs G C) : RwOk w.heap (fun k => base ≤ k) ⟨a, rs, c, fun i => some ⟨G i, 0, none⟩, C⟩ := by
  refine ⟨h.mat, fun i hi => (h.row i hi).cap, h.top.le, fun b off e hn => ?_, fun i hi b off e hn => ?_⟩
  · obtain ⟨g, e1, e2, -⟩ := Ownd.pos h.top (List.length_pos_iff.2 hn)
    simp only at e; rw [e] at e1
    cases e1
    exact (h.obn _ e2).1
  · cases e
    exact h.gn i hi
end RwOk
theorem Likes.of {H : Array Obj} {a : Option Addr} {L : List Rw} {T : Nat → Prop} (h : Recs H a 1 Rw.cells L) (hx : ∀ x ∈ L, RwOk H T x) (ha : ∀ b off, a = some ⟨b, off, none⟩ → L ≠ [] → T b) : Likes H a L T :=
  ⟨h, fun x hm => (hx x hm).mat, ha, fun x hm => (hx x hm).cap, fun x hm => (hx x hm).many, fun x hm => (hx x hm).tx⟩
end Go.Proofs.YtfjempfffdeklaaDoor
