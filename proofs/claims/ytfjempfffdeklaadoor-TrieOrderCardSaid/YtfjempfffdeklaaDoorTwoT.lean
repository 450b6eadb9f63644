import Derived.Test.YtfjempfffdeklaaDoorFilled
namespace Go.Proofs.YtfjempfffdeklaaDoor
open Go.RowKit

/-- Two tables beside each other. -/
structure TwoT (w : World) (base bs bt : Nat) (N : Int → Nat → Option Nat) (C : List Nt) (V : Nt → Int) (N' : Int → Nat → Option Nat) (C' : List Nt) (V' : Nt → Int) : Prop where
  s : IsTrie w.heap base bs N C V
  t : IsTrie w.heap base bt N' C' V'
  dis : ∀ k, Tof N k → ¬ Tof N' k
namespace TwoT
variable {w w' : World} {base bs bt : Nat} {N N' M : Int → Nat → Option Nat} {C C' D : List Nt} {V V' U : Nt → Int}
theorem fr0 (h : TwoT w base bs bt N C V N' C' V') (f : Fr (fun _ => False) w w') : TwoT w' base bs bt N C V N' C' V' := ⟨h.s.fr0 f, h.t.fr0 f, h.dis⟩
theorem putS (h : TwoT w base bs bt N C V N' C' V') (hT : IsTrie w'.heap base bs M D U) (f : Fr (Tof N) w w') (hN : ∀ k, Tof M k → Tof N k ∨ w.heap.size ≤ k) : TwoT w' base bs bt M D U N' C' V' :=
  ⟨hT, h.t.fr f (fun k hk hs => h.dis k hs hk), fun k hk hk' => by
    rcases hN k hk with q | q
    · exact h.dis k q hk'
    · have := h.t.lt k hk'; omega⟩
theorem putT (h : TwoT w base bs bt N C V N' C' V') (hT : IsTrie w'.heap base bt M D U) (f : Fr (Tof N') w w') (hN : ∀ k, Tof M k → Tof N' k ∨ w.heap.size ≤ k) : TwoT w' base bs bt N C V M D U :=
  ⟨h.s.fr f (fun k hk hs => h.dis k hk hs), hT, fun k hk hk' => by
    rcases hN k hk' with q | q
    · exact h.dis k hk q
    · have := h.s.lt k hk; omega⟩
end TwoT
theorem Fr.trieP {w w1 w2 : World} {base bt : Nat} {N : Int → Nat → Option Nat} {C : List Nt} {V : Nt → Int} (h : IsTrie w1.heap base bt N C V) (hF : Fr (fun _ => False) w w1) (hb : w.heap.size ≤ base) (h2 : Fr (Tof N) w1 w2) : Fr (fun _ => False) w w2 :=
  hF.trans' h2 (fun i hi ⟨a, k, hk⟩ => by have := (h.ok a k i hk).2.2.2; omega)
/-- What Put leaves, whatever comes of it. -/
def PutIs (w0 w' : World) (base bs bt : Nat) (l M : List Nt) (N' : Int → Nat → Option Nat) (C' : List Nt) (V' : Nt → Int) (e : Ending) : Prop :=
  ∃ v N C V, e = .returned v ∧ TwoT w' base bs bt N C V N' C' V' ∧ Filled l M C V ∧ Fr (fun _ => False) w0 w'
def PutIt (w0 w' : World) (base bs bt : Nat) (l M : List Nt) (N : Int → Nat → Option Nat) (C : List Nt) (V : Nt → Int) (e : Ending) : Prop :=
  ∃ v N' C' V', e = .returned v ∧ TwoT w' base bs bt N C V N' C' V' ∧ Filled l M C' V' ∧ Fr (fun _ => False) w0 w'
/-- A net is put, whatever comes of it. -/
theorem putE_lt {C : List Nt} {a n : Int} (h : C.length ≠ 64) : putE C a n = netErr a n := by
  unfold putE
  cases netErr a n with
  | some q => rfl
  | none => simp only; split <;> first | rfl | simp [h]
theorem putIs {w0 w w' : World} {base bs bt : Nat} {l M M' : List Nt} {N N' : Int → Nat → Option Nat} {C C' : List Nt} {V V' : Nt → Int} {a n v : Int} {e : Ending} (hR : RetPut w base bs N C V ⟨a, n⟩ v (putE C a n) e w') (h : TwoT w base bs bt N C V N' C' V') (hf : Filled l M C V) (hp : IsPlc l ⟨a, n⟩ v)
    (hM : ∀ y, y ∈ M' ↔ y ∈ M ∨ y = ⟨a, n⟩) (hl : M'.length = M.length + 1) (h64 : M.length < 64) (hF : Fr (fun _ => False) w0 w) (hb : w0.heap.size ≤ base) : PutIs w0 w' base bs bt l M' N' C' V' e := by
  rw [putE_lt (hf.full h64)] at hR
  cases hE : netErr a n with
  | some q =>
    obtain ⟨rfl, hF1⟩ := hR.errE hE
    exact ⟨_, N, C, V, rfl, h.fr0 hF1, hf.bad hM hl hE, hF.trans hF1⟩
  | none =>
    obtain ⟨rfl, N1, V1, hT, hv, hV, hF1, hN⟩ := hR.okE hE
    exact ⟨_, N1, _, V1, rfl, h.putS hT hF1 hN, hf.put hM hl hE hv hp hV, Fr.trieP h.s hF hb hF1⟩
theorem putIt {w0 w w' : World} {base bs bt : Nat} {l M M' : List Nt} {N N' : Int → Nat → Option Nat} {C C' : List Nt} {V V' : Nt → Int} {a n v : Int} {e : Ending} (hR : RetPut w base bt N' C' V' ⟨a, n⟩ v (putE C' a n) e w') (h : TwoT w base bs bt N C V N' C' V') (hf : Filled l M C' V') (hp : IsPlc l ⟨a, n⟩ v)
    (hM : ∀ y, y ∈ M' ↔ y ∈ M ∨ y = ⟨a, n⟩) (hl : M'.length = M.length + 1) (h64 : M.length < 64) (hF : Fr (fun _ => False) w0 w) (hb : w0.heap.size ≤ base) : PutIt w0 w' base bs bt l M' N C V e := by
  rw [putE_lt (hf.full h64)] at hR
  cases hE : netErr a n with
  | some q =>
    obtain ⟨rfl, hF1⟩ := hR.errE hE
    exact ⟨_, N', C', V', rfl, h.fr0 hF1, hf.bad hM hl hE, hF.trans hF1⟩
  | none =>
    obtain ⟨rfl, N1, V1, hT, hv, hV, hF1, hN⟩ := hR.okE hE
    exact ⟨_, N1, _, V1, rfl, h.putT hT hF1 hN, hf.put hM hl hE hv hp hV, Fr.trieP h.t hF hb hF1⟩
end Go.Proofs.YtfjempfffdeklaaDoor
