import Derived.Test.YtgfbkebbnfcgkaaQRt7
import Derived.Test.YtgfbkebbnfcgkaaQRt6
import Derived.Test.YtgfbkebbnfcgkaaQRt25
section
namespace Go.Proofs.Ytgfbkebbnfcgkaa
open Go.RowKit


end Go.Proofs.Ytgfbkebbnfcgkaa
end

section
namespace Go.Proofs.Ytgfbkebbnfcgkaa
open Go.RowKit

/-- Ways that are handed in. -/
structure BestsR (H : Array Obj) (a : Option Addr) (l : List BestR) : Prop where
  top : Recs H a 4 BestR.cells l
  row : ∀ x ∈ l, Ints H x.A x.h
  len : ∀ x ∈ l, x.h.length ≤ 9223372036854775807
theorem BestsR.fr0 {S : Nat → Prop} {w w' : World} {a : Option Addr} {l : List BestR} (h : BestsR w.heap a l) (f : Fr S w w') (hs : ∀ k, k < w.heap.size → ¬ S k) : BestsR w'.heap a l :=
  ⟨h.top.fr0 f hs, fun x hx => (h.row x hx).fr0 f hs, h.len⟩
/-- Are two ways the same? -/
def bEq (x y : BestR) : Bool := decide (x.h = y.h ∧ x.a = y.a ∧ x.n = y.n ∧ x.m = y.m)


end Go.Proofs.Ytgfbkebbnfcgkaa
end

section
namespace Go
theorem mK_at (p : Nat → Int) : ∀ k, mK p k = 16 ∨ ∃ j, j < k ∧ p j = mK p k := by
  intro k
  induction k with
  | zero => exact .inl rfl
  | succ k ih =>
    unfold mK
    by_cases h : p k < mK p k
    · rw [if_pos h]; exact .inr ⟨k, by omega, rfl⟩
    · rw [if_neg h]
      rcases ih with h1 | ⟨j, h1, h2⟩
      · exact .inl h1
      · exact .inr ⟨j, by omega, h2⟩
theorem hopsK_mem {p : Nat → Int} {M z : Int} : ∀ {k}, z ∈ hopsK p M k → ∃ q : Nat, z = q ∧ q < k ∧ p q = M ∧ M < 16 := by
  intro k
  induction k with
  | zero => intro h; cases h
  | succ k ih =>
    intro h
    unfold hopsK at h
    split at h
    · rename_i hc
      rcases List.mem_append.1 h with h | h
      · obtain ⟨q, h1, h2, h3⟩ := ih h; exact ⟨q, h1, by omega, h3⟩
      · exact ⟨k, List.mem_singleton.1 h, by omega, hc.2.1, hc.1⟩
    · obtain ⟨q, h1, h2, h3⟩ := ih h; exact ⟨q, h1, by omega, h3⟩
/-- Without one, that was not taken, the same are taken. -/
theorem hopsK_less {p p' : Nat → Int} {M f : Int} (hM : M < 16) (h1 : ∀ k : Nat, (k : Int) ≠ f → p' k = p k) (h2 : ∀ k : Nat, (k : Int) = f → p' k = 16) : ∀ k, f ∉ hopsK p M k → hopsK p' M k = hopsK p M k := by
  intro k
  induction k with
  | zero => intro _; rfl
  | succ k ih =>
    intro h
    have h3 : f ∉ hopsK p M k := fun h4 => h (by unfold hopsK; split <;> simp [h4])
    have e := ih h3
    unfold hopsK at h ⊢
    rw [e]
    by_cases hk : (k : Int) = f
    · rw [if_neg (fun hh => by have := h2 k hk; omega)]
      split at h
      · exact absurd (by rw [hk]; simp) h
      · rename_i hc; rw [if_neg hc]
    · rw [h1 k hk]
theorem mK_mono {p p' : Nat → Int} : ∀ k, (∀ j, j < k → p j ≤ p' j) → mK p k ≤ mK p' k := by
  intro k
  induction k with
  | zero => intro _; exact Int.le_refl _
  | succ k ih =>
    intro h
    have h1 := ih (fun j hj => h j (by omega))
    have h2 := h k (by omega)
    unfold mK
    split <;> split <;> omega
end Go
namespace Go.Proofs.Ytgfbkebbnfcgkaa
open Go.RowKit
theorem aged0 {l : List Td} (h : RibOk 0 l) : rAged 0 l = l := by
  have key : ∀ l : List Td, (∀ x ∈ l, age1 0 x = some x) → rAged 0 l = l := by
    intro l
    induction l with
    | nil => intro _; rfl
    | cons x l ih =>
      intro h
      unfold rAged at *
      rw [List.filterMap_cons, h x (by simp)]
      simp only
      rw [ih (fun y hy => h y (by simp [hy]))]
  refine key l (fun x hx => ?_)
  have hxo := h.each x hx
  have h0 := hxo.t0
  have h1 := hxo.t1
  by_cases hm : x.m < 16
  · exact age1_live hm (by omega)
  · rw [age1_dead hm, if_pos (by omega)]
theorem lost_last (f now : Int) (l : List Td) (h : ∀ x ∈ l, x.m ≤ 16) (k a n : Int) : lastOf (hdL (l.map (lose1 f now))) k a n = if k = f then 16 else lastOf (hdL l) k a n := by
  have key : lastO (hdL (l.map (lose1 f now))) k a n = if k = f then (lastO (hdL l) k a n).map (fun _ => 16) else lastO (hdL l) k a n := by
    revert h
    refine snocI (P := fun l => (∀ x ∈ l, x.m ≤ 16) → lastO (hdL (l.map (lose1 f now))) k a n = if k = f then (lastO (hdL l) k a n).map (fun _ => 16) else lastO (hdL l) k a n) (fun _ => by simp [hdL, lastO]) (fun l x ih hx => ?_) l
    have ih := ih (fun y hy => hx y (by simp [hy]))
    have hxm := hx x (by simp)
    obtain ⟨k1, k2, k3⟩ := lose1_key f now x
    have e1 : hdL ((l ++ [x]).map (lose1 f now)) = hdL (l.map (lose1 f now)) ++ [Td.hd (lose1 f now x)] := by simp [hdL]
    have e2 : hdL (l ++ [x]) = hdL l ++ [Td.hd x] := by simp [hdL]
    rw [e1, e2, lastO_snoc, lastO_snoc, ih]
    have e3 : (Td.hd (lose1 f now x)).f = x.f ∧ (Td.hd (lose1 f now x)).a = x.a ∧ (Td.hd (lose1 f now x)).n = x.n := ⟨k1, k2, k3⟩
    rw [e3.1, e3.2.1, e3.2.2]
    have e4 : (Td.hd x).f = x.f ∧ (Td.hd x).a = x.a ∧ (Td.hd x).n = x.n := ⟨rfl, rfl, rfl⟩
    rw [e4.1, e4.2.1, e4.2.2]
    by_cases hc : x.f = k ∧ x.a = a ∧ x.n = n
    · rw [if_pos hc, if_pos hc]
      by_cases hk : k = f
      · rw [if_pos hk]
        have : (Td.hd (lose1 f now x)).m = 16 := by
          show (lose1 f now x).m = 16
          unfold lose1
          by_cases hm : x.m < 16
          · rw [if_pos ⟨by omega, hm⟩]
          · rw [if_neg (fun hh => hm hh.2)]; omega
        rw [this]; rfl
      · rw [if_neg hk]
        have : (Td.hd (lose1 f now x)).m = x.m := by
          show (lose1 f now x).m = x.m
          unfold lose1
          rw [if_neg (fun hh => hk (by omega))]
        rw [this]; rfl
    · rw [if_neg hc, if_neg hc]
  unfold lastOf
  rw [key]
  by_cases hk : k = f
  · rw [if_pos hk, if_pos hk]
    cases lastO (hdL l) k a n <;> rfl
  · rw [if_neg hk, if_neg hk]
theorem hd_bd {now : Int} {l : List Td} (h : RibOk now l) : ∀ x ∈ hdL l, 1 ≤ x.m ∧ x.m ≤ 16 := fun x hx => by
  obtain ⟨y, hy, rfl⟩ := List.mem_map.1 hx
  have := h.each y hy
  exact ⟨this.m0, this.m1⟩
/-- What a neighbour's going does. -/
theorem down_law {w : World} {base : Nat} {D : DC} {l : List Td} {bad f : Int} {R R' : List BestR} (hD : Dmn w base D 0 l bad) (ho : D.own = []) (h : TabR D l R) (h' : TabR D (rLost f 0 l) R') :
    (∀ r ∈ R', f ∉ r.h) ∧ (∀ r ∈ R, f ∉ r.h → ∃ r' ∈ R', bEq r' r = true) ∧ R'.length ≤ R.length := by
  have hc := (nearE_ok hD.near).2
  have hl := hd_bd hD.ok
  have hok' : RibOk 0 (rLost f 0 l) := lose_ok hD.ok (Int.le_refl 0) (by decide)
  have hl' := hd_bd hok'
  have hlost : rLost f 0 l = l.map (lose1 f 0) := by unfold rLost; rw [aged0 hD.ok]
  have hm16 : ∀ x ∈ l, x.m ≤ 16 := fun x hx => (hD.ok.each x hx).m1
  have hown : ∀ q : Nt, q ∉ D.own := fun q hq => by rw [ho] at hq; cases hq
  -- the sums, by neighbour
  have hp1 : ∀ (q : Nt) (k : Nat), (k : Int) ≠ f → pOf (hdL (rLost f 0 l)) D.costs q.a q.n k = pOf (hdL l) D.costs q.a q.n k := fun q k hk => by
    unfold pOf; rw [hlost, lost_last f 0 l hm16, if_neg hk]
  have hp2 : ∀ (q : Nt) (k : Nat), k < D.costs.length → (k : Int) = f → pOf (hdL (rLost f 0 l)) D.costs q.a q.n k = 16 := fun q k hk hf => by
    unfold pOf; rw [hlost, lost_last f 0 l hm16, if_pos hf]
    have := hc _ (nth_mem D.costs k hk)
    unfold plusM; rw [if_neg (by omega)]
  have hp16 : ∀ (q : Nt) (k : Nat), pOf (hdL l) D.costs q.a q.n k ≤ 16 := fun q k => by unfold pOf plusM; split <;> omega
  have hmono : ∀ q : Nt, mK (pOf (hdL l) D.costs q.a q.n) D.costs.length ≤ mK (pOf (hdL (rLost f 0 l)) D.costs q.a q.n) D.costs.length := fun q => mK_mono _ (fun j hj => by
    by_cases hk : (j : Int) = f
    · rw [hp2 q j hj hk]; exact hp16 q j
    · rw [hp1 q j hk]; exact Int.le_refl _)
  have hv : ∀ q : Nt, bestD D l q = (mK (pOf (hdL l) D.costs q.a q.n) D.costs.length, hopsK (pOf (hdL l) D.costs q.a q.n) (mK (pOf (hdL l) D.costs q.a q.n) D.costs.length) D.costs.length) := fun q => by
    rw [bestD_other (hown q), bestM_eq _ _ hl hc]
  have hv' : ∀ q : Nt, bestD D (rLost f 0 l) q = (mK (pOf (hdL (rLost f 0 l)) D.costs q.a q.n) D.costs.length, hopsK (pOf (hdL (rLost f 0 l)) D.costs q.a q.n) (mK (pOf (hdL (rLost f 0 l)) D.costs q.a q.n) D.costs.length) D.costs.length) := fun q => by
    rw [bestD_other (hown q), bestM_eq _ _ hl' hc]
  refine ⟨fun r hr hf => ?_, fun r hr hf => ?_, ?_⟩
  · have h1 := h'.val r hr
    rw [hv'] at h1
    have h2 : r.h = _ := congrArg Prod.snd h1
    rw [h2] at hf
    obtain ⟨q, e1, e2, e3, e4⟩ := hopsK_mem hf
    rw [hp2 _ q e2 e1.symm] at e3
    omega
  · have h1 := h.val r hr
    have h3 := (h.mem (bnet r)).1 (List.mem_map.2 ⟨r, hr, rfl⟩)
    obtain ⟨h3, h4⟩ := h3
    rw [hv] at h1 h4
    have h2 : r.h = _ := congrArg Prod.snd h1
    have h5 : r.m = _ := congrArg Prod.fst h1
    rw [h2] at hf
    simp only at h4 hf
    have hv0 := hv (bnet r)
    have hv1 := hv' (bnet r)
    have q1 := hp1 (bnet r)
    have q2 := hp2 (bnet r)
    have q3 := hmono (bnet r)
    obtain ⟨p, hp⟩ : ∃ p, p = pOf (hdL l) D.costs (bnet r).a (bnet r).n := ⟨_, rfl⟩
    obtain ⟨p', hp'⟩ : ∃ p, p = pOf (hdL (rLost f 0 l)) D.costs (bnet r).a (bnet r).n := ⟨_, rfl⟩
    rw [← hp] at h2 h5 h4 hf q1 q3
    rw [← hp'] at hv1 q1 q2 q3
    obtain ⟨M, hM⟩ : ∃ M, M = mK p D.costs.length := ⟨_, rfl⟩
    rw [← hM] at h2 h5 h4 hf q3
    -- a hop that is not f
    have hbm := bestM_eq (bnet r).a (bnet r).n hl hc
    have hne : hopsK p M D.costs.length ≠ [] := fun he => by
      obtain ⟨-, -, -, -, p5⟩ := chK_bd (fun i => lastO (hdL l) i (bnet r).a (bnet r).n) D.costs (fun i m hm => lastO_bd hl hm) hc D.costs.length (Nat.le_refl _)
      have h6 : bestM (hdL l) D.costs (bnet r).a (bnet r).n = (M, []) := by rw [hbm, ← hp, ← hM, he]
      unfold bestM at h6
      have h7 := congrArg Prod.fst h6
      have h8 := congrArg Prod.snd h6
      have h9 := p5.1 h8
      have h10 : M = 16 := h7.symm.trans h9
      omega
    obtain ⟨z, hz⟩ := List.exists_mem_of_ne_nil _ hne
    obtain ⟨j, e1, e2, e3, -⟩ := hopsK_mem hz
    have hjf : (j : Int) ≠ f := fun e => hf (by rw [← e, ← e1]; exact hz)
    have hM' : mK p' D.costs.length = M := by
      have a1 := (mK_le p' D.costs.length).2 j e2
      rw [q1 j hjf, e3] at a1
      omega
    have hlt : (bestD D (rLost f 0 l) (bnet r)).1 < 16 := by rw [hv1]; simp only; omega
    have hhops : hopsK p' M D.costs.length = hopsK p M D.costs.length := by
      have key : ∀ k, k ≤ D.costs.length → f ∉ hopsK p M k → hopsK p' M k = hopsK p M k := by
        intro k
        induction k with
        | zero => intro _ _; rfl
        | succ k ih =>
          intro hk h
          have h3 : f ∉ hopsK p M k := fun h4 => h (by unfold hopsK; split <;> simp [h4])
          have e := ih (by omega) h3
          unfold hopsK at h ⊢
          rw [e]
          by_cases hkf : (k : Int) = f
          · rw [if_neg (fun hh => by have := q2 k (by omega) hkf; omega)]
            split at h
            · exact absurd (by rw [hkf]; simp) h
            · rename_i hc; rw [if_neg hc]
          · rw [q1 k hkf]
      exact key _ (Nat.le_refl _) hf
    have hmem : bnet r ∈ R'.map bnet := (h'.mem _).2 ⟨.inr (by
      rcases h3 with h3 | ⟨x, hx, hxe⟩
      · exact absurd h3 (hown _)
      · refine ⟨lose1 f 0 x, by rw [hlost]; exact List.mem_map.2 ⟨x, hx, rfl⟩, ?_⟩
        obtain ⟨k1, k2, k3⟩ := lose1_key f 0 x
        rw [k2, k3]; exact hxe), hlt⟩
    obtain ⟨r', hr', hb⟩ := List.mem_map.1 hmem
    have h7 := h'.val r' hr'
    rw [hb, hv1, hM', hhops] at h7
    refine ⟨r', hr', decide_eq_true ?_⟩
    have b1 : r'.a = r.a := congrArg Nt.a hb
    have b2 : r'.n = r.n := congrArg Nt.n hb
    have b3 : r'.m = M := congrArg Prod.fst h7
    have b4 : r'.h = hopsK p M D.costs.length := congrArg Prod.snd h7
    exact ⟨by rw [b4, h2], b1, b2, by rw [b3, h5]⟩
  · have hs : ∀ q ∈ R'.map bnet, q ∈ R.map bnet := fun q hq => by
      obtain ⟨h1, h2⟩ := (h'.mem q).1 hq
      refine (h.mem q).2 ⟨?_, ?_⟩
      · rcases h1 with h1 | ⟨x, hx, hxe⟩
        · exact .inl h1
        · obtain ⟨y, hy, -, e2, e3⟩ := lost_mem hx
          exact .inr ⟨y, hy, by rw [e2, e3]; exact hxe⟩
      · rw [hv'] at h2
        rw [hv]
        have := hmono q
        simp only at h2 ⊢
        omega
    have := lensub (nsn h'.srt) hs
    simpa using this
end Go.Proofs.Ytgfbkebbnfcgkaa
end
