import Derived.Test.YtfglidaicjjpfaaGreatDoorQTel20
import Derived.Test.YtfglidaicjjpfaaGreatDoorQTel21
section
namespace Go.Proofs.YtfglidaicjjpfaaGreatDoor
open Go.RowKit

/-! Can bytes be the beginning of an entry's: the document's answer, and 'filled'. -/
theorem four_at (x : List Int) (k : Nat) (h : k + 4 ≤ x.length) : (x.drop k).take 4 = [nth x k, nth x (k + 1), nth x (k + 2), nth x (k + 3)] := by
  apply ext_nth
  · simp; omega
  · intro j hj
    have hj4 : j < 4 := by simp at hj; omega
    rw [nth_take _ _ _ hj4, nth_drop]
    rcases j with _ | _ | _ | _ | j
    · rfl
    · rfl
    · rfl
    · rfl
    · omega
theorem two_at (x : List Int) (k : Nat) (h : k + 2 ≤ x.length) : (x.drop k).take 2 = [nth x k, nth x (k + 1)] := by
  apply ext_nth
  · simp; omega
  · intro j hj
    have hj4 : j < 2 := by simp at hj; omega
    rw [nth_take _ _ _ hj4, nth_drop]
    rcases j with _ | _ | j
    · rfl
    · rfl
    · omega
theorem beB_four (n : Int) : beB n 4 = [n / 16777216 % 256, n / 65536 % 256, n / 256 % 256, n % 256] := by
  simp only [beB, Nat.reduceMul, Nat.mul_zero, Nat.mul_one, Int.reducePow, Int.pow_zero, Int.ediv_one]
theorem numB_four {a b c d : Int} (ha : 0 ≤ a ∧ a < 256) (hb : 0 ≤ b ∧ b < 256) (hc : 0 ≤ c ∧ c < 256) (hd : 0 ≤ d ∧ d < 256) : numB [a, b, c, d] = a * 16777216 + b * 65536 + c * 256 + d ∧ 0 ≤ numB [a, b, c, d] ∧ numB [a, b, c, d] < 4294967296 ∧ beB (numB [a, b, c, d]) 4 = [a, b, c, d] := by
  have e : numB [a, b, c, d] = a * 16777216 + b * 65536 + c * 256 + d := by
    simp only [numB, List.foldl_cons, List.foldl_nil]
    omega
  refine ⟨e, by omega, by omega, ?_⟩
  rw [beB_four, e]
  simp only [List.cons.injEq, and_true]
  omega
/-- Twenty bytes that are an entry's. -/
def EntOk20 (x : List Int) : Prop := nth x 0 = 0 ∧ nth x 1 = 2 ∧ (∃ k : Nat, k ≤ 32 ∧ [nth x 8, nth x 9, nth x 10, nth x 11] = beB (maskV k) 4 ∧ netErr (numB [nth x 4, nth x 5, nth x 6, nth x 7]) k = none) ∧ ∃ m : Int, 1 ≤ m ∧ m ≤ 16 ∧ [nth x 16, nth x 17, nth x 18, nth x 19] = beB m 4
theorem mask_same {k k' : Nat} (hk : k ≤ 32) (hk' : k' ≤ 32) (h : maskV k = maskV k') : k = k' := by
  have h1 := mlenO_mask k (by omega)
  rw [h, mlenO_mask k' (by omega)] at h1
  exact (Option.some.inj h1).symm
theorem entD_iff {x : List Int} (hl : x.length = 20) (hb : ∀ v ∈ x, 0 ≤ v ∧ v < 256) : (entD x).isSome = true ↔ EntOk20 x := by
  have hn : ∀ i, i < 20 → 0 ≤ nth x i ∧ nth x i < 256 := fun i hi => hb _ (nth_mem x i (by omega))
  have t2 : numB (x.take 2) = nth x 0 * 256 + nth x 1 := by
    have := two_at x 0 (by omega)
    rw [List.drop_zero] at this
    rw [this]
    have h0 := hn 0 (by omega)
    have h1 := hn 1 (by omega)
    simp only [numB, List.foldl_cons, List.foldl_nil, Nat.reduceAdd]
    omega
  have tt : 0 ≤ numB ((x.drop 2).take 2) ∧ numB ((x.drop 2).take 2) ≤ 65535 := by
    rw [two_at x 2 (by omega)]
    have h0 := hn 2 (by omega)
    have h1 := hn 3 (by omega)
    simp only [numB, List.foldl_cons, List.foldl_nil, Nat.reduceAdd]
    omega
  have hm := numB_four (hn 8 (by omega)) (hn 9 (by omega)) (hn 10 (by omega)) (hn 11 (by omega))
  have he := numB_four (hn 16 (by omega)) (hn 17 (by omega)) (hn 18 (by omega)) (hn 19 (by omega))
  have hh0 := hn 0 (by omega)
  have hh1 := hn 1 (by omega)
  unfold entD EntOk20
  rw [t2, four_at x 8 (by omega), four_at x 4 (by omega), four_at x 16 (by omega)]
  generalize [nth x 8, nth x (8 + 1), nth x (8 + 2), nth x (8 + 3)] = M at *
  simp only [Nat.reduceAdd] at *
  constructor
  · intro h
    cases hq : mlenO (numB M) with
    | none => rw [hq] at h; cases h
    | some k =>
      rw [hq] at h
      simp only at h
      split at h
      · rename_i hc
        obtain ⟨c1, c2⟩ := hc
        obtain ⟨k1, k2⟩ := mlenO_some hq
        obtain ⟨e1, -, -, e4, e5⟩ := entErr_ok c2
        simp only at e1 e4 e5
        refine ⟨by omega, by omega, ⟨k, k1, by rw [k2]; exact hm.2.2.2.symm, e1⟩, ⟨_, e4, e5, he.2.2.2.symm⟩⟩
      · cases h
  · rintro ⟨h0, h1, ⟨k, hk, hM, hne⟩, m, m1, m2, hE⟩
    have hMv : numB M = maskV k := by rw [hM]; exact numB4 _ (maskV_bd k)
    rw [hMv, mlenO_mask k (by omega)]
    simp only
    rw [hE, numB4 m (by omega)]
    refine (congrArg Option.isSome (if_pos ⟨by omega, ?_⟩)).trans rfl
    unfold entErr
    simp only
    rw [hne]
    simp only
    rw [if_neg (by omega)]

/-- The beginning of an entry, made a whole one: a mask, a metric. -/
def wholeG (p : List Int) (k : Nat) (m : Int) : List Int := (List.range 20).map fun i =>
  if i < 2 then nth ([0, 2] : List Int) i else if i < 8 then (if i < p.length then nth p i else 0) else if i < 12 then nth (beB (maskV k) 4) (i - 8) else if i < 16 then (if i < p.length then nth p i else 0) else nth (beB m 4) (i - 16)
theorem wholeG_nth (p : List Int) (k : Nat) (m : Int) {i : Nat} (h : i < 20) : nth (wholeG p k m) i = if i < 2 then nth ([0, 2] : List Int) i else if i < 8 then (if i < p.length then nth p i else 0) else if i < 12 then nth (beB (maskV k) 4) (i - 8) else if i < 16 then (if i < p.length then nth p i else 0) else nth (beB m 4) (i - 16) := by
  unfold wholeG
  simp [nth, List.getD, h]
theorem wholeG_len (p : List Int) (k : Nat) (m : Int) : (wholeG p k m).length = 20 := by simp [wholeG]
/-- Can bytes be the beginning of an entry's? -/
def GoesP (p : List Int) : Prop := ∃ k : Nat, k ≤ 32 ∧ ∃ m : Nat, 1 ≤ m ∧ m ≤ 16 ∧ (∀ i, i < p.length → nth (wholeG p k m) i = nth p i) ∧ EntOk20 (wholeG p k m)
theorem filledD_nth (p : List Int) {i : Nat} (_h : i < 20) (_hp : p.length ≤ 20) : nth (filledD p) i = if i < p.length then nth p i else nth (baseF p) i := by
  unfold filledD
  by_cases hi : i < p.length
  · rw [nth_append_left _ _ _ hi, if_pos hi]
  · rw [nth_append_right _ _ _ (by omega), nth_drop, if_neg hi]
    congr 1
    omega
theorem mask_255 : ∀ k, k < 33 → ∀ j, j < 4 → nth (beB (maskV k) 4) j = 255 → ∀ i, i < j → nth (beB (maskV k) 4) i = 255 := by decide +kernel
theorem mask_0 : ∀ k, k < 33 → ∀ j, j < 4 → nth (beB (maskV k) 4) j ≠ 255 → ∀ i, i < 4 → j < i → nth (beB (maskV k) 4) i = 0 := by decide +kernel
theorem beB_small : ∀ m, m < 17 → ∀ i, i < 3 → nth (beB (m : Nat) 4) i = 0 := by decide +kernel
theorem list4 (x : List Int) (o : Nat) (y : List Int) (hy : y.length = 4) (h : ∀ i, i < 4 → nth x (o + i) = nth y i) : [nth x o, nth x (o + 1), nth x (o + 2), nth x (o + 3)] = y := by
  have h0 := h 0 (by omega)
  have h1 := h 1 (by omega)
  have h2 := h 2 (by omega)
  have h3 := h 3 (by omega)
  rw [Nat.add_zero] at h0
  rw [h0, h1, h2, h3]
  rcases y with _ | ⟨a, _ | ⟨b, _ | ⟨c, _ | ⟨d, _ | ⟨e, l⟩⟩⟩⟩⟩ <;> simp at hy
  rfl
theorem list4' {x : List Int} {o : Nat} {y : List Int} (h : [nth x o, nth x (o + 1), nth x (o + 2), nth x (o + 3)] = y) : ∀ i, i < 4 → nth x (o + i) = nth y i := by
  subst h
  intro i hi
  rcases i with _ | _ | _ | _ | i
  · rfl
  · rfl
  · rfl
  · rfl
  · omega
theorem goes_filled {p : List Int} (h1 : 1 ≤ p.length) (h20 : p.length < 20) : GoesP p ↔ EntOk20 (filledD p) := by
  have hF : ∀ i, i < 20 → nth (filledD p) i = if i < p.length then nth p i else nth (baseF p) i := fun i hi => filledD_nth p hi (by omega)
  have hb : ∀ i, i < 20 → ¬ (8 ≤ i ∧ i < 12) → nth (baseF p) i = nth ([0, 2, 0, 0, 0, 0, 0, 0, 0, 0, 0, 0, 0, 0, 0, 0, 0, 0, 0, 1] : List Int) i := by
    unfold baseF
    split
    · exact fun _ _ _ => rfl
    · decide +kernel
  constructor
  · rintro ⟨k, hk, m, m1, m2, hag, g0, g1, ⟨k', hk', hM', hne⟩, m', e1, e2, hE'⟩
    have hw : ∀ i, i < 20 → nth (wholeG p k m) i = _ := fun i hi => wholeG_nth p k m hi
    have hkk : k' = k := by
      have h2 : beB (maskV k) 4 = beB (maskV k') 4 := by
        rw [← hM']
        symm
        refine list4 _ 8 _ (beB_len _ _) (fun i hi => ?_)
        rw [hw _ (by omega), if_neg (by omega), if_neg (by omega), if_pos (by omega), show 8 + i - 8 = i by omega]
      refine mask_same hk' hk ?_
      rw [← numB4 _ (maskV_bd k'), ← h2, numB4 _ (maskV_bd k)]
    subst hkk
    clear hM' hE' e1 e2
    have hAddr : ∀ i, 4 ≤ i → i < 8 → nth (filledD p) i = nth (wholeG p k' m) i := fun i hi hi2 => by
      rw [hw i (by omega), if_neg (by omega), if_pos hi2, hF i (by omega)]
      by_cases hp : i < p.length
      · rw [if_pos hp, if_pos hp]
      · rw [if_neg hp, if_neg hp, hb i (by omega) (by omega)]
        rcases (show i = 4 ∨ i = 5 ∨ i = 6 ∨ i = 7 by omega) with rfl | rfl | rfl | rfl <;> rfl
    have hfst : nth (filledD p) 0 = 0 := by rw [hF 0 (by omega), if_pos (by omega), ← hag 0 (by omega)]; exact g0
    have hsnd : nth (filledD p) 1 = 2 := by
      rw [hF 1 (by omega)]
      by_cases hp : 1 < p.length
      · rw [if_pos hp, ← hag 1 hp]; exact g1
      · rw [if_neg hp, hb 1 (by omega) (by omega)]; rfl
    refine ⟨hfst, hsnd, ?_, 1, by omega, by omega, list4 _ 16 _ (beB_len _ _) (fun i hi => ?_)⟩
    · rw [hAddr 4 (by omega) (by omega), hAddr 5 (by omega) (by omega), hAddr 6 (by omega) (by omega), hAddr 7 (by omega) (by omega)]
      have hpm : ∀ i, i < 4 → 8 + i < p.length → nth p (8 + i) = nth (beB (maskV k') 4) i := fun i hi hp => by
        rw [← hag _ hp, hw _ (by omega), if_neg (by omega), if_neg (by omega), if_pos (by omega), show 8 + i - 8 = i by omega]
      have h255 : ∀ a : Int, netErr a 32 = none := fun a => by
        unfold netErr
        rw [if_neg (by omega), if_neg (by simp)]
      by_cases hc : 8 < p.length ∧ p.length < 12 ∧ nth p (p.length - 1) ≠ 255
      · refine ⟨k', hk', list4 _ 8 _ (beB_len _ _) (fun i hi => ?_), hne⟩
        rw [hF _ (by omega)]
        by_cases hp : 8 + i < p.length
        · rw [if_pos hp]; exact hpm i hi hp
        · rw [if_neg hp]
          have hbz : baseF p = [0, 2, 0, 0, 0, 0, 0, 0, 0, 0, 0, 0, 0, 0, 0, 0, 0, 0, 0, 1] := by unfold baseF; rw [if_pos hc]
          have hl := hpm (p.length - 9) (by omega) (by omega)
          rw [show 8 + (p.length - 9) = p.length - 1 by omega] at hl
          rw [hbz, mask_0 k' (by omega) (p.length - 9) (by omega) (by rw [← hl]; exact hc.2.2) i hi (by omega)]
          rcases (show i = 0 ∨ i = 1 ∨ i = 2 ∨ i = 3 by omega) with rfl | rfl | rfl | rfl <;> rfl
      · have hbo : baseF p = [0, 2, 0, 0, 0, 0, 0, 0, 255, 255, 255, 255, 0, 0, 0, 0, 0, 0, 0, 1] := by unfold baseF; rw [if_neg hc]
        by_cases h12 : 12 ≤ p.length
        · refine ⟨k', hk', list4 _ 8 _ (beB_len _ _) (fun i hi => ?_), hne⟩
          rw [hF _ (by omega), if_pos (by omega)]
          exact hpm i hi (by omega)
        · refine ⟨32, by omega, list4 _ 8 _ (beB_len _ _) (fun i hi => ?_), h255 _⟩
          have e32 : nth (beB (maskV 32) 4) i = 255 := by
            have : ∀ i, i < 4 → nth (beB (maskV 32) 4) i = 255 := by decide +kernel
            exact this i hi
          rw [hF _ (by omega), e32]
          by_cases hp : 8 + i < p.length
          · rw [if_pos hp]
            have hl : nth p (p.length - 1) = 255 := Classical.byContradiction fun h => hc ⟨by omega, by omega, h⟩
            have hl2 := hpm (p.length - 9) (by omega) (by omega)
            rw [show 8 + (p.length - 9) = p.length - 1 by omega, hl] at hl2
            rcases Nat.lt_or_ge i (p.length - 9) with q | q
            · rw [hpm i hi hp]; exact mask_255 k' (by omega) (p.length - 9) (by omega) hl2.symm i q
            · rw [show 8 + i = p.length - 1 by omega]; exact hl
          · rw [if_neg hp, hbo]
            rcases (show i = 0 ∨ i = 1 ∨ i = 2 ∨ i = 3 by omega) with rfl | rfl | rfl | rfl <;> rfl
    · rw [hF _ (by omega)]
      by_cases hp : 16 + i < p.length
      · rw [if_pos hp, ← hag _ hp, hw _ (by omega), if_neg (by omega), if_neg (by omega), if_neg (by omega), if_neg (by omega), show 16 + i - 16 = i by omega, beB_small m (by omega) i (by omega)]
        exact (beB_small 1 (by omega) i (by omega)).symm
      · rw [if_neg hp, hb _ (by omega) (by omega)]
        rcases (show i = 0 ∨ i = 1 ∨ i = 2 ∨ i = 3 by omega) with rfl | rfl | rfl | rfl <;> rfl
  · rintro ⟨g0, g1, ⟨k, hk, hM, hne⟩, m, e1, e2, hE⟩
    obtain ⟨m, rfl⟩ : ∃ q : Nat, m = q := ⟨m.toNat, by omega⟩
    have hw : ∀ i, i < 20 → nth (wholeG p k m) i = _ := fun i hi => wholeG_nth p k m hi
    have hM4 := list4' hM
    have hE4 := list4' hE
    have hAll : ∀ i, i < 20 → ¬ (12 ≤ i ∧ i < 16) → ¬ (2 ≤ i ∧ i < 4) → nth (wholeG p k m) i = nth (filledD p) i := fun i hi n1 n2 => by
      rw [hw i hi]
      rcases (show i = 0 ∨ i = 1 ∨ (4 ≤ i ∧ i < 8) ∨ (8 ≤ i ∧ i < 12) ∨ 16 ≤ i by omega) with rfl | rfl | h | h | h
      · rw [if_pos (by omega), g0]; rfl
      · rw [if_pos (by omega), g1]; rfl
      · rw [if_neg (by omega), if_pos (by omega), hF i hi]
        by_cases hp : i < p.length
        · rw [if_pos hp, if_pos hp]
        · rw [if_neg hp, if_neg hp, hb i hi (by omega)]
          rcases (show i = 4 ∨ i = 5 ∨ i = 6 ∨ i = 7 by omega) with rfl | rfl | rfl | rfl <;> rfl
      · rw [if_neg (by omega), if_neg (by omega), if_pos (by omega)]
        have := hM4 (i - 8) (by omega)
        rw [show 8 + (i - 8) = i by omega] at this
        exact this.symm
      · rw [if_neg (by omega), if_neg (by omega), if_neg (by omega), if_neg (by omega)]
        have := hE4 (i - 16) (by omega)
        rw [show 16 + (i - 16) = i by omega] at this
        exact this.symm
    refine ⟨k, hk, m, by omega, by omega, fun i hi => ?_, ?_⟩
    · by_cases hq : (12 ≤ i ∧ i < 16) ∨ (2 ≤ i ∧ i < 4)
      · rw [hw i (by omega)]
        rcases hq with hq | hq
        · rw [if_neg (by omega), if_neg (by omega), if_neg (by omega), if_pos (by omega), if_pos hi]
        · rw [if_neg (by omega), if_pos (by omega), if_pos hi]
      · rw [hAll i (by omega) (fun h => hq (.inl h)) (fun h => hq (.inr h)), hF i (by omega), if_pos hi]
    · unfold EntOk20
      rw [hAll 0 (by omega) (by omega) (by omega), hAll 1 (by omega) (by omega) (by omega), hAll 4 (by omega) (by omega) (by omega), hAll 5 (by omega) (by omega) (by omega), hAll 6 (by omega) (by omega) (by omega), hAll 7 (by omega) (by omega) (by omega), hAll 8 (by omega) (by omega) (by omega), hAll 9 (by omega) (by omega) (by omega), hAll 10 (by omega) (by omega) (by omega), hAll 11 (by omega) (by omega) (by omega),
        hAll 16 (by omega) (by omega) (by omega), hAll 17 (by omega) (by omega) (by omega), hAll 18 (by omega) (by omega) (by omega), hAll 19 (by omega) (by omega) (by omega)]
      exact ⟨g0, g1, ⟨k, hk, hM, hne⟩, m, e1, e2, hE⟩
theorem filled_bd {p : List Int} (h : ∀ x ∈ p, 0 ≤ x ∧ x < 256) : ∀ x ∈ filledD p, 0 ≤ x ∧ x < 256 := by
  intro x hx
  unfold filledD at hx
  rcases List.mem_append.1 hx with hx | hx
  · exact h x hx
  · have hx := List.mem_of_mem_drop hx
    have hd : ∀ y ∈ baseF p, 0 ≤ y ∧ y < 256 := by
      unfold baseF
      split <;> decide
    exact hd x hx
/-- The same, as the program tells it. -/
def goesB (p : List Int) : Bool := (entD (filledD p)).isSome
theorem goesB_yes {p : List Int} (h1 : 1 ≤ p.length) (h20 : p.length < 20) (hb : ∀ x ∈ p, 0 ≤ x ∧ x < 256) (h : GoesP p) : goesB p = true := (entD_iff (filledD_len p (by omega)) (filled_bd hb)).2 ((goes_filled h1 h20).1 h)
theorem goesB_no {p : List Int} (h1 : 1 ≤ p.length) (h20 : p.length < 20) (hb : ∀ x ∈ p, 0 ≤ x ∧ x < 256) (h : ¬ GoesP p) : goesB p = false := by
  cases e : goesB p with
  | false => rfl
  | true => exact absurd ((goes_filled h1 h20).2 ((entD_iff (filledD_len p (by omega)) (filled_bd hb)).1 e)) h
/-- The entries of a message, as the document has them. -/
def msgG : Nat → List Int → List En → Except Int (List En)
  | 0, _, acc => .ok acc
  | k + 1, rest, acc => if rest = [] then .ok acc else if acc.length = 25 then .error 3 else if rest.length < 20 then (if goesB rest = true then .error 6 else .error 3) else match entD (rest.take 20) with
    | none => .error 3
    | some e => msgG k (rest.drop 20) (acc ++ [e])
theorem partsD_nil (k : Nat) (acc : List En) : partsD k [] acc = some acc := by
  cases k with
  | zero => rfl
  | succ k => unfold partsD; rw [if_pos rfl]
theorem msgG_eq : ∀ (k : Nat) (rest : List Int) (acc : List En), rest.length ≤ k → msgG k rest acc = match partsD k rest acc with
    | none => .error 3
    | some l => if rest.length % 20 ≠ 0 then .error 6 else .ok l
  | 0, rest, acc, h => by
    obtain rfl : rest = [] := List.length_eq_zero_iff.1 (by omega)
    rfl
  | k + 1, rest, acc, h => by
    unfold msgG partsD
    by_cases h0 : rest = []
    · subst h0
      rw [if_pos rfl, if_pos rfl]
      rfl
    · have hpos : 0 < rest.length := List.length_pos_iff.2 h0
      rw [if_neg h0, if_neg h0]
      by_cases h25 : acc.length = 25
      · rw [if_pos h25]
        simp only [if_pos h25]
        cases entD (filledD (rest.take 20)) <;> rfl
      · rw [if_neg h25]
        simp only [if_neg h25]
        by_cases h20 : rest.length < 20
        · rw [if_pos h20, List.take_of_length_le (by omega)]
          unfold goesB
          cases he : entD (filledD rest) with
          | none => rfl
          | some e =>
            have hd : rest.drop 20 = [] := List.drop_of_length_le (by omega)
            simp only [Option.isSome_some, if_true]
            rw [hd, partsD_nil]
            simp only
            rw [if_pos (by rw [Nat.mod_eq_of_lt h20]; omega)]
        · rw [if_neg h20, filledD_whole _ (by simp; omega)]
          cases he : entD (rest.take 20) with
          | none => rfl
          | some e =>
            simp only
            rw [msgG_eq k (rest.drop 20) (acc ++ [e]) (by simp; omega)]
            have hm : (rest.drop 20).length % 20 = rest.length % 20 := by rw [List.length_drop]; omega
            rw [hm]
/-- The head's bytes, as the document looks at them. -/
def headG (b : List Int) : Prop := ∃ i, i < 4 ∧ i < b.length ∧ nth b i ≠ nth ([2, 2, 0, 0] : List Int) i ∧ (0 < i ∨ nth b 0 ≠ 1)
theorem headG_eq (b : List Int) : headG b ↔ headBad (headD b) := by
  have hn : ∀ i, i < 4 → nth (headD b) i = if i < b.length then nth b i else nth ([2, 2, 0, 0] : List Int) i := fun i hi => by
    unfold headD
    by_cases h : b.length < 4
    · rw [if_pos h]
      by_cases hp : i < b.length
      · rw [nth_append_left _ _ _ hp, if_pos hp]
      · rw [nth_append_right _ _ _ (by omega), nth_drop, if_neg hp]
        congr 1
        omega
    · rw [if_neg h, if_pos (by omega)]
  unfold headG headBad
  rw [hn 0 (by omega), hn 1 (by omega), hn 2 (by omega), hn 3 (by omega)]
  have z0 : nth ([2, 2, 0, 0] : List Int) 0 = 2 := rfl
  have z1 : nth ([2, 2, 0, 0] : List Int) 1 = 2 := rfl
  have z2 : nth ([2, 2, 0, 0] : List Int) 2 = 0 := rfl
  have z3 : nth ([2, 2, 0, 0] : List Int) 3 = 0 := rfl
  rw [z0, z1, z2, z3]
  constructor
  · rintro ⟨i, h4, hl, hne, ho⟩
    rcases (show i = 0 ∨ i = 1 ∨ i = 2 ∨ i = 3 by omega) with rfl | rfl | rfl | rfl
    · rw [z0] at hne
      left
      rw [if_pos hl]
      exact ⟨by omega, hne⟩
    · rw [z1] at hne
      right; left
      rw [if_pos hl]
      exact hne
    · rw [z2] at hne
      right; right; left
      rw [if_pos hl]
      exact hne
    · rw [z3] at hne
      right; right; right
      rw [if_pos hl]
      exact hne
  · rintro (h | h | h | h)
    · by_cases hl : 0 < b.length
      · rw [if_pos hl] at h
        exact ⟨0, by omega, hl, by rw [z0]; exact h.2, .inr h.1⟩
      · rw [if_neg hl] at h
        exact absurd rfl h.2
    · by_cases hl : 1 < b.length
      · rw [if_pos hl] at h
        exact ⟨1, by omega, hl, by rw [z1]; exact h, .inl (by omega)⟩
      · rw [if_neg hl] at h
        exact absurd rfl h
    · by_cases hl : 2 < b.length
      · rw [if_pos hl] at h
        exact ⟨2, by omega, hl, by rw [z2]; exact h, .inl (by omega)⟩
      · rw [if_neg hl] at h
        exact absurd rfl h
    · by_cases hl : 3 < b.length
      · rw [if_pos hl] at h
        exact ⟨3, by omega, hl, by rw [z3]; exact h, .inl (by omega)⟩
      · rw [if_neg hl] at h
        exact absurd rfl h
/-- The message of bytes, as the document has it. -/
theorem decD_bad {b : List Int} (h : headG b) : decD b = .error 3 := if_pos ((headG_eq b).1 h)
theorem decD_short {b : List Int} (h : ¬ headG b) (hl : b.length < 4) : decD b = .error 6 := by
  have hd : (headD b).drop 4 = [] := List.drop_of_length_le (by unfold headD; rw [if_pos hl]; simp; omega)
  unfold decD
  rw [if_neg (fun q => h ((headG_eq b).2 q)), hd, partsD_nil]
  simp only
  rw [if_pos (.inl hl)]
theorem decD_msg {b : List Int} (h : ¬ headG b) (hl : 4 ≤ b.length) : decD b = match msgG b.length (b.drop 4) [] with
    | .error k => .error k
    | .ok l => .ok (decide (nth b 0 = 1), l) := by
  have hd : headD b = b := by unfold headD; rw [if_neg (by omega)]
  unfold decD
  rw [if_neg (fun q => h ((headG_eq b).2 q)), hd, msgG_eq _ _ _ (by simp)]
  cases partsD b.length (b.drop 4) [] with
  | none => rfl
  | some l =>
    simp only [List.length_drop]
    by_cases hs : (b.length - 4) % 20 ≠ 0
    · rw [if_pos (.inr hs), if_pos hs]
    · rw [if_neg (fun q => q.elim (fun q => by omega) hs), if_neg hs]
end Go.Proofs.YtfglidaicjjpfaaGreatDoor
end

section
namespace Go.Proofs.YtfglidaicjjpfaaGreatDoor
open Go.RowKit

/-! The document's entry and the making of a whole one: plain laws. -/
theorem two_num (x : List Int) (k : Nat) (h : k + 2 ≤ x.length) (hb : ∀ v ∈ x, 0 ≤ v ∧ v < 256) : numB ((x.drop k).take 2) = nth x k * 256 + nth x (k + 1) := by
  rw [two_at x k h]
  have h0 := hb _ (nth_mem x k (by omega))
  have h1 := hb _ (nth_mem x (k + 1) (by omega))
  simp only [numB, List.foldl_cons, List.foldl_nil]
  omega
/-- Twenty bytes that are an entry's, part by part. -/
def EntP (x : List Int) (k : Nat) : Prop := nth x 0 = 0 ∧ nth x 1 = 2 ∧ maskV k = numB ((x.drop 8).take 4) ∧ netErr (numB ((x.drop 4).take 4)) k = none ∧ 1 ≤ numB ((x.drop 16).take 4) ∧ numB ((x.drop 16).take 4) ≤ 16
/-- What stands in twenty bytes. -/
def entV (x : List Int) (k : Nat) : En := ⟨numB ((x.drop 4).take 4), k, numB ((x.drop 2).take 2), numB ((x.drop 12).take 4), numB ((x.drop 16).take 4)⟩
theorem entD_yes {x : List Int} (hl : x.length = 20) (hb : ∀ v ∈ x, 0 ≤ v ∧ v < 256) {k : Nat} (hk : k ≤ 32) (h : EntP x k) : entD x = some (entV x k) := by
  obtain ⟨h0, h1, hM, hn, m1, m2⟩ := h
  have t2 := two_num x 0 (by omega) hb
  rw [List.drop_zero] at t2
  have tt := two_num x 2 (by omega) hb
  have b2 := hb _ (nth_mem x 2 (by omega))
  have b3 := hb _ (nth_mem x (2 + 1) (by omega))
  unfold entD
  rw [← hM, mlenO_mask k (by omega)]
  simp only
  have he : entErr ⟨numB ((x.drop 4).take 4), k, numB ((x.drop 2).take 2), numB ((x.drop 12).take 4), numB ((x.drop 16).take 4)⟩ = none := by
    unfold entErr
    simp only
    rw [hn]
    simp only
    rw [if_neg (by omega)]
  rw [if_pos ⟨by rw [t2]; simp only [Nat.zero_add]; omega, he⟩]
  rfl
theorem entD_no {x : List Int} (hl : x.length = 20) (hb : ∀ v ∈ x, 0 ≤ v ∧ v < 256) {k : Nat} (hk : k ≤ 32) (hf : ∀ j, j < k → maskV j ≠ numB ((x.drop 8).take 4)) (hs : k = 32 ∨ maskV k = numB ((x.drop 8).take 4)) (h : ¬ EntP x k) : entD x = none := by
  cases he : entD x with
  | none => rfl
  | some e =>
    exfalso
    apply h
    have t2 := two_num x 0 (by omega) hb
    rw [List.drop_zero] at t2
    have b0 := hb _ (nth_mem x 0 (by omega))
    have b1 := hb _ (nth_mem x (0 + 1) (by omega))
    simp only [Nat.zero_add] at t2 b1
    unfold entD at he
    cases hq : mlenO (numB ((x.drop 8).take 4)) with
    | none => rw [hq] at he; cases he
    | some k' =>
      rw [hq] at he
      simp only at he
      obtain ⟨k1, k2⟩ := mlenO_some hq
      split at he
      · rename_i hc
        obtain ⟨c1, c2⟩ := hc
        obtain ⟨e1, -, -, e4, e5⟩ := entErr_ok c2
        simp only at e1 e4 e5
        have hkk : k' = k := by
          rcases Nat.lt_trichotomy k' k with q | q | q
          · exact absurd k2 (hf k' q)
          · exact q
          · exfalso
            rcases hs with hs | hs
            · omega
            · have := mask_same hk k1 (hs.trans k2.symm)
              omega
        subst hkk
        exact ⟨by omega, by omega, k2, e1, e4, e5⟩
      · cases he
/-- The first eight bytes, those below j laid. -/
def g8 (p : List Int) (j : Nat) : List Int := (List.range 8).map fun i => if i < 2 then nth ([0, 2] : List Int) i else if i < j ∧ i < p.length then nth p i else 0
def hopG (p : List Int) (j : Nat) : List Int := (List.range 4).map fun i => if 12 + i < j ∧ 12 + i < p.length then nth p (12 + i) else 0
theorem g8_nth (p : List Int) (j : Nat) {i : Nat} (h : i < 8) : nth (g8 p j) i = if i < 2 then nth ([0, 2] : List Int) i else if i < j ∧ i < p.length then nth p i else 0 := by
  unfold g8; simp [nth, List.getD, h]
theorem hopG_nth (p : List Int) (j : Nat) {i : Nat} (h : i < 4) : nth (hopG p j) i = if 12 + i < j ∧ 12 + i < p.length then nth p (12 + i) else 0 := by
  unfold hopG; simp [nth, List.getD, h]
theorem g8_len (p : List Int) (j : Nat) : (g8 p j).length = 8 := by simp [g8]
theorem hopG_len (p : List Int) (j : Nat) : (hopG p j).length = 4 := by simp [hopG]
theorem g8_start (p : List Int) : g8 p 2 = [0, 2, 0, 0, 0, 0, 0, 0] := by
  refine ext_nth (by rw [g8_len]; rfl) (fun i hi => ?_)
  rw [g8_len] at hi
  rw [g8_nth p 2 hi]
  rcases (show i = 0 ∨ i = 1 ∨ i = 2 ∨ i = 3 ∨ i = 4 ∨ i = 5 ∨ i = 6 ∨ i = 7 by omega) with rfl | rfl | rfl | rfl | rfl | rfl | rfl | rfl <;> rfl
theorem hopG_start (p : List Int) : hopG p 12 = [0, 0, 0, 0] := by
  refine ext_nth (by rw [hopG_len]; rfl) (fun i hi => ?_)
  rw [hopG_len] at hi
  rw [hopG_nth p 12 hi, if_neg (by omega)]
  rcases (show i = 0 ∨ i = 1 ∨ i = 2 ∨ i = 3 by omega) with rfl | rfl | rfl | rfl <;> rfl
theorem g8_step (p : List Int) {j : Nat} (h2 : 2 ≤ j) (h8 : j < 8) (hp : j < p.length) : g8 p (j + 1) = (g8 p j).set j (nth p j) := by
  refine ext_nth (by rw [List.length_set, g8_len, g8_len]) (fun i hi => ?_)
  rw [g8_len] at hi
  rw [nth_set _ _ _ _ (by rw [g8_len]; exact h8), g8_nth p _ hi, g8_nth p _ hi]
  by_cases e : i = j
  · subst e
    rw [if_neg (by omega), if_pos ⟨by omega, hp⟩, if_pos rfl]
  · rw [if_neg e]
    by_cases c : i < 2
    · rw [if_pos c, if_pos c]
    · rw [if_neg c, if_neg c]
      by_cases d : i < j ∧ i < p.length
      · rw [if_pos d, if_pos ⟨by omega, d.2⟩]
      · rw [if_neg d, if_neg (by omega)]
theorem hopG_step (p : List Int) {j : Nat} (h4 : j < 4) (hp : 12 + j < p.length) : hopG p (12 + j + 1) = (hopG p (12 + j)).set j (nth p (12 + j)) := by
  refine ext_nth (by rw [List.length_set, hopG_len, hopG_len]) (fun i hi => ?_)
  rw [hopG_len] at hi
  rw [nth_set _ _ _ _ (by rw [hopG_len]; exact h4), hopG_nth p _ hi, hopG_nth p _ hi]
  by_cases e : i = j
  · subst e
    rw [if_pos ⟨by omega, hp⟩, if_pos rfl]
  · rw [if_neg e]
    by_cases d : 12 + i < 12 + j ∧ 12 + i < p.length
    · rw [if_pos d, if_pos ⟨by omega, d.2⟩]
    · rw [if_neg d, if_neg (by omega)]
theorem wholeG_eq (p : List Int) (k : Nat) (m : Int) {j j' : Nat} (hj : 8 ≤ j ∨ p.length ≤ j) (hj' : 16 ≤ j' ∨ p.length ≤ j') : wholeG p k m = g8 p j ++ beB (maskV k) 4 ++ hopG p j' ++ beB m 4 := by
  refine ext_nth (by simp only [List.length_append, wholeG_len, g8_len, hopG_len, beB_len]) (fun i hi => ?_)
  rw [wholeG_len] at hi
  rw [wholeG_nth p k m hi]
  by_cases h8 : i < 8
  · rw [nth_append_left _ _ _ (by simp only [List.length_append, g8_len, hopG_len, beB_len]; omega), nth_append_left _ _ _ (by simp only [List.length_append, g8_len, beB_len]; omega), nth_append_left _ _ _ (by rw [g8_len]; omega), g8_nth p j h8]
    by_cases c : i < 2
    · rw [if_pos c, if_pos c]
    · rw [if_neg c, if_neg c, if_pos h8]
      by_cases d : i < p.length
      · rw [if_pos d, if_pos ⟨by omega, d⟩]
      · rw [if_neg d, if_neg (fun q => d q.2)]
  · rw [if_neg (by omega), if_neg h8]
    by_cases h12 : i < 12
    · rw [if_pos h12, nth_append_left _ _ _ (by simp only [List.length_append, g8_len, hopG_len, beB_len]; omega), nth_append_left _ _ _ (by simp only [List.length_append, g8_len, beB_len]; omega), nth_append_right _ _ _ (by rw [g8_len]; omega), g8_len]
    · rw [if_neg h12]
      by_cases h16 : i < 16
      · rw [if_pos h16, nth_append_left _ _ _ (by simp only [List.length_append, g8_len, hopG_len, beB_len]; omega), nth_append_right _ _ _ (by simp only [List.length_append, g8_len, beB_len]; omega)]
        simp only [List.length_append, g8_len, beB_len]
        rw [hopG_nth p j' (by omega), show 12 + (i - (8 + 4)) = i by omega]
        by_cases d : i < p.length
        · rw [if_pos d, if_pos ⟨by omega, d⟩]
        · rw [if_neg d, if_neg (fun q => d q.2)]
      · rw [if_neg h16, nth_append_right _ _ _ (by simp only [List.length_append, g8_len, hopG_len, beB_len]; omega)]
        simp only [List.length_append, g8_len, hopG_len, beB_len]
def OneG (p : List Int) (k m : Nat) : Prop := (∀ i, i < p.length → nth (wholeG p k m) i = nth p i) ∧ EntOk20 (wholeG p k m)
/-- None of the first masks and metrics goes. -/
def NoneG (p : List Int) (k m : Nat) : Prop := (∀ k' m', k' < k → 1 ≤ m' → m' ≤ 16 → ¬ OneG p k' m') ∧ ∀ m', 1 ≤ m' → m' < m → ¬ OneG p k m'
theorem noneG_0 (p : List Int) : NoneG p 0 1 := ⟨fun _ _ h => absurd h (Nat.not_lt_zero _), fun _ h1 h2 => by omega⟩
theorem noneG_m {p : List Int} {k m : Nat} (h : NoneG p k m) (hn : ¬ OneG p k m) : NoneG p k (m + 1) := ⟨h.1, fun m' h1 h2 => by
  rcases Nat.lt_or_ge m' m with q | q
  · exact h.2 m' h1 q
  · rw [show m' = m by omega]; exact hn⟩
theorem noneG_k {p : List Int} {k : Nat} (h : NoneG p k 17) : NoneG p (k + 1) 1 := ⟨fun k' m' hk h1 h2 => by
  rcases Nat.lt_or_ge k' k with q | q
  · exact h.1 k' m' q h1 h2
  · rw [show k' = k by omega]; exact h.2 m' h1 (by omega), fun _ h1 h2 => by omega⟩
theorem goes_yes {p : List Int} {k m : Nat} (hk : k ≤ 32) (h1 : 1 ≤ m) (h2 : m ≤ 16) (h : OneG p k m) : GoesP p := ⟨k, hk, m, h1, h2, h⟩
theorem goes_no {p : List Int} (h : NoneG p 33 1) : ¬ GoesP p := fun ⟨k, hk, m, h1, h2, h3⟩ => h.1 k m (by omega) h1 h2 h3
theorem wholeG_bd {p : List Int} (hb : ∀ x ∈ p, 0 ≤ x ∧ x < 256) (k : Nat) (m : Int) : ∀ x ∈ wholeG p k m, 0 ≤ x ∧ x < 256 := by
  rw [wholeG_eq p k m (j := 8) (j' := 16) (.inl (Nat.le_refl _)) (.inl (Nat.le_refl _))]
  have hz : ∀ i, 0 ≤ nth p i ∧ nth p i < 256 := fun i => by
    by_cases h : i < p.length
    · exact hb _ (nth_mem p i h)
    · rw [nth_default p i (by omega)]; decide
  intro x hx
  simp only [List.mem_append] at hx
  rcases hx with ((hx | hx) | hx) | hx
  · obtain ⟨i, hi, rfl⟩ := List.mem_map.1 hx
    split
    · rcases (show i = 0 ∨ i = 1 by omega) with rfl | rfl <;> decide
    · split
      · exact hz i
      · decide
  · exact beB_bd _ _ x hx
  · obtain ⟨i, hi, rfl⟩ := List.mem_map.1 hx
    split
    · exact hz _
    · decide
  · exact beB_bd _ _ x hx
theorem msgG_end (k : Nat) (acc : List En) : msgG k [] acc = .ok acc := by
  cases k with
  | zero => rfl
  | succ k => unfold msgG; rw [if_pos rfl]
/-- One head's byte that is wrong. -/
def headB (b : List Int) (i : Nat) : Prop := nth b i ≠ nth ([2, 2, 0, 0] : List Int) i ∧ (0 < i ∨ nth b 0 ≠ 1)
end Go.Proofs.YtfglidaicjjpfaaGreatDoor
end

section
namespace Go.Proofs.YtfglidaicjjpfaaGreatDoor
open Go.RowKit
/-! ### The law's own bytes -/
theorem maskRef_or : ∀ k, k < 32 → bits .or .u32 (maskV k) (2 ^ (31 - k) % 4294967296) = maskV (k + 1) := by decide +kernel
set_option maxRecDepth 100000 in
set_option maxHeartbeats 1000000 in
theorem maskRef_any (n : Nat) (w : World) (hn : n ≤ 32) : Calls Tryz.prog 50 #[.int .i64 n] w (fun e w' => e = .returned (.int .u32 (maskV n)) ∧ w' = w) := by
  go_enter Tryz.func50, Tryz.ntmps50
  go_wp2
  go_loopw [4, 3] (fun s4 s3 wr => ∃ k : Nat, k ≤ n ∧ s4 = .int .i64 k ∧ s3 = .int .u32 (maskV k) ∧ wr = w) (fun s _ _ => n - (intOf s).toNat)
  case atStart => exact ⟨0, by omega, rfl, rfl, rfl⟩
  case round =>
    obtain ⟨k, hk, rfl, rfl, rfl⟩ := hrel
    by_cases hkn : k < n
    · have HO := Lib.hid (maskRef_or k (by omega))
      go_wp2_with (fail)
      exact ⟨⟨k + 1, by omega, by go_num, by rw [HO.out], trivial⟩, by simp [intOf]; omega⟩
    · obtain rfl : k = n := by omega
      go_wp2
      go_ret
      exact ⟨rfl, rfl⟩
theorem beB4 (n : Int) : beB n 4 = [n / 16777216 % 256, n / 65536 % 256, n / 256 % 256, n % 256] := by
  simp only [beB, Nat.reduceMul, Nat.mul_zero, Nat.mul_one, Int.reducePow, Int.pow_zero, Int.ediv_one]
set_option maxRecDepth 100000 in
set_option maxHeartbeats 1000000 in
theorem four_any (n : Int) (w : World) (hn : 0 ≤ n ∧ n < 4294967296) : Calls Tryz.prog 60 #[.int .u32 n] w (fun e w' => e = .returned (.slice (some ⟨w.heap.size, 0, none⟩) 4 4) ∧ w' = w.alloc (.cells (ivals .u8 (beB n 4)).toArray 5)) := by
  have HE := Lib.hid (show (ivals .u8 (beB n 4)).toArray = #[.int .u8 (n / 16777216), .int .u8 (n / 65536 % 256), .int .u8 (n / 256 % 256), .int .u8 (n % 256)] by rw [beB4, show n / 16777216 % 256 = n / 16777216 by omega]; rfl)
  go_enter Tryz.func60, Tryz.ntmps60
  go_wp2
  go_ret
  refine ⟨rfl, ?_⟩
  rw [HE.out]
theorem u8s_pos {H : Array Obj} {a : Option Addr} {l : List Int} (h : Rd H a l.length 1 (ivals .u8 l)) (hn : 0 < l.length) :
    ∃ b off, a = some ⟨b, off, none⟩ ∧ b < H.size ∧ ∀ (w : World), w.heap = H → ∀ k, k < l.length → w.cell? ⟨b, off + k, none⟩ = some (.int .u8 (nth l k)) := by
  obtain ⟨b, off, e, hb, hc⟩ := h.pos (by omega)
  refine ⟨b, off, e, hb, fun w hw k hk => ?_⟩
  rw [hc w hw k (by omega), ivals_get .u8 l k hk]
set_option maxRecDepth 100000 in
set_option maxHeartbeats 1000000 in
theorem u8s_any {N M : Nat} (l m : List Int) (a b : Option Addr) (c d : Nat) (w : World) (ha : Rd w.heap a N 1 (ivals .u8 l)) (hb : Rd w.heap b M 1 (ivals .u8 m)) (hl : l.length ≤ 9223372036854775807) (hm : m.length ≤ 9223372036854775807) (hN : N = l.length) (hM : M = m.length) :
    Calls Tryz.prog 28 #[.slice a N c, .slice b M d] w (RetQ w (.bool (decide (l = m)))) := by
  subst hN
  subst hM
  go_enter Tryz.func28, Tryz.ntmps28
  by_cases hlen : l.length = m.length
  · have hne : ((l.length : Int) != (m.length : Int)) = false := by simp [hlen]
    have HL : Hid (l.length = m.length) := Lib.hid hlen
    clear hlen
    go_wp2
    go_loopw [5] (fun i wr => ∃ k n : Nat, k ≤ l.length ∧ i = .int .i64 k ∧ wr = w.drewN n ∧ Hid (l.take k = m.take k)) (fun i _ => l.length - (intOf i).toNat)
    case atStart => exact ⟨0, 0, by omega, rfl, rfl, rfl⟩
    case round =>
      obtain ⟨k, n, hk, rfl, rfl, hE⟩ := hrel
      by_cases hlt : k < l.length
      · have hlm : k < m.length := by have := HL.out; omega
        obtain ⟨g1, o1, rfl, q1, c1⟩ := u8s_pos ha (by omega)
        obtain ⟨g2, o2, rfl, q2, c2⟩ := u8s_pos hb (by omega)
        have d1 := c1 w rfl k hlt
        have d2 := c2 w rfl k hlm
        clear c1 c2
        by_cases he : nth l k = nth m k
        · have hb : (nth l k != nth m k) = false := by simp [he]
          have hE' : Hid (l.take (k + 1) = m.take (k + 1)) := (by rw [take_succ_nth l k hlt, take_succ_nth m k hlm, hE.out, he] : l.take (k + 1) = m.take (k + 1))
          clear he
          go_wp2
          go_quiet (fail)
          go_wp2
          go_roundw
          case rel => exact ⟨k + 1, n + nq, by omega, by go_num, by simp, hE'⟩
          case measure => simp [intOf]; omega
        · have hb : (nth l k != nth m k) = true := by simp [he]
          have hX : Hid (decide (l = m) = false) := (by
            apply decide_eq_false
            intro h
            exact he (by rw [h]) : decide (l = m) = false)
          clear he
          go_wp2
          go_quiet (fail)
          go_wp2
          go_ret
          exact RetQ.mk (show Value.bool false = _ from (by rw [hX.out])) rfl (n + nq) (by simp)
      · obtain rfl : k = l.length := by omega
        have hX : Hid (decide (l = m) = true) := (by
          apply decide_eq_true
          have h := hE.out
          rw [List.take_length, HL.out, List.take_length] at h
          exact h : decide (l = m) = true)
        go_wp2
        go_ret
        exact RetQ.mk (show Value.bool true = _ from (by rw [hX.out])) rfl (n) (rfl)
  · have hne : ((l.length : Int) != (m.length : Int)) = true := by simp; omega
    have hX : Hid (decide (l = m) = false) := (by
      apply decide_eq_false
      intro h
      exact hlen (by rw [h]) : decide (l = m) = false)
    clear hlen
    go_wp2
    go_ret
    exact RetQ.mk (show Value.bool false = _ from (by rw [hX.out])) rfl (0) (rfl)

/-- Four bytes put behind others: what is left to say. -/
theorem put4_step {w W w8 : World} {B Bd : Nat} {cs ms : List Value} {ob ob8 : Option Nat} (hF : Fr (fun _ => False) w W) (hB : Blk W.heap B 87 cs) (hM : Blk W.heap w.heap.size 26 ms) (hN : ∀ g, ob = some g → w.heap.size < g ∧ g ≠ B) (v2 : Fr (fun k => ob = some k) W w8) (v3 : ob8 = ob ∨ ∃ g, ob8 = some g ∧ Bd ≤ g) (hBd : Bd = W.heap.size) :
    Fr (fun _ => False) w w8 ∧ Blk w8.heap B 87 cs ∧ Blk w8.heap w.heap.size 26 ms ∧ (∀ g, ob8 = some g → w.heap.size < g ∧ g ≠ B) ∧ B < w8.heap.size := by
  have h1 := hB.lt
  have h2 := hM.lt
  refine ⟨hF.trans' v2 (fun i hi e => by have := (hN i e).1; omega), hB.fr v2 (fun e => (hN B e).2 rfl), hM.fr v2 (fun e => absurd (hN _ e).1 (Nat.lt_irrefl _)), fun g hg => ?_, Nat.lt_of_lt_of_le h1 v2.size⟩
  rcases v3 with h | ⟨g', h, h'⟩
  · exact hN g (by rw [← h, hg])
  · rw [hg] at h; cases h
    exact ⟨by omega, by omega⟩
theorem rd_u8s (w : World) (ys : List Int) (N : Nat) (h : ys.length = N) (hp : 0 < N) (hb : N ≤ 4) : Rd (w.alloc (.cells (ivals .u8 ys).toArray 5)).heap (some ⟨w.heap.size, 0, none⟩) N 1 (ivals .u8 ys) :=
  (Ownd.made w 5 1 N (ivals .u8 ys) (by simp [ivals, h]) (Nat.le_trans hb (by decide))).rd
theorem rd_u8s1 (w : World) (o : Obj) (ys : List Int) (N : Nat) (h : ys.length = N) (hp : 0 < N) (hb : N ≤ 4) : Rd ((w.alloc o).alloc (.cells (ivals .u8 ys).toArray 5)).heap (some ⟨w.heap.size + 1, 0, none⟩) N 1 (ivals .u8 ys) := by
  have := rd_u8s (w.alloc o) ys N h hp hb
  rwa [show (w.alloc o).heap.size = w.heap.size + 1 by simp] at this
set_option maxRecDepth 100000 in
set_option maxHeartbeats 8000000 in
theorem bytesOf_any {M : Nat} (ask : Bool) (l : List En) (al : Option Addr) (cl : Nat) (w : World) (hL : Recs w.heap al 5 En.cells l) (hw : ∀ e ∈ l, En.wf e) (hE : msgErr l = none) (hM : M = l.length) :
    Calls Tryz.prog 26 #[.agg #[.bool ask, .slice al M cl]] w (fun e w' => ∃ a c ob, e = .returned (.slice a (encD ask l).length c) ∧ Ownd w'.heap 5 1 a (encD ask l).length c (ivals .u8 (encD ask l)) ob ∧ Fr (fun _ => False) w w') := by
  subst hM
  have hll : l.length ≤ 25 := by
    unfold msgErr at hE
    split at hE
    · cases hE
    · omega
  have hok : ∀ e ∈ l, entErr e = none := by
    unfold msgErr at hE
    rw [if_neg (by omega)] at hE
    exact entsErr_ok hE
  have HOK := Lib.hid hok
  have HL := Lib.hid hL
  have HW := Lib.hid hw
  clear hL hw hE hok
  cases ask with
  | true =>
    obtain ⟨hd, hd0⟩ : ∃ hd : Int, hd = 1 := ⟨_, rfl⟩
    have hM := Blk.made w 26 [.bool true, .slice al l.length cl]
    have b0 := hM.cell 0
    have b1 := hM.cell 1
    have bl := hM.lt
    simp only [List.getElem?_cons_succ, List.getElem?_cons_zero] at b0 b1
    have hF0 := ((Fr.refl (fun _ => False) w).alloc (.cells #[.bool true, .slice al l.length cl] 26)).alloc (.cells #[.int .u8 1, .int .u8 2, .int .u8 0, .int .u8 0] 5)
    have hM1 := hM.alloc (.cells #[.int .u8 1, .int .u8 2, .int .u8 0, .int .u8 0] 5)
    have hO1 : Ownd ((w.alloc (.cells #[.bool true, .slice al l.length cl] 26)).alloc (.cells #[.int .u8 1, .int .u8 2, .int .u8 0, .int .u8 0] 5)).heap 5 1 (some ⟨w.heap.size + 1, 0, none⟩) 4 4 (ivals .u8 [1, 2, 0, 0]) (some (w.heap.size + 1)) := by
      have := Ownd.made (w.alloc (.cells #[.bool true, .slice al l.length cl] 26)) 5 1 4 (ivals .u8 [1, 2, 0, 0]) (by rfl) (by decide)
      rwa [show (w.alloc (.cells #[.bool true, .slice al l.length cl] 26)).heap.size = w.heap.size + 1 by simp] at this
    have HHD := Lib.hid hd0
    clear hM hd0
    go_enter Tryz.func26, Tryz.ntmps26
    have HFF := Lib.hid hF0
    have HMM := Lib.hid hM1
    have HOO := Lib.hid hO1
    clear hF0 hM1 hO1
    go_wp2
    go_loopw [4, 3] (fun s4 s3 wr => ∃ (k : Nat) (a0 : Option Addr) (c0 : Nat) (ob0 : Option Nat), k ≤ l.length ∧ s4 = .int .i64 k ∧ s3 = .slice a0 (4 + 20 * k) c0 ∧ Ownd wr.heap 5 1 a0 (4 + 20 * k) c0 (ivals .u8 (hd :: 2 :: 0 :: 0 :: (l.take k).flatMap entB)) ob0 ∧ Fr (fun _ => False) w wr ∧ Blk wr.heap w.heap.size 26 [.bool true, .slice al l.length cl] ∧ ∀ g, ob0 = some g → w.heap.size < g) (fun s _ _ => l.length - (intOf s).toNat)
    case atStart => exact ⟨0, _, 4, _, by omega, rfl, rfl, by rw [HHD.out]; simpa [ivals] using HOO.out, HFF.out, HMM.out, fun g hg => by cases hg; omega⟩
    case round =>
      obtain ⟨k, a0, c0, ob0, hk, rfl, rfl, hO, hF, hMr, hN⟩ := hrel
      by_cases hkl : k < l.length
      · obtain ⟨g, o, rfl, hgl, hc⟩ := Recs.pos HL.out En.cells_len (by omega) (by omega)
        have dd := fun (j : Nat) (hj : j < 5) => (hF.cell (p := ⟨g, o + (k * 5 + j), none⟩) hgl (fun h => h)).trans (hc w rfl k j hkl hj)
        have d0 := dd 0 (by omega)
        have d1 := dd 1 (by omega)
        have d2 := dd 2 (by omega)
        have d3 := dd 3 (by omega)
        have d4 := dd 4 (by omega)
        have hx := HW.out _ (nth_mem l k hkl)
        have hxo := entErr_ok (HOK.out _ (nth_mem l k hkl))
        have HD := Lib.hid (show (l.take (k + 1)).flatMap entB = (l.take k).flatMap entB ++ entB (nth l k) by rw [take_succ_nth l k hkl, List.flatMap_append]; simp)
        generalize nth l k = x at *
        obtain ⟨xa, xn, xt, xp, xm⟩ := x
        obtain ⟨hx0, hx1, hx2, hx3, hx4⟩ := hxo
        obtain ⟨hy0, hy1⟩ := netErr_rng hx0
        obtain ⟨hw0, hw1⟩ := hx
        obtain ⟨xk, rfl⟩ := Int.eq_ofNat_of_zero_le (show 0 ≤ xn from hy0)
        simp only at hx1 hx2 hx3 hx4 hy0 hy1 hw0 hw1
        simp only [En.cells, List.getElem?_cons_zero, List.getElem?_cons_succ, ← Nat.add_assoc, Nat.add_zero] at d0 d1 d2 d3 d4
        have hm0 := hMr.cell 1
        have hml := hMr.lt
        have hwsz := hF.size
        simp only [List.getElem?_cons_succ, List.getElem?_cons_zero] at hm0
        obtain ⟨N, hNN⟩ : ∃ N, N = 4 + 20 * k := ⟨_, rfl⟩
        rw [← hNN] at hO ⊢
        have HNN := Lib.hid hNN
        have hNb : N ≤ 1000 := by omega
        obtain ⟨zs, hzs⟩ : ∃ zs, zs = hd :: 2 :: 0 :: 0 :: (l.take k).flatMap entB := ⟨_, rfl⟩
        rw [← hzs] at hO
        have HZS := Lib.hid hzs
        have hBc := Blk.made wr 87 [.int .u32 xa, .int .i64 xk, .int .i64 xt, .int .u32 xp, .int .i64 xm]
        have e0 := hBc.cell 2
        have el := hBc.lt
        simp only [List.getElem?_cons_succ, List.getElem?_cons_zero] at e0
        have hFc := hF.alloc (.cells #[.int .u32 xa, .int .i64 xk, .int .i64 xt, .int .u32 xp, .int .i64 xm] 87)
        have hN0 : ∀ g, ob0 = some g → w.heap.size < g ∧ g ≠ wr.heap.size := fun g hg => ⟨hN g hg, by have := hO.lt g hg; omega⟩
        have hFm := hFc
        clear dd hc hNN hzs hx0
        have hrd1 := rd_u8s1 wr (.cells #[.int .u32 xa, .int .i64 xk, .int .i64 xt, .int .u32 xp, .int .i64 xm] 87) [0, 2, xt / 256, xt % 256] 4 rfl (by decide) (by decide)
        have hOa1 := (hO.alloc (.cells #[.int .u32 xa, .int .i64 xk, .int .i64 xt, .int .u32 xp, .int .i64 xm] 87)).alloc (.cells #[.int .u8 0, .int .u8 2, .int .u8 (xt / 256), .int .u8 (xt % 256)] 5)
        have hFa1 := hFc.alloc (.cells #[.int .u8 0, .int .u8 2, .int .u8 (xt / 256), .int .u8 (xt % 256)] 5)
        have hBa1 := hBc.alloc (.cells #[.int .u8 0, .int .u8 2, .int .u8 (xt / 256), .int .u8 (xt % 256)] 5)
        have hMa1 := (hMr.alloc (.cells #[.int .u32 xa, .int .i64 xk, .int .i64 xt, .int .u32 xp, .int .i64 xm] 87)).alloc (.cells #[.int .u8 0, .int .u8 2, .int .u8 (xt / 256), .int .u8 (xt % 256)] 5)
        go_wp2_with (go_loud (at_builtin; refine wpList_app rfl _ _ 27 rfl Tryz.underlying27 infoU8 rfl (by decide) rfl rfl hOa1 hrd1 (ivals_one .u8 _) (by omega) (by omega) ?_))
        intro a1 c1 x1 ob1 v1 v2 v3
        obtain ⟨hF1, hB1, hM1, hN1, hs1⟩ := put4_step hFa1 hBa1 hMa1 hN0 v2 v3 (by simp)
        have hO1 : Ownd x1.heap 5 1 a1 (N + 4) c1 (ivals .u8 (zs ++ [0, 2, xt / 256, xt % 256])) ob1 := by simpa [ivals] using v1
        clear v1 v2 v3 hOa1 hrd1 hFa1 hBa1 hMa1
        clear hO hFc hBc e0 el hm0 hml d0 d1 d2 d3 d4 hMr
        have f2 := hB1.cell 0
        simp only [List.getElem?_cons_succ, List.getElem?_cons_zero] at f2
        go_wp2_with (go_at_call 60; refine (four_any xa _ hw0).mono ?_)
        rintro e2 y2 ⟨rfl, rfl⟩
        have hrd2 := rd_u8s x1 (beB xa 4) 4 (beB_len _ _) (by decide) (by decide)
        have hOa2 := hO1.alloc (.cells (ivals .u8 (beB xa 4)).toArray 5)
        have hFa2 := hF1.alloc (.cells (ivals .u8 (beB xa 4)).toArray 5)
        have hBa2 := hB1.alloc (.cells (ivals .u8 (beB xa 4)).toArray 5)
        have hMa2 := hM1.alloc (.cells (ivals .u8 (beB xa 4)).toArray 5)
        go_wp2_with (go_loud (at_builtin; refine wpList_app rfl _ _ 27 rfl Tryz.underlying27 infoU8 rfl (by decide) rfl rfl hOa2 hrd2 (ivals_one .u8 _) (by omega) (by omega) ?_))
        intro a2 c2 x2 ob2 v1 v2 v3
        obtain ⟨hF2, hB2, hM2, hN2, hs2⟩ := put4_step hFa2 hBa2 hMa2 hN1 v2 v3 (by simp)
        have hO2 : Ownd x2.heap 5 1 a2 (N + 4 + 4) c2 (ivals .u8 (zs ++ [0, 2, xt / 256, xt % 256] ++ beB xa 4)) ob2 := by simpa [ivals] using v1
        clear v1 v2 v3 hOa2 hrd2 hFa2 hBa2 hMa2
        clear f2 hO1 hF1 hB1 hM1 hN1 hs1
        have f3 := hB2.cell 1
        simp only [List.getElem?_cons_succ, List.getElem?_cons_zero] at f3
        go_wp2_with (go_at_call 50; refine (maskRef_any xk _ (by omega)).mono ?_)
        rintro e3 x2 ⟨rfl, rfl⟩
        go_wp2_with (go_at_call 60; refine (four_any (maskV xk) _ (maskV_bd xk)).mono ?_)
        rintro e3 y3 ⟨rfl, rfl⟩
        have hrd3 := rd_u8s x2 (beB (maskV xk) 4) 4 (beB_len _ _) (by decide) (by decide)
        have hOa3 := hO2.alloc (.cells (ivals .u8 (beB (maskV xk) 4)).toArray 5)
        have hFa3 := hF2.alloc (.cells (ivals .u8 (beB (maskV xk) 4)).toArray 5)
        have hBa3 := hB2.alloc (.cells (ivals .u8 (beB (maskV xk) 4)).toArray 5)
        have hMa3 := hM2.alloc (.cells (ivals .u8 (beB (maskV xk) 4)).toArray 5)
        go_wp2_with (go_loud (at_builtin; refine wpList_app rfl _ _ 27 rfl Tryz.underlying27 infoU8 rfl (by decide) rfl rfl hOa3 hrd3 (ivals_one .u8 _) (by omega) (by omega) ?_))
        intro a3 c3 x3 ob3 v1 v2 v3
        obtain ⟨hF3, hB3, hM3, hN3, hs3⟩ := put4_step hFa3 hBa3 hMa3 hN2 v2 v3 (by simp)
        have hO3 : Ownd x3.heap 5 1 a3 (N + 4 + 4 + 4) c3 (ivals .u8 (zs ++ [0, 2, xt / 256, xt % 256] ++ beB xa 4 ++ beB (maskV xk) 4)) ob3 := by simpa [ivals] using v1
        clear v1 v2 v3 hOa3 hrd3 hFa3 hBa3 hMa3
        clear f3 hO2 hF2 hB2 hM2 hN2 hs2
        have f4 := hB3.cell 3
        simp only [List.getElem?_cons_succ, List.getElem?_cons_zero] at f4
        go_wp2_with (go_at_call 60; refine (four_any xp _ hw1).mono ?_)
        rintro e4 y4 ⟨rfl, rfl⟩
        have hrd4 := rd_u8s x3 (beB xp 4) 4 (beB_len _ _) (by decide) (by decide)
        have hOa4 := hO3.alloc (.cells (ivals .u8 (beB xp 4)).toArray 5)
        have hFa4 := hF3.alloc (.cells (ivals .u8 (beB xp 4)).toArray 5)
        have hBa4 := hB3.alloc (.cells (ivals .u8 (beB xp 4)).toArray 5)
        have hMa4 := hM3.alloc (.cells (ivals .u8 (beB xp 4)).toArray 5)
        go_wp2_with (go_loud (at_builtin; refine wpList_app rfl _ _ 27 rfl Tryz.underlying27 infoU8 rfl (by decide) rfl rfl hOa4 hrd4 (ivals_one .u8 _) (by omega) (by omega) ?_))
        intro a4 c4 x4 ob4 v1 v2 v3
        obtain ⟨hF4, hB4, hM4, hN4, hs4⟩ := put4_step hFa4 hBa4 hMa4 hN3 v2 v3 (by simp)
        have hO4 : Ownd x4.heap 5 1 a4 (N + 4 + 4 + 4 + 4) c4 (ivals .u8 (zs ++ [0, 2, xt / 256, xt % 256] ++ beB xa 4 ++ beB (maskV xk) 4 ++ beB xp 4)) ob4 := by simpa [ivals] using v1
        clear v1 v2 v3 hOa4 hrd4 hFa4 hBa4 hMa4
        clear f4 hO3 hF3 hB3 hM3 hN3 hs3
        have f5 := hB4.cell 4
        simp only [List.getElem?_cons_succ, List.getElem?_cons_zero] at f5
        go_wp2_with (go_at_call 60; refine (four_any xm _ ⟨by omega, by omega⟩).mono ?_)
        rintro e5 y5 ⟨rfl, rfl⟩
        have hrd5 := rd_u8s x4 (beB xm 4) 4 (beB_len _ _) (by decide) (by decide)
        have hOa5 := hO4.alloc (.cells (ivals .u8 (beB xm 4)).toArray 5)
        have hFa5 := hF4.alloc (.cells (ivals .u8 (beB xm 4)).toArray 5)
        have hBa5 := hB4.alloc (.cells (ivals .u8 (beB xm 4)).toArray 5)
        have hMa5 := hM4.alloc (.cells (ivals .u8 (beB xm 4)).toArray 5)
        go_wp2_with (go_loud (at_builtin; refine wpList_app rfl _ _ 27 rfl Tryz.underlying27 infoU8 rfl (by decide) rfl rfl hOa5 hrd5 (ivals_one .u8 _) (by omega) (by omega) ?_))
        intro a5 c5 x5 ob5 v1 v2 v3
        obtain ⟨hF5, hB5, hM5, hN5, hs5⟩ := put4_step hFa5 hBa5 hMa5 hN4 v2 v3 (by simp)
        have hO5 : Ownd x5.heap 5 1 a5 (N + 4 + 4 + 4 + 4 + 4) c5 (ivals .u8 (zs ++ [0, 2, xt / 256, xt % 256] ++ beB xa 4 ++ beB (maskV xk) 4 ++ beB xp 4 ++ beB xm 4)) ob5 := by simpa [ivals] using v1
        clear v1 v2 v3 hOa5 hrd5 hFa5 hBa5 hMa5
        clear f5 hO4 hF4 hB4 hM4 hN4 hs4
        have HEQ := Lib.hid (show zs ++ [0, 2, xt / 256, xt % 256] ++ beB xa 4 ++ beB (maskV xk) 4 ++ beB xp 4 ++ beB xm 4 = hd :: 2 :: 0 :: 0 :: (l.take (k + 1)).flatMap entB by
          have hb2 : beB xt 2 = [xt / 256 % 256, xt % 256] := by simp only [beB, Nat.reduceMul, Nat.mul_zero, Nat.mul_one, Int.reducePow, Int.pow_zero, Int.ediv_one]
          rw [HD.out, HZS.out]
          unfold entB
          rw [hb2, show xt / 256 % 256 = xt / 256 by omega, show beB 2 2 = [0, 2] from rfl]
          simp)
        rw [HEQ.out] at hO5
        have HLE := Lib.hid (show N + 4 + 4 + 4 + 4 + 4 = 4 + 20 * (k + 1) by rw [HNN.out]; omega)
        go_wp2
        go_roundw
        case rel => exact ⟨k + 1, a5, c5, ob5, by omega, by go_num, by rw [← HLE.out], by rw [← HLE.out]; exact hO5, hF5, hM5, fun g hg => (hN5 g hg).1⟩
        case measure => simp [intOf]; omega

      · obtain rfl : k = l.length := by omega
        have HX := Lib.hid (show encD true l = hd :: 2 :: 0 :: 0 :: (l.take l.length).flatMap entB by rw [HHD.out, List.take_length]; rfl)
        have HLN := Lib.hid (show 4 + 20 * l.length = (encD true l).length by rw [encD_len])
        rw [← HX.out] at hO
        have hm0 := hMr.cell 1
        have hml := hMr.lt
        simp only [List.getElem?_cons_succ, List.getElem?_cons_zero] at hm0
        clear hMr hN
        go_wp2
        go_ret
        refine ⟨a0, c0, ob0, by rw [HLN.out]; rfl, ?_, hF⟩
        rw [← HLN.out]; exact hO
  | false =>
    obtain ⟨hd, hd0⟩ : ∃ hd : Int, hd = 2 := ⟨_, rfl⟩
    have hM := Blk.made w 26 [.bool false, .slice al l.length cl]
    have b0 := hM.cell 0
    have b1 := hM.cell 1
    have bl := hM.lt
    simp only [List.getElem?_cons_succ, List.getElem?_cons_zero] at b0 b1
    have hF0 := ((Fr.refl (fun _ => False) w).alloc (.cells #[.bool false, .slice al l.length cl] 26)).alloc (.cells #[.int .u8 2, .int .u8 2, .int .u8 0, .int .u8 0] 5)
    have hM1 := hM.alloc (.cells #[.int .u8 2, .int .u8 2, .int .u8 0, .int .u8 0] 5)
    have hO1 : Ownd ((w.alloc (.cells #[.bool false, .slice al l.length cl] 26)).alloc (.cells #[.int .u8 2, .int .u8 2, .int .u8 0, .int .u8 0] 5)).heap 5 1 (some ⟨w.heap.size + 1, 0, none⟩) 4 4 (ivals .u8 [2, 2, 0, 0]) (some (w.heap.size + 1)) := by
      have := Ownd.made (w.alloc (.cells #[.bool false, .slice al l.length cl] 26)) 5 1 4 (ivals .u8 [2, 2, 0, 0]) (by rfl) (by decide)
      rwa [show (w.alloc (.cells #[.bool false, .slice al l.length cl] 26)).heap.size = w.heap.size + 1 by simp] at this
    have HHD := Lib.hid hd0
    clear hM hd0
    go_enter Tryz.func26, Tryz.ntmps26
    have HFF := Lib.hid hF0
    have HMM := Lib.hid hM1
    have HOO := Lib.hid hO1
    clear hF0 hM1 hO1
    go_wp2
    go_loopw [4, 3] (fun s4 s3 wr => ∃ (k : Nat) (a0 : Option Addr) (c0 : Nat) (ob0 : Option Nat), k ≤ l.length ∧ s4 = .int .i64 k ∧ s3 = .slice a0 (4 + 20 * k) c0 ∧ Ownd wr.heap 5 1 a0 (4 + 20 * k) c0 (ivals .u8 (hd :: 2 :: 0 :: 0 :: (l.take k).flatMap entB)) ob0 ∧ Fr (fun _ => False) w wr ∧ Blk wr.heap w.heap.size 26 [.bool false, .slice al l.length cl] ∧ ∀ g, ob0 = some g → w.heap.size < g) (fun s _ _ => l.length - (intOf s).toNat)
    case atStart => exact ⟨0, _, 4, _, by omega, rfl, rfl, by rw [HHD.out]; simpa [ivals] using HOO.out, HFF.out, HMM.out, fun g hg => by cases hg; omega⟩
    case round =>
      obtain ⟨k, a0, c0, ob0, hk, rfl, rfl, hO, hF, hMr, hN⟩ := hrel
      by_cases hkl : k < l.length
      · obtain ⟨g, o, rfl, hgl, hc⟩ := Recs.pos HL.out En.cells_len (by omega) (by omega)
        have dd := fun (j : Nat) (hj : j < 5) => (hF.cell (p := ⟨g, o + (k * 5 + j), none⟩) hgl (fun h => h)).trans (hc w rfl k j hkl hj)
        have d0 := dd 0 (by omega)
        have d1 := dd 1 (by omega)
        have d2 := dd 2 (by omega)
        have d3 := dd 3 (by omega)
        have d4 := dd 4 (by omega)
        have hx := HW.out _ (nth_mem l k hkl)
        have hxo := entErr_ok (HOK.out _ (nth_mem l k hkl))
        have HD := Lib.hid (show (l.take (k + 1)).flatMap entB = (l.take k).flatMap entB ++ entB (nth l k) by rw [take_succ_nth l k hkl, List.flatMap_append]; simp)
        generalize nth l k = x at *
        obtain ⟨xa, xn, xt, xp, xm⟩ := x
        obtain ⟨hx0, hx1, hx2, hx3, hx4⟩ := hxo
        obtain ⟨hy0, hy1⟩ := netErr_rng hx0
        obtain ⟨hw0, hw1⟩ := hx
        obtain ⟨xk, rfl⟩ := Int.eq_ofNat_of_zero_le (show 0 ≤ xn from hy0)
        simp only at hx1 hx2 hx3 hx4 hy0 hy1 hw0 hw1
        simp only [En.cells, List.getElem?_cons_zero, List.getElem?_cons_succ, ← Nat.add_assoc, Nat.add_zero] at d0 d1 d2 d3 d4
        have hm0 := hMr.cell 1
        have hml := hMr.lt
        have hwsz := hF.size
        simp only [List.getElem?_cons_succ, List.getElem?_cons_zero] at hm0
        obtain ⟨N, hNN⟩ : ∃ N, N = 4 + 20 * k := ⟨_, rfl⟩
        rw [← hNN] at hO ⊢
        have HNN := Lib.hid hNN
        have hNb : N ≤ 1000 := by omega
        obtain ⟨zs, hzs⟩ : ∃ zs, zs = hd :: 2 :: 0 :: 0 :: (l.take k).flatMap entB := ⟨_, rfl⟩
        rw [← hzs] at hO
        have HZS := Lib.hid hzs
        have hBc := Blk.made wr 87 [.int .u32 xa, .int .i64 xk, .int .i64 xt, .int .u32 xp, .int .i64 xm]
        have e0 := hBc.cell 2
        have el := hBc.lt
        simp only [List.getElem?_cons_succ, List.getElem?_cons_zero] at e0
        have hFc := hF.alloc (.cells #[.int .u32 xa, .int .i64 xk, .int .i64 xt, .int .u32 xp, .int .i64 xm] 87)
        have hN0 : ∀ g, ob0 = some g → w.heap.size < g ∧ g ≠ wr.heap.size := fun g hg => ⟨hN g hg, by have := hO.lt g hg; omega⟩
        have hFm := hFc
        clear dd hc hNN hzs hx0
        have hrd1 := rd_u8s1 wr (.cells #[.int .u32 xa, .int .i64 xk, .int .i64 xt, .int .u32 xp, .int .i64 xm] 87) [0, 2, xt / 256, xt % 256] 4 rfl (by decide) (by decide)
        have hOa1 := (hO.alloc (.cells #[.int .u32 xa, .int .i64 xk, .int .i64 xt, .int .u32 xp, .int .i64 xm] 87)).alloc (.cells #[.int .u8 0, .int .u8 2, .int .u8 (xt / 256), .int .u8 (xt % 256)] 5)
        have hFa1 := hFc.alloc (.cells #[.int .u8 0, .int .u8 2, .int .u8 (xt / 256), .int .u8 (xt % 256)] 5)
        have hBa1 := hBc.alloc (.cells #[.int .u8 0, .int .u8 2, .int .u8 (xt / 256), .int .u8 (xt % 256)] 5)
        have hMa1 := (hMr.alloc (.cells #[.int .u32 xa, .int .i64 xk, .int .i64 xt, .int .u32 xp, .int .i64 xm] 87)).alloc (.cells #[.int .u8 0, .int .u8 2, .int .u8 (xt / 256), .int .u8 (xt % 256)] 5)
        go_wp2_with (go_loud (at_builtin; refine wpList_app rfl _ _ 27 rfl Tryz.underlying27 infoU8 rfl (by decide) rfl rfl hOa1 hrd1 (ivals_one .u8 _) (by omega) (by omega) ?_))
        intro a1 c1 x1 ob1 v1 v2 v3
        obtain ⟨hF1, hB1, hM1, hN1, hs1⟩ := put4_step hFa1 hBa1 hMa1 hN0 v2 v3 (by simp)
        have hO1 : Ownd x1.heap 5 1 a1 (N + 4) c1 (ivals .u8 (zs ++ [0, 2, xt / 256, xt % 256])) ob1 := by simpa [ivals] using v1
        clear v1 v2 v3 hOa1 hrd1 hFa1 hBa1 hMa1
        clear hO hFc hBc e0 el hm0 hml d0 d1 d2 d3 d4 hMr
        have f2 := hB1.cell 0
        simp only [List.getElem?_cons_succ, List.getElem?_cons_zero] at f2
        go_wp2_with (go_at_call 60; refine (four_any xa _ hw0).mono ?_)
        rintro e2 y2 ⟨rfl, rfl⟩
        have hrd2 := rd_u8s x1 (beB xa 4) 4 (beB_len _ _) (by decide) (by decide)
        have hOa2 := hO1.alloc (.cells (ivals .u8 (beB xa 4)).toArray 5)
        have hFa2 := hF1.alloc (.cells (ivals .u8 (beB xa 4)).toArray 5)
        have hBa2 := hB1.alloc (.cells (ivals .u8 (beB xa 4)).toArray 5)
        have hMa2 := hM1.alloc (.cells (ivals .u8 (beB xa 4)).toArray 5)
        go_wp2_with (go_loud (at_builtin; refine wpList_app rfl _ _ 27 rfl Tryz.underlying27 infoU8 rfl (by decide) rfl rfl hOa2 hrd2 (ivals_one .u8 _) (by omega) (by omega) ?_))
        intro a2 c2 x2 ob2 v1 v2 v3
        obtain ⟨hF2, hB2, hM2, hN2, hs2⟩ := put4_step hFa2 hBa2 hMa2 hN1 v2 v3 (by simp)
        have hO2 : Ownd x2.heap 5 1 a2 (N + 4 + 4) c2 (ivals .u8 (zs ++ [0, 2, xt / 256, xt % 256] ++ beB xa 4)) ob2 := by simpa [ivals] using v1
        clear v1 v2 v3 hOa2 hrd2 hFa2 hBa2 hMa2
        clear f2 hO1 hF1 hB1 hM1 hN1 hs1
        have f3 := hB2.cell 1
        simp only [List.getElem?_cons_succ, List.getElem?_cons_zero] at f3
        go_wp2_with (go_at_call 50; refine (maskRef_any xk _ (by omega)).mono ?_)
        rintro e3 x2 ⟨rfl, rfl⟩
        go_wp2_with (go_at_call 60; refine (four_any (maskV xk) _ (maskV_bd xk)).mono ?_)
        rintro e3 y3 ⟨rfl, rfl⟩
        have hrd3 := rd_u8s x2 (beB (maskV xk) 4) 4 (beB_len _ _) (by decide) (by decide)
        have hOa3 := hO2.alloc (.cells (ivals .u8 (beB (maskV xk) 4)).toArray 5)
        have hFa3 := hF2.alloc (.cells (ivals .u8 (beB (maskV xk) 4)).toArray 5)
        have hBa3 := hB2.alloc (.cells (ivals .u8 (beB (maskV xk) 4)).toArray 5)
        have hMa3 := hM2.alloc (.cells (ivals .u8 (beB (maskV xk) 4)).toArray 5)
        go_wp2_with (go_loud (at_builtin; refine wpList_app rfl _ _ 27 rfl Tryz.underlying27 infoU8 rfl (by decide) rfl rfl hOa3 hrd3 (ivals_one .u8 _) (by omega) (by omega) ?_))
        intro a3 c3 x3 ob3 v1 v2 v3
        obtain ⟨hF3, hB3, hM3, hN3, hs3⟩ := put4_step hFa3 hBa3 hMa3 hN2 v2 v3 (by simp)
        have hO3 : Ownd x3.heap 5 1 a3 (N + 4 + 4 + 4) c3 (ivals .u8 (zs ++ [0, 2, xt / 256, xt % 256] ++ beB xa 4 ++ beB (maskV xk) 4)) ob3 := by simpa [ivals] using v1
        clear v1 v2 v3 hOa3 hrd3 hFa3 hBa3 hMa3
        clear f3 hO2 hF2 hB2 hM2 hN2 hs2
        have f4 := hB3.cell 3
        simp only [List.getElem?_cons_succ, List.getElem?_cons_zero] at f4
        go_wp2_with (go_at_call 60; refine (four_any xp _ hw1).mono ?_)
        rintro e4 y4 ⟨rfl, rfl⟩
        have hrd4 := rd_u8s x3 (beB xp 4) 4 (beB_len _ _) (by decide) (by decide)
        have hOa4 := hO3.alloc (.cells (ivals .u8 (beB xp 4)).toArray 5)
        have hFa4 := hF3.alloc (.cells (ivals .u8 (beB xp 4)).toArray 5)
        have hBa4 := hB3.alloc (.cells (ivals .u8 (beB xp 4)).toArray 5)
        have hMa4 := hM3.alloc (.cells (ivals .u8 (beB xp 4)).toArray 5)
        go_wp2_with (go_loud (at_builtin; refine wpList_app rfl _ _ 27 rfl Tryz.underlying27 infoU8 rfl (by decide) rfl rfl hOa4 hrd4 (ivals_one .u8 _) (by omega) (by omega) ?_))
        intro a4 c4 x4 ob4 v1 v2 v3
        obtain ⟨hF4, hB4, hM4, hN4, hs4⟩ := put4_step hFa4 hBa4 hMa4 hN3 v2 v3 (by simp)
        have hO4 : Ownd x4.heap 5 1 a4 (N + 4 + 4 + 4 + 4) c4 (ivals .u8 (zs ++ [0, 2, xt / 256, xt % 256] ++ beB xa 4 ++ beB (maskV xk) 4 ++ beB xp 4)) ob4 := by simpa [ivals] using v1
        clear v1 v2 v3 hOa4 hrd4 hFa4 hBa4 hMa4
        clear f4 hO3 hF3 hB3 hM3 hN3 hs3
        have f5 := hB4.cell 4
        simp only [List.getElem?_cons_succ, List.getElem?_cons_zero] at f5
        go_wp2_with (go_at_call 60; refine (four_any xm _ ⟨by omega, by omega⟩).mono ?_)
        rintro e5 y5 ⟨rfl, rfl⟩
        have hrd5 := rd_u8s x4 (beB xm 4) 4 (beB_len _ _) (by decide) (by decide)
        have hOa5 := hO4.alloc (.cells (ivals .u8 (beB xm 4)).toArray 5)
        have hFa5 := hF4.alloc (.cells (ivals .u8 (beB xm 4)).toArray 5)
        have hBa5 := hB4.alloc (.cells (ivals .u8 (beB xm 4)).toArray 5)
        have hMa5 := hM4.alloc (.cells (ivals .u8 (beB xm 4)).toArray 5)
        go_wp2_with (go_loud (at_builtin; refine wpList_app rfl _ _ 27 rfl Tryz.underlying27 infoU8 rfl (by decide) rfl rfl hOa5 hrd5 (ivals_one .u8 _) (by omega) (by omega) ?_))
        intro a5 c5 x5 ob5 v1 v2 v3
        obtain ⟨hF5, hB5, hM5, hN5, hs5⟩ := put4_step hFa5 hBa5 hMa5 hN4 v2 v3 (by simp)
        have hO5 : Ownd x5.heap 5 1 a5 (N + 4 + 4 + 4 + 4 + 4) c5 (ivals .u8 (zs ++ [0, 2, xt / 256, xt % 256] ++ beB xa 4 ++ beB (maskV xk) 4 ++ beB xp 4 ++ beB xm 4)) ob5 := by simpa [ivals] using v1
        clear v1 v2 v3 hOa5 hrd5 hFa5 hBa5 hMa5
        clear f5 hO4 hF4 hB4 hM4 hN4 hs4
        have HEQ := Lib.hid (show zs ++ [0, 2, xt / 256, xt % 256] ++ beB xa 4 ++ beB (maskV xk) 4 ++ beB xp 4 ++ beB xm 4 = hd :: 2 :: 0 :: 0 :: (l.take (k + 1)).flatMap entB by
          have hb2 : beB xt 2 = [xt / 256 % 256, xt % 256] := by simp only [beB, Nat.reduceMul, Nat.mul_zero, Nat.mul_one, Int.reducePow, Int.pow_zero, Int.ediv_one]
          rw [HD.out, HZS.out]
          unfold entB
          rw [hb2, show xt / 256 % 256 = xt / 256 by omega, show beB 2 2 = [0, 2] from rfl]
          simp)
        rw [HEQ.out] at hO5
        have HLE := Lib.hid (show N + 4 + 4 + 4 + 4 + 4 = 4 + 20 * (k + 1) by rw [HNN.out]; omega)
        go_wp2
        go_roundw
        case rel => exact ⟨k + 1, a5, c5, ob5, by omega, by go_num, by rw [← HLE.out], by rw [← HLE.out]; exact hO5, hF5, hM5, fun g hg => (hN5 g hg).1⟩
        case measure => simp [intOf]; omega

      · obtain rfl : k = l.length := by omega
        have HX := Lib.hid (show encD false l = hd :: 2 :: 0 :: 0 :: (l.take l.length).flatMap entB by rw [HHD.out, List.take_length]; rfl)
        have HLN := Lib.hid (show 4 + 20 * l.length = (encD false l).length by rw [encD_len])
        rw [← HX.out] at hO
        have hm0 := hMr.cell 1
        have hml := hMr.lt
        simp only [List.getElem?_cons_succ, List.getElem?_cons_zero] at hm0
        clear hMr hN
        go_wp2
        go_ret
        refine ⟨a0, c0, ob0, by rw [HLN.out]; rfl, ?_, hF⟩
        rw [← HLN.out]; exact hO
end Go.Proofs.YtfglidaicjjpfaaGreatDoor
end

section
namespace Go.Proofs.YtfglidaicjjpfaaGreatDoor
open Go.RowKit

theorem or_at {x c : Int} (k : Nat) (hk : k ≤ 32) (h0 : 0 ≤ x) (h1 : x < 4294967296) (hx : x % 2 ^ k = 0) (c0 : 0 ≤ c) (c1 : c < 2 ^ k) : bits .or .u32 x c = x + c := by
  have hp : (2 : Int) ^ k ≤ 2 ^ 32 := by
    have h := Nat.pow_le_pow_right (show 0 < 2 by omega) hk
    have h' : ((2 ^ k : Nat) : Int) ≤ ((2 ^ 32 : Nat) : Int) := Int.ofNat_le.2 h
    simpa using h'
  rw [u32_or x c h0 h1 c0 (by omega)]
  obtain ⟨X, rfl⟩ := Int.eq_ofNat_of_zero_le h0
  obtain ⟨K, rfl⟩ := Int.eq_ofNat_of_zero_le c0
  have hX : X % 2 ^ k = 0 := by
    have h : ((X % 2 ^ k : Nat) : Int) = 0 := by simpa using hx
    exact Int.ofNat_eq_zero.1 h
  have hK : K < 2 ^ k := by
    have h : ((K : Nat) : Int) < ((2 ^ k : Nat) : Int) := by simpa using c1
    exact Int.ofNat_lt.1 h
  have hd : X = (X / 2 ^ k) <<< k := by rw [Nat.shiftLeft_eq]; exact (Nat.div_mul_cancel (Nat.dvd_of_mod_eq_zero hX)).symm
  have := Nat.shiftLeft_add_eq_or_of_lt hK (X / 2 ^ k)
  rw [← hd] at this
  simp only [Int.toNat_natCast]
  rw [← this]
  simp
set_option maxRecDepth 100000 in
set_option maxHeartbeats 1000000 in
theorem rnum_any (l : List Int) (a : Option Addr) (k c : Nat) (w : World) (hL : Rd w.heap a l.length 1 (ivals .u8 l)) (hb : ∀ x ∈ l, 0 ≤ x ∧ x < 256) (hl : l.length ≤ 9223372036854775806) (hk : k + 4 ≤ l.length) (hq : k = 4 ∨ k = 8 ∨ k = 12 ∨ k = 16) :
    Calls Tryz.prog 81 #[.slice a l.length c, .int .i64 k] w (RetQ w (.int .u32 (numB ((l.drop k).take 4)))) := by
  obtain ⟨g, o, rfl, hg, hc⟩ := u8s_pos hL (by omega)
  have d0 := hc w rfl k (by omega)
  have d1 := hc w rfl (k + 1) (by omega)
  have d2 := hc w rfl (k + 2) (by omega)
  have d3 := hc w rfl (k + 3) (by omega)
  have b0 := hb _ (nth_mem l k (by omega))
  have b1 := hb _ (nth_mem l (k + 1) (by omega))
  have b2 := hb _ (nth_mem l (k + 2) (by omega))
  have b3 := hb _ (nth_mem l (k + 3) (by omega))
  have hn := (numB_four b0 b1 b2 b3).1
  rw [← four_at l k hk] at hn
  generalize numB ((l.drop k).take 4) = N at *
  generalize nth l k = x0 at *
  generalize nth l (k + 1) = x1 at *
  generalize nth l (k + 2) = x2 at *
  generalize nth l (k + 3) = x3 at *
  have HN := Lib.hid hn
  have o1 := or_at (x := x0 * 16777216) (c := x1 * 65536) 24 (by omega) (by omega) (by omega) (by omega) (by omega) (by omega)
  have o2 := or_at (x := x0 * 16777216 + x1 * 65536) (c := x2 * 256) 16 (by omega) (by omega) (by omega) (by omega) (by omega) (by omega)
  have o3 := or_at (x := x0 * 16777216 + x1 * 65536 + x2 * 256) (c := x3) 8 (by omega) (by omega) (by omega) (by omega) (by omega) (by omega)
  have HO := Lib.hid (show bits BinOp.or .u32 (bits BinOp.or .u32 (bits BinOp.or .u32 (x0 * 16777216) (x1 * 65536)) (x2 * 256)) x3 = N by rw [o1, o2, o3, HN.out])
  clear o1 o2 o3
  clear hc hb hn hL
  rcases hq with rfl | rfl | rfl | rfl
  all_goals
    go_enter Tryz.func81, Tryz.ntmps81
    go_wp2
    go_quiet (fail)
    go_wp2
    go_ret
    exact RetQ.mk (x := .int .u32 (bits BinOp.or .u32 (bits BinOp.or .u32 (bits BinOp.or .u32 (x0 * 16777216) (x1 * 65536)) (x2 * 256)) x3)) (by rw [HO.out]) rfl nq rfl
end Go.Proofs.YtfglidaicjjpfaaGreatDoor
end
