import Derived.Test.YtakkljdeencfbaaAsyncN
namespace Go.Proofs.Ytakkljdeencfbaa
open Go.RowKit

/-- Are both nodes, and neighbours? -/
def nearE (n : Nat) (C : Nat → List Int) (a b : Int) : Option Int :=
  if a < 0 ∨ (n : Int) ≤ a ∨ b < 0 ∨ (n : Int) ≤ b then some 1 else if a = b ∨ nth (C a.toNat) b.toNat = 16 then some 2 else none
theorem nearE_none {n : Nat} {C : Nat → List Int} {a b : Int} (h : nearE n C a b = none) : (0 ≤ a ∧ a < n) ∧ (0 ≤ b ∧ b < n) ∧ a ≠ b := by
  unfold nearE at h
  split at h
  · cases h
  · split at h
    · cases h
    · omega
section
variable {base sb n nw nh : Nat} {to : Int} {C hd : Nat → List Int} {f : List Int} {q : Nat → Nat → List Int} {L : AL} {w : World}

theorem ANet.cells (h : ANet w.heap base sb n nw nh to C hd f q L) : w.cell? ⟨sb, 0, none⟩ = some (.int .i64 to) ∧ w.cell? ⟨sb, 1, none⟩ = some (.slice L.cta n L.cc) ∧ w.cell? ⟨sb, 2, none⟩ = some (.slice L.wta nw L.wc) ∧ w.cell? ⟨sb, 3, none⟩ = some (.slice L.hta nh L.hc) ∧ w.cell? ⟨sb, 4, none⟩ = some (.slice (some ⟨L.fb, 0, none⟩) n L.fc) := by
  have h0 := h.sB
  exact ⟨h0.cell 0, h0.cell 1, h0.cell 2, h0.cell 3, h0.cell 4⟩
theorem ANet.rowC (h : ANet w.heap base sb n nw nh to C hd f q L) {i : Nat} (hi : i < n) : ∃ g, L.cta = some ⟨g, 0, none⟩ ∧ g < w.heap.size ∧ w.cell? ⟨g, i, none⟩ = some (.slice (some ⟨L.cr i, 0, none⟩) n (L.ccr i)) ∧ L.cr i < w.heap.size ∧ ∀ k, k < n → w.cell? ⟨L.cr i, k, none⟩ = some (.int .i64 (nth (C i) k)) := by
  have hn := h.n8
  obtain ⟨g, h1, -, h2, h3, -⟩ := h.cT.pos (by omega)
  refine ⟨g, h1, h2, ?_, (h.cR i hi).lt _ rfl, fun k hk => ?_⟩
  · have := h3 i (by omega)
    simpa [List.getElem?_range hi] using this
  · obtain ⟨_, e, -, -, h4, -⟩ := (h.cR i hi).pos (by omega)
    cases e
    have hl : (C i).length = n := by have := (h.cR i hi).len; simpa using this
    exact (h4 k (by omega)).trans (ivals_get .i64 _ k (by omega))
theorem ANet.rowW (h : ANet w.heap base sb n nw nh to C hd f q L) {i : Nat} (hi : i < nw) : ∃ g, L.wta = some ⟨g, 0, none⟩ ∧ g < w.heap.size ∧ L.wtb = some g ∧ w.cell? ⟨g, i, none⟩ = some (.slice (some ⟨L.wr i, 0, none⟩) n (L.wcr i)) ∧ L.wr i < w.heap.size ∧ (∀ k, k < n → w.cell? ⟨L.wr i, k, none⟩ = some (.slice (L.qa i k) (q i k).length (L.qc i k))) ∧ ∀ k, w.frozen? ⟨L.wr i, k, none⟩ = false := by
  have hn := h.n8
  obtain ⟨g, h1, h1', h2, h3, -⟩ := h.wT.pos (by omega)
  obtain ⟨_, e, -, -, h4, h5⟩ := (h.wR i hi).pos (by omega)
  cases e
  refine ⟨g, h1, h2, h1', ?_, (h.wR i hi).lt _ rfl, fun k hk => ?_, h5⟩
  · have := h3 i (by omega)
    simpa [List.getElem?_range hi] using this
  · have := h4 k (by omega)
    simpa [List.getElem?_range hk] using this
theorem ANet.rowH (h : ANet w.heap base sb n nw nh to C hd f q L) {i : Nat} (hi : i < nh) : ∃ g, L.hta = some ⟨g, 0, none⟩ ∧ g < w.heap.size ∧ w.cell? ⟨g, i, none⟩ = some (.slice (some ⟨L.hr i, 0, none⟩) n (L.hcr i)) ∧ L.hr i < w.heap.size ∧ (∀ k, k < n → w.cell? ⟨L.hr i, k, none⟩ = some (.int .i64 (nth (hd i) k))) ∧ ∀ k, w.frozen? ⟨L.hr i, k, none⟩ = false := by
  have hn := h.n8
  obtain ⟨g, h1, -, h2, h3, -⟩ := h.hT.pos (by omega)
  obtain ⟨_, e, -, -, h4, h5⟩ := (h.hR i hi).pos (by omega)
  cases e
  refine ⟨g, h1, h2, ?_, (h.hR i hi).lt _ rfl, fun k hk => ?_, h5⟩
  · have := h3 i (by omega)
    simpa [List.getElem?_range hi] using this
  · have hl : (hd i).length = n := by have := (h.hR i hi).len; simpa using this
    exact (h4 k (by omega)).trans (ivals_get .i64 _ k (by omega))
theorem ANet.rowF (h : ANet w.heap base sb n nw nh to C hd f q L) : f.length = n ∧ L.fb < w.heap.size ∧ (∀ k, k < n → w.cell? ⟨L.fb, k, none⟩ = some (.int .i64 (nth f k))) ∧ ∀ k, w.frozen? ⟨L.fb, k, none⟩ = false := by
  have hn := h.n8
  have hl : f.length = n := by have := h.fO.len; simpa using this
  obtain ⟨_, e, -, h3, h4, h5⟩ := h.fO.pos (by omega)
  cases e
  exact ⟨hl, h3, fun k hk => (h4 k (by omega)).trans (ivals_get .i64 _ k (by omega)), h5⟩

set_option maxRecDepth 100000 in
set_option maxHeartbeats 1000000 in
theorem near_any (a b : Int) (h : ANet w.heap base sb n nw nh to C hd f q L) :
    Calls Try.prog 35 #[.pointer (some ⟨sb, 0, none⟩), .int .i64 a, .int .i64 b] w (RetV w (errO (nearE n C a b))) := by
  have hn := h.n8
  obtain ⟨-, c1, -, -, c4⟩ := h.cells
  by_cases g1 : a < 0 ∨ (n : Int) ≤ a ∨ b < 0 ∨ (n : Int) ≤ b
  · have hX : Hid (nearE n C a b = some 1) := (if_pos g1 : nearE n C a b = some 1)
    have q : (decide (a < 0) = true) ∨ (decide (a < 0) = false ∧ decide (a ≥ (n : Int)) = true) ∨ (decide (a < 0) = false ∧ decide (a ≥ (n : Int)) = false ∧ decide (b < 0) = true) ∨ (decide (a < 0) = false ∧ decide (a ≥ (n : Int)) = false ∧ decide (b < 0) = false ∧ decide (b ≥ (n : Int)) = true) := by
      simp only [decide_eq_true_iff, decide_eq_false_iff_not]; omega
    clear g1
    rw [hX.out]
    rcases q with e1 | ⟨e1, e2⟩ | ⟨e1, e2, e3⟩ | ⟨e1, e2, e3, e4⟩
    all_goals
      go_enter Try.func35, Try.ntmps35
      go_wp2
      go_ret
      exact RetV.mk rfl rfl (Fr.refl _ _)
  · obtain ⟨i, rfl⟩ := Int.eq_ofNat_of_zero_le (show 0 ≤ a by omega)
    obtain ⟨k, rfl⟩ := Int.eq_ofNat_of_zero_le (show 0 ≤ b by omega)
    have hi : i < n := by omega
    have hk : k < n := by omega
    have e1 : decide ((i : Int) ≥ (n : Int)) = false := by simp; omega
    have e2 : decide ((k : Int) ≥ (n : Int)) = false := by simp; omega
    obtain ⟨g, hct, hg, d1, -, hd1⟩ := h.rowC hi
    have d2 := hd1 k hk
    rw [hct] at c1
    have hE : nearE n C i k = if (i : Int) = k ∨ nth (C i) k = 16 then some 2 else none := by unfold nearE; rw [if_neg g1]; rfl
    clear hd1 g1 hct
    generalize nth (C i) k = x at *
    by_cases g2 : (i : Int) = k ∨ x = 16
    · have hX := Lib.hid (hE.trans (if_pos g2))
      have q : (((i : Int) == k) = true) ∨ (((i : Int) == k) = false ∧ (x == 16) = true) := by
        by_cases h1 : (i : Int) = k
        · exact .inl (by simpa using h1)
        · exact .inr ⟨by simpa using h1, by simpa using g2.resolve_left h1⟩
      clear g2 hE
      rw [hX.out]
      rcases q with e3 | ⟨e3, e4⟩
      all_goals
        go_enter Try.func35, Try.ntmps35
        go_wp2
        go_ret
        exact RetV.mk rfl rfl (Fr.refl _ _)
    · have hX := Lib.hid (hE.trans (if_neg g2))
      have e3 : ((i : Int) == k) = false := by have : ¬ (i : Int) = k := fun e => g2 (.inl e); simpa using this
      have e4 : (x == 16) = false := by have : ¬ x = 16 := fun e => g2 (.inr e); simpa using this
      clear g2 hE
      rw [hX.out]
      go_enter Try.func35, Try.ntmps35
      go_wp2
      go_ret
      exact RetV.mk rfl rfl (Fr.refl _ _)

set_option maxRecDepth 100000 in
set_option maxHeartbeats 1000000 in
theorem dist_any (i : Nat) (hi : i < n) (h : ANet w.heap base sb n nw nh to C hd f q L) :
    Calls Try.prog 17 #[.pointer (some ⟨sb, 0, none⟩), .int .i64 i] w (RetV w (.tuple #[.int .i64 (nth f i), .nilIface])) := by
  have hn := h.n8
  obtain ⟨-, -, -, -, c4⟩ := h.cells
  obtain ⟨-, -, hf, -⟩ := h.rowF
  have d := hf i hi
  have e1 : decide ((i : Int) ≥ (n : Int)) = false := by simp; omega
  clear hf
  go_enter Try.func17, Try.ntmps17
  go_wp2
  go_ret2
  exact ⟨rfl, Fr.refl _ _⟩

set_option maxRecDepth 100000 in
set_option maxHeartbeats 1000000 in
theorem waits_any (i k : Nat) (h : ANet w.heap base sb n n nh to C hd f q L) (hE : nearE n C i k = none) :
    Calls Try.prog 16 #[.pointer (some ⟨sb, 0, none⟩), .int .i64 i, .int .i64 k] w (RetV w (.tuple #[.int .i64 (q i k).length, .nilIface])) := by
  have hn := h.n8
  obtain ⟨hi, hk, -⟩ := nearE_none hE
  have hi : i < n := by omega
  have hk : k < n := by omega
  go_enter Try.func16, Try.ntmps16
  go_wp2_with (fail)
  refine (near_any i k h).mono ?_
  rintro e1 w1 ⟨rfl, hF⟩
  rw [hE, show errO none = .nilIface from rfl]
  have h := h.fr0 hF
  obtain ⟨-, -, c2, -, -⟩ := h.cells
  obtain ⟨g, hwt, hg, -, d1, -, hd2, -⟩ := h.rowW hi
  have d2 := hd2 k hk
  rw [hwt] at c2
  clear hd2 hE hwt
  go_wp2
  go_ret2
  exact ⟨rfl, hF⟩
end
end Go.Proofs.Ytakkljdeencfbaa
