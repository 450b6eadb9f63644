import Derived.Test.YtlmoaompmiobjaaMat4
namespace Go.Proofs.Ytlmoaompmiobjaa
open Go.RowKit

theorem least_any' {n m : Nat} (hm : m = n) (a b : List (List Int)) (aa ab : Option Addr) (ca cb : Nat) (A B : Nat → Option Addr) (CA CB : Nat → Nat) (w : World) (hA : Mat w.heap aa a A CA) (hB : Mat w.heap ab b B CB) (hTa : Tab n a) (hTb : Tab n b) :
    Calls Try.prog 19 #[.slice aa n ca, .slice ab m cb] w (RetM w (leastM n a b)) := by
  subst hm; exact least_any m a b aa ab ca cb A B CA CB w hA hB hTa hTb
theorem mulE_ok {n : Nat} {a b : List (List Int)} (hA : Tab n a) (hB : Tab n b) : mulE a b = .ok (mulM n a b) := by
  have lA := hA.len
  have lB := hB.len
  have h1 : matErr a = none := matErr_none.2 (by rw [lA]; exact hA)
  have h2 : matErr b = none := matErr_none.2 (by rw [lB]; exact hB)
  unfold mulE
  rw [h1, h2]
  simp only
  rw [if_neg (by omega), lA]
theorem mulE_cases (a b : List (List Int)) : (∃ k, mulE a b = .error k) ∨ (Tab a.length a ∧ Tab a.length b ∧ mulE a b = .ok (mulM a.length a b)) := by
  unfold mulE
  cases ha : matErr a with
  | some k => exact .inl ⟨k, rfl⟩
  | none =>
    cases hb : matErr b with
    | some k => exact .inl ⟨k, rfl⟩
    | none =>
      simp only
      by_cases h : a.length = b.length
      · exact .inr ⟨matErr_none.1 ha, by rw [h]; exact matErr_none.1 hb, by rw [if_neg (by simpa using h)]⟩
      · exact .inl ⟨3, by rw [if_pos h]⟩
theorem RetMat.get {w w' : World} {r : Except Int (List (List Int))} {rs : List (List Int)} {n : Nat} {e : Ending} (h : RetMat w r e w') (hr : r = .ok rs) (hn : rs.length = n) :
    ∃ a c ob G C, e = .returned (.tuple #[.slice a n c, .nilIface]) ∧ OMat w'.heap w.heap.size 28 3 a c ob rs G C ∧ Fr (fun _ => False) w w' := by
  subst hr; subst hn; exact h
theorem RetM.get {w w' : World} {rs : List (List Int)} {n : Nat} {e : Ending} (h : RetM w rs e w') (hn : rs.length = n) :
    ∃ a c ob G C, e = .returned (.slice a n c) ∧ OMat w'.heap w.heap.size 28 3 a c ob rs G C ∧ Fr (fun _ => False) w w' := by
  subst hn; exact h
theorem mulM_len (n : Nat) (a b : List (List Int)) : (mulM n a b).length = n := tab_len _ _
theorem leastM_len (n : Nat) (a b : List (List Int)) : (leastM n a b).length = n := tab_len _ _
theorem tab_row (n : Nat) (F : Nat → Nat → Int) (i : Nat) (hi : i < n) : (nth (tab n F) i).length = n := by unfold tab; rw [nth_ran n _ i hi, ran_len]
theorem imin_le_left (x y : Int) : imin x y ≤ x := by unfold imin; split <;> omega
theorem imin_le_right (x y : Int) : imin x y ≤ y := by unfold imin; split <;> omega
theorem imin_mono {x y x' y' : Int} (h1 : x ≤ x') (h2 : y ≤ y') : imin x y ≤ imin x' y' := by unfold imin; split <;> split <;> omega
theorem imin_ge {x y z : Int} (h1 : z ≤ x) (h2 : z ≤ y) : z ≤ imin x y := by unfold imin; split <;> omega
theorem mm_mono {f g f' g' : Nat → Int} (n : Nat) (h1 : ∀ j, j < n → f j ≤ f' j) (h2 : ∀ j, j < n → g j ≤ g' j) : mm f g n ≤ mm f' g' n := by
  induction n with
  | zero => exact Int.le_refl _
  | succ n ih =>
    have := ih (fun j hj => h1 j (by omega)) (fun j hj => h2 j (by omega))
    have a1 := h1 n (by omega)
    have a2 := h2 n (by omega)
    exact imin_mono this (by omega)
theorem least_tab {n : Nat} {a b : List (List Int)} (hA : Tab n a) (hB : Tab n b) : Tab n (leastM n a b) := by
  refine ⟨leastM_len _ _ _, hA.n1, hA.n8, fun i hi => tab_row n _ i hi, fun i k hi hk => ?_⟩
  have e := at2_tab n (fun i k => imin (at2 a i k) (at2 b i k)) i k hi hk
  have h1 := hA.dist i k hi hk
  have h2 := hB.dist i k hi hk
  show 0 ≤ at2 (tab n _) i k ∧ at2 (tab n _) i k ≤ 16
  rw [e]
  exact ⟨imin_ge h1.1 h2.1, Int.le_trans (imin_le_left _ _) h1.2⟩
theorem least_le {n : Nat} {a b : List (List Int)} (i k : Nat) (hi : i < n) (hk : k < n) : at2 (leastM n a b) i k ≤ at2 a i k := by
  have e := at2_tab n (fun i k => imin (at2 a i k) (at2 b i k)) i k hi hk
  show at2 (tab n _) i k ≤ _
  rw [e]; exact imin_le_left _ _
theorem mul_at (n : Nat) (a b : List (List Int)) (i k : Nat) (hi : i < n) (hk : k < n) : at2 (mulM n a b) i k = mm (fun j => at2 a i j) (fun j => at2 b j k) n := at2_tab n _ i k hi hk

theorem oneM_one : oneM 1 = .ok [[0]] := rfl
def RetTab (w : World) (n : Nat) (rs : List (List Int)) (e : Ending) (w' : World) : Prop :=
  ∃ a c ob G C, e = .returned (.tuple #[.slice a n c, .nilIface]) ∧ OMat w'.heap w.heap.size 28 3 a c ob rs G C ∧ Fr (fun _ => False) w w'
theorem mul_ok {n na nb : Nat} (hna : na = n) (hnb : nb = n) (a b : List (List Int)) (aa ab : Option Addr) (ca cb : Nat) (A B : Nat → Option Addr) (CA CB : Nat → Nat) (w : World) (hA : Mat w.heap aa a A CA) (hB : Mat w.heap ab b B CB) (hTa : Tab n a) (hTb : Tab n b) :
    Calls Try.prog 17 #[.slice aa na ca, .slice ab nb cb] w (RetTab w n (mulM n a b)) := by
  subst hna; subst hnb
  have h8 := hTa.n8
  have lA := hTa.len
  have lB := hTb.len
  have := mul_mat a b aa ab ca cb A B CA CB w hA hB (by omega) (by omega)
  rw [lA, lB] at this
  exact this.mono fun e w' h => h.get (mulE_ok hTa hTb) (mulM_len _ _ _)

theorem OMat.cells {w : World} {base : Nat} {T E : TypeId} {a : Option Addr} {c : Nat} {ob : Option Nat} {rs : List (List Int)} {G C : Nat → Nat} (h : OMat w.heap base T E a c ob rs G C) {n : Nat} (hn : rs.length = n) (hr : ∀ i, i < n → (nth rs i).length = n) (i k : Nat) (hi : i < n) (hk : k < n) :
    ∃ b off, a = some ⟨b, off, none⟩ ∧ w.cell? ⟨b, off + i, none⟩ = some (.slice (some ⟨G i, 0, none⟩) n (C i)) ∧ w.cell? ⟨G i, k, none⟩ = some (.int .i64 (nth (nth rs i) k)) := by
  obtain ⟨b, off, h1, _, h2⟩ := h.mat.pos (by omega)
  have h3 := h2 w rfl i (by omega)
  rw [hr i hi] at h3
  obtain ⟨g, h4, h5, _, h6, _⟩ := (h.row i (by omega)).pos (by rw [hr i hi]; omega)
  cases h4
  refine ⟨b, off, h1, h3, (h6 k (by rw [hr i hi]; omega)).trans (ivals_get .i64 _ k (by rw [hr i hi]; exact hk))⟩

set_option maxRecDepth 100000 in
set_option maxHeartbeats 2000000 in
theorem rises_any (a b m : List (List Int)) (aa ab am : Option Addr) (ca cb cm : Nat) (A B M : Nat → Option Addr) (CA CB CM : Nat → Nat) (i k : Int) (w : World) (hA : Mat w.heap aa a A CA) (hB : Mat w.heap ab b B CB) (hMm : Mat w.heap am m M CM)
    (la : a.length ≤ 9223372036854775807) (lb : b.length ≤ 9223372036854775807) (lm : m.length ≤ 9223372036854775807) :
    Calls Try.prog 6 #[.slice aa a.length ca, .slice ab b.length cb, .slice am m.length cm, .int .i64 i, .int .i64 k] w (RetV w (.bool true)) := by
  go_enter Try.func6, Try.ntmps6
  go_wp2_with (go_at_call 16; refine (one_any 1 _).mono ?_)
  intro e1 w1 R1
  obtain ⟨a1, c1, ob1, G1, C1, rfl, -, hF1⟩ := R1.get (n := 1) oneM_one rfl
  go_wp2_with (go_at_call 17; refine (mul_mat a b aa ab ca cb A B CA CB _ (hA.fr hF1 (fun _ _ h => h)) (hB.fr hF1 (fun _ _ h => h)) la lb).mono ?_)
  intro e2 w2 R2
  rcases mulE_cases a b with ⟨q, hq⟩ | ⟨hTa, hTb, hq⟩
  · rw [hq] at R2
    obtain ⟨rfl, hF2⟩ := R2
    clear hq
    go_wp2
    go_ret
    exact RetV.mk rfl rfl (hF1.trans hF2)
  · have lB := hTb.len
    obtain ⟨ax, cx, obx, Gx, Cx, rfl, hX, hF2⟩ := R2.get (n := a.length) hq (by rw [mulM_len])
    clear R2 hq
    have hFw2 := hF1.trans hF2
    have n1 := hTa.n1
    have n8 := hTa.n8
    go_wp2_with (go_at_call 18; refine (check_any m am cm M CM _ (hMm.fr hFw2 (fun _ _ h => h)) lm).mono ?_)
    intro e3 w3 R3
    obtain ⟨rfl, hF3⟩ := R3
    have hFw3 := hFw2.trans hF3
    cases hm : matErr m with
    | some q =>
      rw [errOpt_some]
      clear hm
      go_wp2
      go_ret
      exact RetV.mk rfl rfl hFw3
    | none =>
      have hTm := matErr_none.1 hm
      rw [errOpt_none]
      clear hm
      by_cases hbad : m.length ≠ a.length ∨ i < 0 ∨ (a.length : Int) ≤ i ∨ k < 0 ∨ (a.length : Int) ≤ k
      · by_cases hml : m.length = a.length
        · have hne : ((m.length : Int) != (a.length : Int)) = false := by simp [hml]
          have hbad2 : i < 0 ∨ (a.length : Int) ≤ i ∨ k < 0 ∨ (a.length : Int) ≤ k := by omega
          clear hbad hml
          go_wp2
          all_goals go_ret
          all_goals exact RetV.mk rfl rfl hFw3
        · have hne : ((m.length : Int) != (a.length : Int)) = true := by simp; omega
          clear hbad hml
          go_wp2
          all_goals go_ret
          all_goals exact RetV.mk rfl rfl hFw3
      · obtain ⟨i, rfl⟩ := Int.eq_ofNat_of_zero_le (show 0 ≤ i by omega)
        obtain ⟨k, rfl⟩ := Int.eq_ofNat_of_zero_le (show 0 ≤ k by omega)
        have hml : m.length = a.length := by omega
        have hi : i < a.length := by omega
        have hk : k < a.length := by omega
        have hne : ((m.length : Int) != (a.length : Int)) = false := by simp [hml]
        have hTm' : Tab a.length m := by rw [← hml]; exact hTm
        have HML := Lib.hid hml
        clear hbad hml hTm
        have HTm := Lib.hid hTm'
        clear hTm'
        go_wp2_with (go_at_call 19; refine (least_any' HML.out a m aa am ca cm A M CA CM _ (hA.fr hFw3 (fun _ _ h => h)) (hMm.fr hFw3 (fun _ _ h => h)) hTa HTm.out).mono ?_)
        intro e4 w4 R4
        obtain ⟨al, cl, obl, Gl, Cl, rfl, hL, hF4⟩ := R4.get (n := a.length) (leastM_len _ _ _)
        have hTl := least_tab hTa HTm.out
        have hLL := fun i k hi hk => least_le (n := a.length) (a := a) (b := m) i k hi hk
        clear R4
        have hFw4 := hFw3.trans hF4
        obtain ⟨L, hLe⟩ : ∃ L, L = leastM a.length a m := ⟨_, rfl⟩
        rw [← hLe] at hL hTl hLL
        clear hLe
        go_wp2_with (go_at_call 17; refine (mul_ok rfl rfl L b al ab cl cb _ B _ CB _ hL.mat (hB.fr hFw4 (fun _ _ h => h)) hTl hTb).mono ?_)
        intro e5 w5 R5
        obtain ⟨ay, cy, oby, Gy, Cy, rfl, hY, hF5⟩ := R5
        have hFw5 := hFw4.trans hF5
        go_wp2_with (go_at_call 17; refine (mul_ok rfl rfl b a ab aa cb ca B A CB CA _ (hB.fr hFw5 (fun _ _ h => h)) (hA.fr hFw5 (fun _ _ h => h)) hTb hTa).mono ?_)
        intro e6 w6 R6
        obtain ⟨az, cz, obz, Gz, Cz, rfl, hZ, hF6⟩ := R6
        have hFw6 := hFw5.trans hF6
        have hL6 := hL.fr (hF5.trans hF6) (fun _ _ _ h => h)
        go_wp2_with (go_at_call 17; refine (mul_ok rfl rfl b L ab al cb cl B _ CB _ _ (hB.fr hFw6 (fun _ _ h => h)) hL6.mat hTb hTl).mono ?_)
        intro e7 w7 R7
        obtain ⟨aw, cw, obw, Gw, Cw, rfl, hW, hF7⟩ := R7
        have hFw7 := hFw6.trans hF7
        have row := fun (a b : List (List Int)) (n i : Nat) (hi : i < n) => tab_row n (fun i c => mm (fun j => at2 a i j) (fun j => at2 b j c) n) i hi
        obtain ⟨_, _, rfl, x1, x2⟩ := OMat.cells (hX.fr (hF3.trans (hF4.trans (hF5.trans (hF6.trans hF7)))) (fun _ _ _ h => h)) (mulM_len _ _ _) (fun i hi => row a b _ i hi) i k hi hk
        obtain ⟨_, _, rfl, y1, y2⟩ := OMat.cells (hY.fr (hF6.trans hF7) (fun _ _ _ h => h)) (mulM_len _ _ _) (fun i hi => row L b _ i hi) i k hi hk
        obtain ⟨_, _, rfl, z1, z2⟩ := OMat.cells (hZ.fr hF7 (fun _ _ _ h => h)) (mulM_len _ _ _) (fun i hi => row b a _ i hi) i k hi hk
        obtain ⟨_, _, rfl, v1, v2⟩ := OMat.cells hW (mulM_len _ _ _) (fun i hi => row b L _ i hi) i k hi hk
        have q1 : at2 (mulM a.length L b) i k ≤ at2 (mulM a.length a b) i k := by
          rw [mul_at _ _ _ _ _ hi hk, mul_at _ _ _ _ _ hi hk]
          exact mm_mono _ (fun j hj => hLL i j hi hj) (fun j _ => Int.le_refl _)
        have q2 : at2 (mulM a.length b L) i k ≤ at2 (mulM a.length b a) i k := by
          rw [mul_at _ _ _ _ _ hi hk, mul_at _ _ _ _ _ hi hk]
          exact mm_mono _ (fun j _ => Int.le_refl _) (fun j hj => hLL j k hj hk)
        unfold at2 at q1 q2
        clear row hX hY hZ hW hL hL6 hLL
        generalize nth (nth (mulM a.length L b) i) k = s1 at *
        generalize nth (nth (mulM a.length a b) i) k = s2 at *
        generalize nth (nth (mulM a.length b L) i) k = s3 at *
        generalize nth (nth (mulM a.length b a) i) k = s4 at *
        go_wp2
        go_quiet (fail)
        go_wp2
        go_ret
        exact RetV.mk rfl rfl (hFw7.drewN nq)
end Go.Proofs.Ytlmoaompmiobjaa
