import Derived.Test.YtlmoaompmiobjaaPowMath
import Derived.Test.YtlmoaompmiobjaaOwn7
namespace Go.Proofs.Ytlmoaompmiobjaa
open Go.RowKit

def powM (n : Nat) (b : List (List Int)) (u : List (List Int)) : Nat → List (List Int)
  | 0 => u
  | k + 1 => mulM n (powM n b u k) b
def oneT (n : Nat) : List (List Int) := ran n (oneRow n)

theorem one_at (n i k : Nat) (hi : i < n) (hk : k < n) : at2 (oneT n) i k = if k = i then 0 else 16 := by
  unfold at2 oneT oneRow
  rw [nth_ran n _ i hi, nth_set _ _ _ _ (by simpa using hi)]
  split
  · rfl
  · exact nth_replicate _ _ _ hk
theorem one_tab {n : Nat} (h1 : 1 ≤ n) (h8 : n ≤ 8) : Tab n (oneT n) := by
  refine ⟨ran_len _ _, h1, h8, fun i hi => ?_, fun i k hi hk => ?_⟩
  · unfold oneT; rw [nth_ran n _ i hi]; simp [oneRow]
  · have := one_at n i k hi hk
    show 0 ≤ at2 _ i k ∧ at2 _ i k ≤ 16
    rw [this]; split <;> omega
theorem tab_ext {n : Nat} {a b : List (List Int)} (hA : Tab n a) (hB : Tab n b) (h : ∀ i k, i < n → k < n → at2 a i k = at2 b i k) : a = b := by
  have lA := hA.len
  have lB := hB.len
  apply ext_nth (by omega)
  intro i hi
  apply ext_nth (by rw [hA.rows i (by omega), hB.rows i (by omega)])
  intro k hk
  rw [hA.rows i (by omega)] at hk
  exact h i k (by omega) hk
theorem mul_tab' {n : Nat} {a b : List (List Int)} (hA : Tab n a) (hB : Tab n b) : Tab n (mulM n a b) := by
  refine ⟨mulM_len _ _ _, hA.n1, hA.n8, fun i hi => tab_row n _ i hi, fun i k hi hk => ?_⟩
  show 0 ≤ at2 _ i k ∧ at2 _ i k ≤ 16
  rw [mul_at n a b i k hi hk]
  refine ⟨mm_ge (by decide) (fun j hj => ?_), mm_le16 _ _ _⟩
  have h3 := hA.dist i j hi hj
  have h4 := hB.dist j k hj hk
  show 0 ≤ nth (nth a i) j + nth (nth b j) k
  omega
theorem pow_tab {n : Nat} {b u : List (List Int)} (hB : Tab n b) (hU : Tab n u) : ∀ k, Tab n (powM n b u k) := by
  intro k
  induction k with
  | zero => exact hU
  | succ k ih => exact mul_tab' ih hB
/-- The table with One is the table with nothing on its way. -/
theorem diag_at {n : Nat} {a : List (List Int)} (hA : Tab n a) (i k : Nat) (hi : i < n) : at2 (diag n a) i k = if k = i then 0 else at2 a i k := by
  unfold at2 diag
  rw [nth_ran n _ i hi, nth_set _ _ _ _ (by rw [hA.rows i hi]; exact hi)]
theorem least_diag {n : Nat} {a : List (List Int)} (hA : Tab n a) : leastM n a (oneT n) = diag n a := by
  have hO := one_tab hA.n1 hA.n8
  refine tab_ext (least_tab hA hO) (diag_tab hA) (fun i k hi hk => ?_)
  have e := at2_tab n (fun i k => imin (at2 a i k) (at2 (oneT n) i k)) i k hi hk
  have d := hA.dist i k hi hk
  rw [diag_at hA i k hi, show at2 (leastM n a (oneT n)) i k = _ from e, one_at n i k hi hk]
  have d' : 0 ≤ at2 a i k ∧ at2 a i k ≤ 16 := d
  clear d
  generalize at2 a i k = z at *
  unfold imin
  split
  · split <;> omega
  · split <;> omega
theorem diag_dist {n : Nat} {a : List (List Int)} (hA : Tab n a) : Dist0 n (at2 (diag n a)) :=
  ⟨fun i hi => by rw [diag_at hA i i hi, if_pos rfl], fun i k hi hk => ((diag_tab hA).dist i k hi hk).1, fun i k hi hk => ((diag_tab hA).dist i k hi hk).2⟩
theorem starJ_at {n : Nat} {rs : List (List Int)} (h : Tab n rs) (hd : Dist0 n (at2 rs)) : ∀ m, m ≤ n → ∀ x y, x < n → y < n → at2 (starJ n m rs) x y = fw (at2 rs) m x y := by
  intro m
  induction m with
  | zero => intro _ x y _ _; rfl
  | succ m ih =>
    intro hm x y hx hy
    have ih := ih (by omega)
    show at2 (starI n m n (starJ n m rs)) x y = _
    rw [starI_at (F := fw (at2 rs) m) (starJ_tab h m (by omega)) m (by omega) ((fw_dist hd m (by omega)).z m (by omega)) ih n (Nat.le_refl _) x y hx hy, if_pos hx]
    rfl
theorem mm_congr {f g f' g' : Nat → Int} {n : Nat} (h1 : ∀ j, j < n → f j = f' j) (h2 : ∀ j, j < n → g j = g' j) : mm f g n = mm f' g' n := by
  induction n with
  | zero => rfl
  | succ n ih => show imin _ _ = imin _ _; rw [ih (fun j hj => h1 j (by omega)) (fun j hj => h2 j (by omega)), h1 n (by omega), h2 n (by omega)]
theorem pow_at {n : Nat} {b : List (List Int)} (m : Nat) : ∀ x y, x < n → y < n → at2 (powM n b (oneT n) m) x y = pw n (at2 b) m x y := by
  induction m with
  | zero => intro x y hx hy; exact one_at n x y hx hy
  | succ m ih =>
    intro x y hx hy
    show at2 (mulM n _ b) x y = mm _ _ n
    rw [mul_at n _ _ x y hx hy]
    exact mm_congr (fun j hj => ih x j hx hj) (fun j _ => rfl)
theorem powers_law {n : Nat} {a : List (List Int)} (hA : Tab n a) : powM n (leastM n a (oneT n)) (oneT n) n = starM n a := by
  rw [least_diag hA]
  have hd := diag_dist hA
  refine tab_ext (pow_tab (diag_tab hA) (one_tab hA.n1 hA.n8) n) (star_tab hA) (fun i k hi hk => ?_)
  rw [pow_at n i k hi hk, pw_eq hd i k hi hk]
  exact (starJ_at (diag_tab hA) hd n (Nat.le_refl _) i k hi hk).symm

set_option maxRecDepth 100000 in
set_option maxHeartbeats 2000000 in
theorem powers_any (a : List (List Int)) (aa : Option Addr) (ca : Nat) (A : Nat → Option Addr) (CA : Nat → Nat) (w : World) (hA : Mat w.heap aa a A CA) (la : a.length ≤ 9223372036854775807) :
    Calls Try.prog 7 #[.slice aa a.length ca] w (RetV w (.bool true)) := by
  go_enter Try.func7, Try.ntmps7
  go_wp2_with (go_at_call 16; refine (one_any 1 _).mono ?_)
  intro e1 w1 R1
  obtain ⟨a1, c1, ob1, G1, C1, rfl, -, hF1⟩ := R1.get (n := 1) oneM_one rfl
  go_wp2_with (go_at_call 20; refine (star_any a aa ca A CA _ (hA.fr hF1 (fun _ _ h => h)) la).mono ?_)
  intro e2 w2 R2
  by_cases hT : matErr a = none
  · have hTa := matErr_none.1 hT
    clear hT
    have hTs := star_tab hTa
    have n1 := hTa.n1
    have n8 := hTa.n8
    obtain ⟨as', cs, obs, Gs, Cs, rfl, hS, hF2⟩ := R2.get (starE_ok hTa) hTs.len
    have hFw2 := hF1.trans hF2
    have hone : oneM (a.length : Int) = .ok (oneT a.length) := by
      unfold oneM
      rw [if_neg (by omega), Int.toNat_natCast]; rfl
    have hTo := one_tab n1 n8
    go_wp2_with (go_at_call 16; refine (one_any (a.length : Int) _).mono ?_)
    intro e3 w3 R3
    obtain ⟨au, cu, obu, Gu, Cu, rfl, hU, hF3⟩ := R3.get (n := a.length) hone (ran_len _ _)
    have hFw3 := hFw2.trans hF3
    clear R1 R2 R3
    go_wp2_with (go_at_call 19; refine (least_any a.length a (oneT a.length) aa au ca cu A _ CA _ _ (hA.fr hFw3 (fun _ _ h => h)) hU.mat hTa hTo).mono ?_)
    intro e4 w4 R4
    obtain ⟨ab, cb, obb, Gb, Cb, rfl, hB, hF4⟩ := R4.get (n := a.length) (leastM_len _ _ _)
    have hFw4 := hFw3.trans hF4
    have hTb := least_tab hTa hTo
    have hLaw := Lib.hid (powers_law hTa)
    have hU4 := hU.fr hF4 (fun _ _ _ h => h)
    have hS4 := hS.fr (hF3.trans hF4) (fun _ _ _ h => h)
    generalize leastM a.length a (oneT a.length) = B at hB hTb hLaw
    generalize starM a.length a = St at hS4 hTs hLaw
    clear hU hF3 hF4 hS hF2 R4 hone
    go_wp2
    go_loopw [11, 10] (fun s11 s10 wr => ∃ (k : Nat) (ap : Option Addr) (cp : Nat) (ob : Option Nat) (G C : Nat → Nat), k ≤ a.length ∧ s11 = .int .i64 k ∧ s10 = .slice ap a.length cp ∧ OMat wr.heap w.heap.size 28 3 ap cp ob (powM a.length B (oneT a.length) k) G C ∧ Fr (fun _ => False) w4 wr) (fun s _ _ => a.length - (intOf s).toNat)
    case atStart => exact ⟨0, au, cu, obu, Gu, Cu, by omega, rfl, rfl, hU4.low hFw2.size, Fr.refl _ _⟩
    case round =>
      obtain ⟨k, ap, cp, ob, G, C, hk, rfl, rfl, hP, hF⟩ := hrel
      have hTp := pow_tab hTb hTo k
      by_cases hkl : k < a.length
      · go_wp2_with (go_at_call 17; refine (mul_ok rfl rfl (powM a.length B (oneT a.length) k) B ap ab cp cb _ _ _ _ _ hP.mat (hB.fr hF (fun _ _ _ h => h)).mat hTp hTb).mono ?_)
        intro e5 w5 R5
        obtain ⟨aq, cq, obq, Gq, Cq, rfl, hQ, hF5⟩ := R5
        have hQ2 : OMat w5.heap w.heap.size 28 3 aq cq obq (powM a.length B (oneT a.length) (k + 1)) Gq Cq := hQ.low (by have := (hFw4.trans hF).size; exact this)
        clear hQ hP
        go_wp2
        go_roundw
        case rel => exact ⟨k + 1, aq, cq, obq, Gq, Cq, by omega, by go_num, rfl, hQ2, hF.trans hF5⟩
        case measure => simp [intOf]; omega
      · obtain rfl : k = a.length := by omega
        rw [hLaw.out] at hP hTp
        have hR := srows_eq St ap as' cp cs _ _ _ _ wr hP.mat (hS4.fr hF (fun _ _ _ h => h)).mat (by rw [hTs.len]; omega)
        rw [hTs.len] at hR
        go_wp2_with (go_at_call 21; refine hR.mono ?_)
        intro e6 w6 R6
        obtain ⟨rfl, n6, rfl⟩ := R6
        go_wp2
        go_ret
        exact RetV.mk rfl rfl ((hFw4.trans hF).drewN n6)
  · have hk : ∃ k, starE a = .error k := by
      unfold starE
      cases h : matErr a with
      | some k => exact ⟨k, rfl⟩
      | none => exact absurd h hT
    clear hT
    obtain ⟨k, hk⟩ := hk
    rw [hk] at R2
    obtain ⟨rfl, hF2⟩ := R2
    clear hk
    go_wp2
    go_ret
    exact RetV.mk rfl rfl (hF1.trans hF2)
end Go.Proofs.Ytlmoaompmiobjaa
