import Derived.Test.YtfglidaicjjpfaaNetW
import Derived.Handy
import Derived.Test.YtfglidaicjjpfaaNets
import Derived.Test.YtfglidaicjjpfaaBestB
import Derived.Test.YtfglidaicjjpfaaErr
import Derived.Test.YtfglidaicjjpfaaDmTab
import Derived.Test.YtfglidaicjjpfaaQOwn3
import Derived.Test.YtfglidaicjjpfaaSl
import Derived.Test.YtfglidaicjjpfaaArgBest
import Derived.Test.YtfglidaicjjpfaaQOwn1
import Derived.Lib.SmallJoins
section
namespace Go.Proofs.Ytfglidaicjjpfaa
open Go.RowKit

/-! ### Cut to so many bits -/
def cutA (a : Int) (k : Nat) : Int := a - a % 2 ^ (32 - k)
theorem nat_and_hi (A j : Nat) (hA : A < 2 ^ 32) (hj : j ≤ 32) : A &&& (2 ^ 32 - 2 ^ j) = A - A % 2 ^ j := by
  have e1 : 2 ^ 32 - 2 ^ j = (2 ^ (32 - j) - 1) <<< j := by
    rw [Nat.shiftLeft_eq, Nat.sub_mul, ← Nat.pow_add, Nat.sub_add_cancel hj, Nat.one_mul]
  have e2 : A - A % 2 ^ j = (A >>> j) <<< j := by
    rw [Nat.shiftLeft_eq, Nat.shiftRight_eq_div_pow]
    have := Nat.div_add_mod A (2 ^ j)
    rw [Nat.mul_comm] at this
    omega
  rw [e1, e2]
  apply Nat.eq_of_testBit_eq
  intro b
  simp only [Nat.testBit_and, Nat.testBit_shiftLeft, Nat.testBit_two_pow_sub_one, Nat.testBit_shiftRight]
  by_cases hb : j ≤ b
  · have e3 : j + (b - j) = b := by omega
    rw [e3]
    by_cases h32 : b - j < 32 - j
    · simp [hb, h32]
    · have : A.testBit b = false := Nat.testBit_lt_two_pow (Nat.lt_of_lt_of_le hA (Nat.pow_le_pow_right (by decide) (by omega)))
      simp [this]
  · simp [hb]
theorem maskV_and (a : Int) (n : Nat) (ha : 0 ≤ a ∧ a < 4294967296) (hn : n ≤ 32) : bits .and .u32 a (maskV n) = cutA a n := by
  have h1 := maskV_eq n (by omega)
  have h2 := pow_le32 n (by omega)
  rw [u32_and a _ ha.1 ha.2 (by omega) (by omega), h1]
  obtain ⟨A, rfl⟩ := Int.eq_ofNat_of_zero_le ha.1
  have e : (4294967296 - (2 : Int) ^ (32 - n)).toNat = 2 ^ 32 - 2 ^ (32 - n) := by
    have : ((2 ^ (32 - n) : Nat) : Int) = (2 : Int) ^ (32 - n) := by simp
    omega
  have hle : A % 2 ^ (32 - n) ≤ A := Nat.mod_le _ _
  rw [e, Int.toNat_natCast, nat_and_hi A (32 - n) (by omega) (by omega), cutA]
  rw [Int.ofNat_sub hle]
  simp
theorem cutA_bd {a : Int} (ha : 0 ≤ a ∧ a < 4294967296) (k : Nat) : 0 ≤ cutA a k ∧ cutA a k < 4294967296 := by
  have h := Int.emod_nonneg a (show (2 : Int) ^ (32 - k) ≠ 0 from Int.ne_of_gt (Int.pow_pos (by decide)))
  have h2 : a % 2 ^ (32 - k) ≤ a := by
    obtain ⟨A, rfl⟩ := Int.eq_ofNat_of_zero_le ha.1
    have : ((2 ^ (32 - k) : Nat) : Int) = (2 : Int) ^ (32 - k) := by simp
    rw [← this, ← Int.natCast_emod]
    exact Int.ofNat_le.2 (Nat.mod_le _ _)
  unfold cutA
  omega
theorem cutA_mod (a : Int) (k : Nat) : cutA a k % 2 ^ (32 - k) = 0 := by
  unfold cutA
  exact Int.emod_eq_zero_of_dvd (by
    have := Int.mul_ediv_add_emod a (2 ^ (32 - k))
    exact ⟨a / 2 ^ (32 - k), by omega⟩)
/-- Cut twice. -/
theorem cutA_cut (a : Int) {i j : Nat} (hij : i ≤ j) (hj : j ≤ 32) : cutA (cutA a j) i = cutA a i := by
  have hd : (2 : Int) ^ (32 - j) ∣ 2 ^ (32 - i) := ⟨2 ^ (j - i), by rw [← Int.pow_add]; congr 1; omega⟩
  have e : (cutA a j) % 2 ^ (32 - i) = a % 2 ^ (32 - i) - a % 2 ^ (32 - j) := by
    unfold cutA
    have h0 : a % 2 ^ (32 - j) = (a % 2 ^ (32 - i)) % 2 ^ (32 - j) := (Int.emod_emod_of_dvd a hd).symm
    have p1 : (0 : Int) < 2 ^ (32 - i) := Int.pow_pos (by decide)
    have p2 : (0 : Int) < 2 ^ (32 - j) := Int.pow_pos (by decide)
    have h1 := Int.emod_nonneg a (Int.ne_of_gt p1)
    have h2 := Int.emod_lt_of_pos a p1
    have h3 : (a % 2 ^ (32 - i)) % 2 ^ (32 - j) ≤ a % 2 ^ (32 - i) := by
      have q1 := Int.mul_ediv_add_emod (a % 2 ^ (32 - i)) (2 ^ (32 - j))
      have q2 := Int.mul_nonneg (Int.le_of_lt p2) (Int.ediv_nonneg h1 (Int.le_of_lt p2))
      omega
    have h4 := Int.emod_nonneg (a % 2 ^ (32 - i)) (Int.ne_of_gt p2)
    have e1 : a - a % 2 ^ (32 - j) = (a % 2 ^ (32 - i) - a % 2 ^ (32 - j)) + 2 ^ (32 - i) * (a / 2 ^ (32 - i)) := by
      have := Int.mul_ediv_add_emod a (2 ^ (32 - i)); omega
    rw [e1, Int.add_mul_emod_self_left]
    exact Int.emod_eq_of_lt (by omega) (by omega)
  show cutA a j - (cutA a j) % 2 ^ (32 - i) = _
  rw [e]
  unfold cutA
  omega
theorem cutA_self {a : Int} {k : Nat} (h : a % 2 ^ (32 - k) = 0) : cutA a k = a := by unfold cutA; omega
theorem cutA_zero {a : Int} (ha : 0 ≤ a ∧ a < 4294967296) : cutA a 0 = 0 := by
  unfold cutA
  have : a % 2 ^ (32 - 0) = a := Int.emod_eq_of_lt ha.1 (by simpa using ha.2)
  omega
theorem netErr_nat (a : Int) (k : Nat) (hk : k ≤ 32) : netErr a k = if a % 2 ^ (32 - k) ≠ 0 then some 3 else none := by
  unfold netErr
  rw [if_neg (by omega), show (32 - (k : Int)).toNat = 32 - k by omega]
theorem netErr_ok {a n : Int} (h : netErr a n = none) : ∃ k : Nat, n = k ∧ k ≤ 32 ∧ a % 2 ^ (32 - k) = 0 := by
  have hn : 0 ≤ n ∧ n ≤ 32 := by
    unfold netErr at h
    split at h
    · cases h
    · omega
  obtain ⟨k, rfl⟩ := Int.eq_ofNat_of_zero_le hn.1
  have hk : k ≤ 32 := by omega
  refine ⟨k, rfl, hk, ?_⟩
  rw [netErr_nat a k hk] at h
  split at h
  · cases h
  · rename_i h0; exact Classical.not_not.1 h0
theorem netErr_cut (a : Int) (k : Nat) (hk : k ≤ 32) : netErr (cutA a k) k = none := by
  rw [netErr_nat _ k hk, if_neg (by simpa using cutA_mod a k)]



def upE (a n : Int) : Except Int (Int × Int) := match netErr a n with
  | some k => .error k
  | none => if n = 0 then .error 2 else .ok (cutA a (n - 1).toNat, n - 1)
def RetNet (w : World) (r : Except Int (Int × Int)) (e : Ending) (w' : World) : Prop :=
  match r with
  | .error k => RetV w (.tuple #[.agg #[.int .u32 0, .int .i64 0], errv k]) e w'
  | .ok p => RetV w (.tuple #[.agg #[.int .u32 p.1, .int .i64 p.2], .nilIface]) e w'
theorem RetNet.err {w w' : World} {r : Except Int (Int × Int)} {k : Int} {e : Ending} (h : r = .error k) (he : e = .returned (.tuple #[.agg #[.int .u32 0, .int .i64 0], errv k])) (hF : Fr (fun _ => False) w w') : RetNet w r e w' := by subst h; exact ⟨he, hF⟩
theorem RetNet.ok {w w' : World} {r : Except Int (Int × Int)} {a n : Int} {e : Ending} (h : r = .ok (a, n)) (he : e = .returned (.tuple #[.agg #[.int .u32 a, .int .i64 n], .nilIface])) (hF : Fr (fun _ => False) w w') : RetNet w r e w' := by subst h; exact ⟨he, hF⟩


/-- Has a net an address? -/
def hasB (a n x : Int) : Bool := decide (netErr a n = none ∧ cutA x n.toNat = a)


/-- Has one net all that another one has? -/
def inB (a n b m : Int) : Bool := decide (netErr a n = none ∧ m ≤ n) && hasB b m a

end Go.Proofs.Ytfglidaicjjpfaa
end

section
namespace Go.Proofs.Ytfglidaicjjpfaa
open Go.RowKit

theorem maskV_or : ∀ k, k < 32 → bits .or .u32 (maskV k) (2 ^ (31 - k) % 4294967296) = maskV (k + 1) := by decide +kernel

/-- An error's number; 0: there is none. -/
def numO : Option Int → Int
  | none => 0
  | some k => k
theorem netErr_pos {a n k : Int} (h : netErr a n = some k) : k ≠ 0 := by
  unfold netErr at h
  split at h
  · cases h; decide
  · split at h
    · cases h; decide
    · cases h


/-- Where a net is in a list: from below 0 (nowhere) on; in a list of whatever length. -/
def PlacesB (w : World) (l : List Nt) (x : Nt) (e : Ending) (w' : World) : Prop := ∃ p : Int, e = .returned (.int .i64 p) ∧ Fr (fun _ => False) w w' ∧ decide (p ≥ 0) = decide (x ∈ l) ∧ decide (p < 0) = !(decide (x ∈ l)) ∧ -1 ≤ p ∧ p ≤ l.length
set_option maxRecDepth 100000 in
set_option maxHeartbeats 2000000 in
theorem placesB_any {n : Nat} (l : List Nt) (x : Nt) (a : Option Addr) (c : Nat) (w : World) (ha : Recs w.heap a 2 Nt.cells l) (hl : l.length ≤ 9223372036854775806) (hn : n = l.length) :
    Calls Try.prog 12 #[.slice a n c, .agg #[.int .u32 x.a, .int .i64 x.n]] w (PlacesB w l x) := by
  subst hn
  go_enter Try.func12, Try.ntmps12
  go_wp2
  go_loopw [5] (fun i wr => ∃ k n : Nat, k ≤ l.length ∧ i = .int .i64 k ∧ wr = (w.alloc (.cells #[.int .u32 x.a, .int .i64 x.n] 43)).drewN n ∧ Hid (∀ j, j < k → nth l j ≠ x)) (fun i _ => l.length - (intOf i).toNat)
  case atStart => exact ⟨0, 0, by omega, rfl, rfl, Lib.hid (fun j hj => absurd hj (Nat.not_lt_zero _))⟩
  case round =>
    obtain ⟨k, n, hk, rfl, rfl, hE⟩ := hrel
    by_cases hlt : k < l.length
    · obtain ⟨g1, o1, rfl, q1, c1⟩ := Recs.pos ha Nt.cells_len (by omega) (by omega)
      have d0 := c1 w rfl k 0 hlt (by omega)
      have d1 := c1 w rfl k 1 hlt (by omega)
      obtain ⟨y, hy⟩ : ∃ y, y = nth l k := ⟨_, rfl⟩
      rw [← hy] at d0 d1
      obtain ⟨ya, yn⟩ := y
      obtain ⟨xa, xn⟩ := x
      simp only [Nt.cells, List.getElem?_cons_zero, List.getElem?_cons_succ, ← Nat.add_assoc, Nat.add_zero] at d0 d1
      have HY := Lib.hid hy
      clear c1 hy
      by_cases he : ya = xa ∧ yn = xn
      · have e1 : (ya == xa) = true := by simp [he.1]
        have e2 : (yn == xn) = true := by simp [he.2]
        have hX := Lib.hid (show (⟨xa, xn⟩ : Nt) ∈ l by rw [← he.1, ← he.2, HY.out]; exact nth_mem l k hlt)
        clear he
        go_wp2
        go_quiet (fail)
        go_wp2
        go_ret
        exact ⟨k, rfl, (((Fr.refl _ w).alloc _).drewN n).drewN nq, by simp [hX.out], by simp [hX.out], by omega, by omega⟩
      · have q : (ya == xa) = false ∨ ((ya == xa) = true ∧ (yn == xn) = false) := by
          simp only [beq_eq_false_iff_ne, beq_iff_eq, ne_eq]
          omega
        have hE' := Lib.hid (show ∀ j, j < k + 1 → nth l j ≠ (⟨xa, xn⟩ : Nt) from fun j hj => by
          rcases Nat.lt_succ_iff_lt_or_eq.1 hj with h | h
          · exact hE.out j h
          · subst h; rw [← HY.out]; intro hh; simp only [Nt.mk.injEq] at hh; exact he hh)
        clear he
        rcases q with e1 | ⟨e1, e2⟩
        all_goals
          go_wp2
          go_quiet (fail)
          go_wp2
          go_roundw
          case rel => exact ⟨k + 1, n + nq, by omega, by go_num, by simp, hE'⟩
          case measure => simp [intOf]; omega
    · obtain rfl : k = l.length := by omega
      have hX := Lib.hid (show x ∉ l from fun h => by
        obtain ⟨j, hj, hh⟩ := List.mem_iff_getElem.1 h
        exact hE.out j hj (by rw [nth_eq l j hj]; exact hh))
      go_wp2
      go_ret
      exact ⟨-1, rfl, ((Fr.refl _ w).alloc _).drewN n, by simp [hX.out], by simp [hX.out], by omega, by omega⟩
end Go.Proofs.Ytfglidaicjjpfaa
end

section
namespace Go.Proofs.Ytfglidaicjjpfaa
open Go.RowKit








end Go.Proofs.Ytfglidaicjjpfaa
end

section
namespace Go.Proofs.Ytfglidaicjjpfaa
open Go.RowKit

theorem lastOf_bd {l : List Hea} (h : ∀ x ∈ l, 1 ≤ x.m ∧ x.m ≤ 16) (f a n : Int) : 1 ≤ lastOf l f a n ∧ lastOf l f a n ≤ 16 := by
  unfold lastOf
  cases hl : lastO l f a n with
  | none => exact ⟨by decide, by decide⟩
  | some m => exact lastO_bd h hl
/-- How far by each neighbour. -/
def pOf (l : List Hea) (costs : List Int) (a n : Int) (k : Nat) : Int := plusM (nth costs k) (lastOf l k a n)
theorem bestM_eq {l : List Hea} {costs : List Int} (a n : Int) (hl : ∀ x ∈ l, 1 ≤ x.m ∧ x.m ≤ 16) (hc : ∀ c ∈ costs, 1 ≤ c ∧ c ≤ 16) : bestM l costs a n = (mK (pOf l costs a n) costs.length, hopsK (pOf l costs a n) (mK (pOf l costs a n) costs.length) costs.length) :=
  chK_eq (fun i => lastO l i a n) costs (pOf l costs a n) (fun _ _ => rfl) hc (fun _ _ h => lastO_bd hl h) costs.length (Nat.le_refl _)


end Go.Proofs.Ytfglidaicjjpfaa
end

section
namespace Go.Proofs.Ytfglidaicjjpfaa
open Go.RowKit

set_option maxRecDepth 100000 in
theorem ten3_any (w : World) : Calls Try.prog 46 #[] w (fun e w' => e = .returned (.agg #[.int .u32 167772160, .int .i64 8]) ∧ w' = w.alloc (.cells #[.int .u32 167772160, .int .i64 8] 43)) := by
  go_enter Try.func46, Try.ntmps46
  go_wp2
  exact bodyPost_ret (v := .agg #[.int .u32 167772160, .int .i64 8]) (by simp [results, Try.results46, go_sem]) rfl ⟨rfl, rfl⟩
end Go.Proofs.Ytfglidaicjjpfaa
end

section
namespace Go
theorem lensub {l m : List Nt} (hn : l.Nodup) (hs : ∀ x ∈ l, x ∈ m) : l.length ≤ m.length := by
  induction l generalizing m with
  | nil => exact Nat.zero_le _
  | cons x l ih =>
    obtain ⟨h1, h2⟩ := List.nodup_cons.1 hn
    have hx := hs x (by simp)
    have := ih (m := m.erase x) h2 (fun y hy => (List.mem_erase_of_ne (fun e : y = x => h1 (by rw [← e]; exact hy))).2 (hs y (by simp [hy])))
    have hl := List.length_erase_of_mem hx
    have hp := List.length_pos_of_mem hx
    simp only [List.length_cons]
    omega
theorem nsx {l m : List Nt} (hl : NSorted l) (hm : NSorted m) (h : ∀ x, x ∈ l ↔ x ∈ m) : l = m := by
  induction l generalizing m with
  | nil =>
    cases m with
    | nil => rfl
    | cons y m => exact absurd ((h y).2 (by simp)) (by simp)
  | cons x l ih =>
    cases m with
    | nil => exact absurd ((h x).1 (by simp)) (by simp)
    | cons y m =>
      obtain ⟨h1, h2⟩ := List.pairwise_cons.1 hl
      obtain ⟨h3, h4⟩ := List.pairwise_cons.1 hm
      have hxy : x = y := by
        rcases List.mem_cons.1 ((h x).1 (by simp)) with e | e
        · exact e
        · rcases List.mem_cons.1 ((h y).2 (by simp)) with e2 | e2
          · exact e2.symm
          · exact absurd (h1 y e2) (ntLt_asymm (h3 x e))
      subst hxy
      congr 1
      refine ih h2 h4 (fun z => ?_)
      constructor
      · intro hz
        rcases List.mem_cons.1 ((h z).1 (by simp [hz])) with e | e
        · subst e; exact absurd (h1 z hz) (ntLt_irrefl z)
        · exact e
      · intro hz
        rcases List.mem_cons.1 ((h z).2 (by simp [hz])) with e | e
        · subst e; exact absurd (h3 z hz) (ntLt_irrefl z)
        · exact e
theorem nsn {l : List Nt} (h : NSorted l) : l.Nodup := List.Pairwise.imp (fun {a b} (hab : ntLt a b) (e : a = b) => ntLt_irrefl a (by rw [← e] at hab; exact hab)) h
end Go
namespace Go.Proofs.Ytfglidaicjjpfaa
open Go.RowKit
theorem TabR.own {D : DC} {l : List Td} {R : List BestR} (h : TabR D l R) {q : Nt} (hq : q ∈ D.own) : q ∈ R.map bnet := (h.mem q).2 ⟨.inl hq, by rw [bestD_own hq]; decide⟩
theorem TabR.ge {D : DC} {l : List Td} {R : List BestR} (h : TabR D l R) (hn : D.own.Nodup) : D.own.length ≤ R.length := by
  have := lensub hn (fun x hx => h.own hx)
  simpa using this
/-- Where all that was heard is that there is no way. -/
theorem bestM_16 {l : List Hea} {costs : List Int} (a n : Int) (h : ∀ x ∈ l, x.m = 16) (hc : ∀ c ∈ costs, 1 ≤ c ∧ c ≤ 16) : bestM l costs a n = (16, []) := by
  have hl : ∀ x ∈ l, 1 ≤ x.m ∧ x.m ≤ 16 := fun x hx => by rw [h x hx]; decide
  have h1 : ∀ f, lastOf l f a n = 16 := fun f => by
    unfold lastOf
    have : ∀ m, lastO l f a n = some m → m = 16 := fun m hm => by
      have key : ∀ l : List Hea, (∀ x ∈ l, x.m = 16) → ∀ m, lastO l f a n = some m → m = 16 := by
        intro l
        refine snocI (P := fun l => (∀ x ∈ l, x.m = 16) → ∀ m, lastO l f a n = some m → m = 16) (fun _ m hm => by cases hm) (fun l x ih hx m hm => ?_) l
        rw [lastO_snoc] at hm
        split at hm
        · cases hm; exact hx x (by simp)
        · exact ih (fun y hy => hx y (by simp [hy])) m hm
      exact key l h m hm
    cases ho : lastO l f a n with
    | none => rfl
    | some m => exact this m ho
  rw [bestM_eq a n hl hc]
  have h2 : ∀ k, k < costs.length → pOf l costs a n k = 16 := fun k hk => by
    unfold pOf plusM
    rw [h1]
    have := hc _ (nth_mem costs k hk)
    rw [if_neg (by omega)]
  have h3 : ∀ k, k ≤ costs.length → mK (pOf l costs a n) k = 16 := by
    intro k
    induction k with
    | zero => intro _; rfl
    | succ k ih =>
      intro hk
      unfold mK
      rw [ih (by omega), h2 k (by omega)]
      rfl
  rw [h3 _ (Nat.le_refl _), hopsK_16 _ (by decide)]
theorem hearM_0 {D : DC} {l : List Td} {bad : Int} {b : List Int} {f : Int} : (hearM D 0 l bad b f 0).now = 0 ∧ bad ≤ (hearM D 0 l bad b f 0).bad ∧ (hearM D 0 l bad b f 0).bad ≤ bad + 1 := by
  unfold hearM
  split
  · exact ⟨rfl, by simp only; omega, by simp only; omega⟩
  · split
    · exact ⟨rfl, by simp only; omega, by simp only; omega⟩
    · exact ⟨rfl, by simp only; omega, by simp only; omega⟩
    · exact ⟨rfl, by simp only; omega, by simp only; omega⟩
/-- A router's blocks are its own: what was there ahead of it stays. -/
theorem Fr.dm {w0 w w' : World} {D : DC} (h : Fr (fun _ => False) w0 w) (f : Fr (fun k => k = D.bd ∨ k = D.br) w w') (h1 : w0.heap.size ≤ D.bd) (h2 : w0.heap.size ≤ D.br) : Fr (fun _ => False) w0 w' := h.trans' f (fun k hk e => by omega)
set_option maxRecDepth 100000 in
set_option maxHeartbeats 2000000 in
theorem routed_any (w : World) : Calls Try.prog 21 #[] w (RetV w (.bool true)) := by
  go_enter Try.func21, Try.ntmps21
  go_wp2_with (fail)
  refine (ten3_any _).mono ?_
  rintro e1 w1 ⟨rfl, hw1⟩
  have hC : Ints w1.heap (some ⟨w.heap.size, 0, none⟩) [1, 2] := by
    rw [hw1]; exact ((Own.made w 3 1 2 [.int .i64 1, .int .i64 2] rfl (by decide)).alloc _).rd
  have hF1 : Fr (fun _ => False) w w1 := by rw [hw1]; exact ((Fr.refl _ _).alloc _).alloc _
  have hN : Recs (w1.alloc (.cells #[.int .u32 167772160, .int .i64 8] 43)).heap (some ⟨w1.heap.size, 0, none⟩) 2 Nt.cells [⟨167772160, 8⟩] := (Own.made w1 43 2 1 (Nt.cells ⟨167772160, 8⟩) rfl (by decide)).rd
  have hFa := (Fr.refl (fun _ => False) w1).alloc (.cells #[.int .u32 167772160, .int .i64 8] 43)
  clear hw1
  go_wp2_with (fail)
  refine (dnew_any [1, 2] _ 2 [⟨167772160, 8⟩] _ 1 _ (hC.fr hFa (fun _ _ _ h => h)) (by decide) (fun h => nomatch h) hN (fun x hx => by rw [List.mem_singleton.1 hx]; decide) (by decide) (fun h => nomatch h) (by decide) rfl rfl).mono ?_
  intro e2 w2 R2
  obtain ⟨D, rfl, hDc, hDo, hlo, -, hD, hF2⟩ := R2.okE (by decide)
  have hF02 := (hF1.trans hFa).trans hF2
  clear R2 hC hN hF1
  go_wp2_with (fail)
  refine (dtab_any w2 (hD w2.heap.size (Nat.le_refl _))).mono ?_
  rintro e3 w3 ⟨R, aR, cR, ob, rfl, hA, hR, hF3⟩
  have hk : R.map bnet = [⟨167772160, 8⟩] := nsx hR.srt (by simp) (fun q => by
    rw [hR.mem, hDo]
    constructor
    · rintro ⟨h | ⟨x, hx, _⟩, _⟩
      · exact h
      · cases hx
    · intro h
      exact ⟨.inl h, by rw [bestD_own (by rw [hDo]; exact h)]; decide⟩)
  have hR1 : R.length = 1 := by have := congrArg List.length hk; simpa using this
  match R, hR1 with
  | [r], _ =>
    have hr : bnet r = ⟨167772160, 8⟩ := by simpa using hk
    have hv := hR.val r (by simp)
    rw [bestD_own (by rw [hDo, hr]; simp)] at hv
    obtain ⟨g, rfl, -, hgl, hgc, -⟩ := hA.own.pos (by simp)
    have d := hgc 2 (by simp)
    have hm : r.m = 1 := congrArg Prod.fst hv
    simp only [List.flatMap_cons, List.flatMap_nil, List.append_nil, BestR.cells, List.getElem?_cons_succ, List.getElem?_cons_zero] at d
    rw [hm] at d
    have hFe := hF02.trans hF3
    clear hgc hA hR hv hm hk hr hD hF3 hF02 hF2
    go_wp2
    go_ret
    exact RetV.mk rfl rfl hFe
end Go.Proofs.Ytfglidaicjjpfaa
end

section
namespace Go.Proofs.Ytfglidaicjjpfaa
open Go.RowKit

set_option maxRecDepth 100000 in
set_option maxHeartbeats 1000000 in
theorem ints_any (l m : List Int) (a b : Option Addr) (c d : Nat) (w : World) (ha : Ints w.heap a l) (hb : Ints w.heap b m) (hl : l.length ≤ 9223372036854775807) (hm : m.length ≤ 9223372036854775807) :
    Calls Try.prog 45 #[.slice a l.length c, .slice b m.length d] w (RetQ w (.bool (decide (l = m)))) := by
  go_enter Try.func45, Try.ntmps45
  by_cases hlen : l.length = m.length
  · have hne : ((l.length : Int) != (m.length : Int)) = false := by simp [hlen]
    have HL : Hid (l.length = m.length) := Lib.hid hlen
    clear hlen
    go_wp2
    go_loopw [5] (fun i wr => ∃ k n : Nat, k ≤ l.length ∧ i = .int .i64 k ∧ wr = w.drewN n ∧ Hid (l.take k = m.take k)) (fun i _ => l.length - (intOf i).toNat)
    case atStart => exact ⟨0, 0, by omega, rfl, rfl, rfl⟩
    case round =>
      obtain ⟨k, n, hk, rfl, rfl, hE⟩ := hrel
      by_cases hlt : k < l.length
      · have hlm : k < m.length := by have := HL.out; omega
        obtain ⟨g1, o1, rfl, q1, c1⟩ := Ints.pos ha (by omega)
        obtain ⟨g2, o2, rfl, q2, c2⟩ := Ints.pos hb (by omega)
        have d1 := c1 w rfl k hlt
        have d2 := c2 w rfl k hlm
        clear c1 c2
        by_cases he : nth l k = nth m k
        · have hb : (nth l k != nth m k) = false := by simp [he]
          have hE' : Hid (l.take (k + 1) = m.take (k + 1)) := (by rw [take_succ_nth l k hlt, take_succ_nth m k hlm, hE.out, he] : l.take (k + 1) = m.take (k + 1))
          clear he
          go_wp2
          go_quiet (fail)
          go_wp2
          go_roundw
          case rel => exact ⟨k + 1, n + nq, by omega, by go_num, by simp, hE'⟩
          case measure => simp [intOf]; omega
        · have hb : (nth l k != nth m k) = true := by simp [he]
          have hX : Hid (decide (l = m) = false) := (by
            apply decide_eq_false
            intro h
            exact he (by rw [h]) : decide (l = m) = false)
          clear he
          go_wp2
          go_quiet (fail)
          go_wp2
          go_ret
          exact RetQ.mk (show Value.bool false = _ from (by rw [hX.out])) rfl (n + nq) (by simp)
      · obtain rfl : k = l.length := by omega
        have hX : Hid (decide (l = m) = true) := (by
          apply decide_eq_true
          have h := hE.out
          rw [List.take_length, HL.out, List.take_length] at h
          exact h : decide (l = m) = true)
        go_wp2
        go_ret
        exact RetQ.mk (show Value.bool true = _ from (by rw [hX.out])) rfl (n) (rfl)
  · have hne : ((l.length : Int) != (m.length : Int)) = true := by simp; omega
    have hX : Hid (decide (l = m) = false) := (by
      apply decide_eq_false
      intro h
      exact hlen (by rw [h]) : decide (l = m) = false)
    clear hlen
    go_wp2
    go_ret
    exact RetQ.mk (show Value.bool false = _ from (by rw [hX.out])) rfl (0) (rfl)
theorem ints_any' {n k : Nat} (l m : List Int) (a b : Option Addr) (c d : Nat) (w : World) (ha : Ints w.heap a l) (hb : Ints w.heap b m) (hl : l.length ≤ 9223372036854775807) (hm : m.length ≤ 9223372036854775807) (hn : n = l.length) (hk : k = m.length) :
    Calls Try.prog 45 #[.slice a n c, .slice b k d] w (RetQ w (.bool (decide (l = m)))) := by
  subst hn; subst hk; exact ints_any l m a b c d w ha hb hl hm
end Go.Proofs.Ytfglidaicjjpfaa
end

section
namespace Go.Proofs.Ytfglidaicjjpfaa
open Go.RowKit

/-- Ways that are handed in. -/
structure BestsR (H : Array Obj) (a : Option Addr) (l : List BestR) : Prop where
  top : Recs H a 4 BestR.cells l
  row : ∀ x ∈ l, Ints H x.A x.h
  len : ∀ x ∈ l, x.h.length ≤ 9223372036854775807
theorem BestsR.fr0 {S : Nat → Prop} {w w' : World} {a : Option Addr} {l : List BestR} (h : BestsR w.heap a l) (f : Fr S w w') (hs : ∀ k, k < w.heap.size → ¬ S k) : BestsR w'.heap a l :=
  ⟨h.top.fr0 f hs, fun x hx => (h.row x hx).fr0 f hs, h.len⟩
/-- Are two ways the same? -/
def bEq (x y : BestR) : Bool := decide (x.h = y.h ∧ x.a = y.a ∧ x.n = y.n ∧ x.m = y.m)
set_option maxRecDepth 100000 in
set_option maxHeartbeats 1000000 in
theorem sbest_any (x y : BestR) (w : World) (hx : Ints w.heap x.A x.h) (hy : Ints w.heap y.A y.h) (lx : x.h.length ≤ 9223372036854775807) (ly : y.h.length ≤ 9223372036854775807) :
    Calls Try.prog 15 #[.agg #[.int .u32 x.a, .int .i64 x.n, .int .i64 x.m, .slice x.A x.h.length x.C], .agg #[.int .u32 y.a, .int .i64 y.n, .int .i64 y.m, .slice y.A y.h.length y.C]] w (RetV w (.bool (bEq x y))) := by
  obtain ⟨xa, xn, xm, xh, xA, xC⟩ := x
  obtain ⟨ya, yn, ym, yh, yA, yC⟩ := y
  simp only at hx hy lx ly ⊢
  have hF := ((Fr.refl (fun _ => False) w).alloc (.cells #[.int .u32 xa, .int .i64 xn, .int .i64 xm, .slice xA xh.length xC] 50)).alloc (.cells #[.int .u32 ya, .int .i64 yn, .int .i64 ym, .slice yA yh.length yC] 50)
  have hx' := hx.fr0 hF (fun _ _ h => h)
  have hy' := hy.fr0 hF (fun _ _ h => h)
  have hbx := (Blk.made w 50 [.int .u32 xa, .int .i64 xn, .int .i64 xm, .slice xA xh.length xC]).alloc (.cells #[.int .u32 ya, .int .i64 yn, .int .i64 ym, .slice yA yh.length yC] 50)
  have hby := Blk.made (w.alloc (.cells #[.int .u32 xa, .int .i64 xn, .int .i64 xm, .slice xA xh.length xC] 50)) 50 [.int .u32 ya, .int .i64 yn, .int .i64 ym, .slice yA yh.length yC]
  obtain ⟨B, hB⟩ : ∃ B, B = bEq ⟨xa, xn, xm, xh, xA, xC⟩ ⟨ya, yn, ym, yh, yA, yC⟩ := ⟨_, rfl⟩
  rw [← hB]
  have HB := Lib.hid hB
  have HBX := Lib.hid hbx
  have HBY := Lib.hid hby
  clear hB hx hy hbx hby
  go_enter Try.func15, Try.ntmps15
  go_wp2_with (fail)
  refine (ints_any' xh yh _ _ _ _ _ hx' hy' lx ly rfl rfl).mono ?_
  rintro e1 w1 ⟨rfl, n1, rfl⟩
  have hF1 := hF.drewN n1
  by_cases hh : xh = yh
  · rw [decide_eq_true hh]
    by_cases hn : xa = ya ∧ xn = yn
    · have e1 : (xa == ya) = true := by simp [hn.1]
      have e2 : (xn == yn) = true := by simp [hn.2]
      by_cases hm : xm = ym
      · have e3 : (xm == ym) = true := by simp [hm]
        have HV := Lib.hid (HB.out.trans (show _ = true from decide_eq_true ⟨hh, hn.1, hn.2, hm⟩))
        clear hh hn hm
        go_wp2
        go_ret
        exact RetV.mk (show Value.bool true = _ by rw [HV.out]) rfl hF1
      · have e3 : (xm == ym) = false := by simp [hm]
        have HV := Lib.hid (HB.out.trans (show _ = false from decide_eq_false fun h => hm h.2.2.2))
        clear hh hn hm
        go_wp2
        go_ret
        exact RetV.mk (show Value.bool false = _ by rw [HV.out]) rfl hF1
    · have q : (xa == ya) = false ∨ ((xa == ya) = true ∧ (xn == yn) = false) := by
        simp only [beq_eq_false_iff_ne, beq_iff_eq, ne_eq]
        omega
      have HV := Lib.hid (HB.out.trans (show _ = false from decide_eq_false fun h => hn ⟨h.2.1, h.2.2.1⟩))
      clear hh hn
      rcases q with e1 | ⟨e1, e2⟩
      all_goals
        go_wp2
        go_ret
        exact RetV.mk (show Value.bool false = _ by rw [HV.out]) rfl hF1
  · rw [decide_eq_false hh]
    have HV := Lib.hid (HB.out.trans (show _ = false from decide_eq_false fun h => hh h.1))
    clear hh
    go_wp2
    go_ret
    exact RetV.mk (show Value.bool false = _ by rw [HV.out]) rfl hF1

set_option maxRecDepth 100000 in
set_option maxHeartbeats 1000000 in
theorem sbests_true {n k : Nat} (l m : List BestR) (a b : Option Addr) (c d : Nat) (w : World) (ha : BestsR w.heap a l) (hb : BestsR w.heap b m) (hE : Hid (∀ i, i < l.length → bEq (nth l i) (nth m i) = true)) (hlm : m.length = l.length) (hl : l.length ≤ 9223372036854775806) (hn : n = l.length) (hk : k = l.length) :
    Calls Try.prog 20 #[.slice a n c, .slice b k d] w (RetV w (.bool true)) := by
  subst hn
  subst hk
  have HA := Lib.hid ha
  have HBb := Lib.hid hb
  have HLM := Lib.hid hlm
  clear ha hb hlm
  go_enter Try.func20, Try.ntmps20
  go_wp2
  go_loopw [5] (fun i wr => ∃ k : Nat, k ≤ l.length ∧ i = .int .i64 k ∧ Fr (fun _ => False) w wr) (fun i _ => l.length - (intOf i).toNat)
  case atStart => exact ⟨0, by omega, rfl, Fr.refl _ _⟩
  case round =>
    obtain ⟨k, hk, rfl, hF⟩ := hrel
    by_cases hlt : k < l.length
    · have hA := HA.out.fr0 hF (fun _ _ h => h)
      have hB := HBb.out.fr0 hF (fun _ _ h => h)
      have hlm : k < m.length := by have := HLM.out; omega
      obtain ⟨g1, o1, rfl, q1, c1⟩ := Recs.pos hA.top BestR.cells_len (by omega) (by omega)
      obtain ⟨g2, o2, rfl, q2, c2⟩ := Recs.pos hB.top BestR.cells_len (by omega) (by omega)
      have d0 := c1 wr rfl k 0 hlt (by omega)
      have d1 := c1 wr rfl k 1 hlt (by omega)
      have d2 := c1 wr rfl k 2 hlt (by omega)
      have d3 := c1 wr rfl k 3 hlt (by omega)
      have f0 := c2 wr rfl k 0 hlm (by omega)
      have f1 := c2 wr rfl k 1 hlm (by omega)
      have f2 := c2 wr rfl k 2 hlm (by omega)
      have f3 := c2 wr rfl k 3 hlm (by omega)
      have hx := hA.row _ (nth_mem l k hlt)
      have hy := hB.row _ (nth_mem m k hlm)
      have lx := hA.len _ (nth_mem l k hlt)
      have ly := hB.len _ (nth_mem m k hlm)
      have he := hE.out k hlt
      obtain ⟨x, hxe⟩ : ∃ x, x = nth l k := ⟨_, rfl⟩
      obtain ⟨y, hye⟩ : ∃ y, y = nth m k := ⟨_, rfl⟩
      rw [← hxe] at d0 d1 d2 d3 hx lx he
      rw [← hye] at f0 f1 f2 f3 hy ly he
      simp only [BestR.cells, List.getElem?_cons_zero, List.getElem?_cons_succ, ← Nat.add_assoc, Nat.add_zero] at d0 d1 d2 d3 f0 f1 f2 f3
      have HEq := Lib.hid he
      clear c1 c2 hxe hye hA hB he
      go_wp2
      (refine wp_region_mix (fun _ => True) 8 (by kernel_rfl) (by kernel_rfl) (trivial) ?_; simp only [List.take_succ_cons, List.take_zero, List.drop_succ_cons, List.drop_zero])
      (refine wpMix_earlyN 8 (by kernel_rfl) (by kernel_rfl) ?_; simp only [List.take_succ_cons, List.take_zero, List.drop_succ_cons, List.drop_zero]; (repeat (go_big_quiet_step (fail))); refine wpQuiet_nil ?_)
      refine wpMix_nil ?_
      go_wp2_with (fail)
      refine (sbest_any x y wr.drew hx hy lx ly).mono ?_
      rintro e1 w1 ⟨rfl, hF1⟩
      rw [HEq.out]
      have hF01 := hF.drew.trans hF1
      go_wp2
      go_roundw
      case rel => exact ⟨k + 1, by omega, by go_num, hF01⟩
      case measure => simp [intOf]; omega
    · obtain rfl : k = l.length := by omega
      go_wp2
      go_ret
      exact RetV.mk rfl rfl hF
end Go.Proofs.Ytfglidaicjjpfaa
end

section
namespace Go
theorem mK_at (p : Nat → Int) : ∀ k, mK p k = 16 ∨ ∃ j, j < k ∧ p j = mK p k := by
  intro k
  induction k with
  | zero => exact .inl rfl
  | succ k ih =>
    unfold mK
    by_cases h : p k < mK p k
    · rw [if_pos h]; exact .inr ⟨k, by omega, rfl⟩
    · rw [if_neg h]
      rcases ih with h1 | ⟨j, h1, h2⟩
      · exact .inl h1
      · exact .inr ⟨j, by omega, h2⟩
theorem hopsK_mem {p : Nat → Int} {M z : Int} : ∀ {k}, z ∈ hopsK p M k → ∃ q : Nat, z = q ∧ q < k ∧ p q = M ∧ M < 16 := by
  intro k
  induction k with
  | zero => intro h; cases h
  | succ k ih =>
    intro h
    unfold hopsK at h
    split at h
    · rename_i hc
      rcases List.mem_append.1 h with h | h
      · obtain ⟨q, h1, h2, h3⟩ := ih h; exact ⟨q, h1, by omega, h3⟩
      · exact ⟨k, List.mem_singleton.1 h, by omega, hc.2.1, hc.1⟩
    · obtain ⟨q, h1, h2, h3⟩ := ih h; exact ⟨q, h1, by omega, h3⟩
/-- Without one, that was not taken, the same are taken. -/
theorem hopsK_less {p p' : Nat → Int} {M f : Int} (hM : M < 16) (h1 : ∀ k : Nat, (k : Int) ≠ f → p' k = p k) (h2 : ∀ k : Nat, (k : Int) = f → p' k = 16) : ∀ k, f ∉ hopsK p M k → hopsK p' M k = hopsK p M k := by
  intro k
  induction k with
  | zero => intro _; rfl
  | succ k ih =>
    intro h
    have h3 : f ∉ hopsK p M k := fun h4 => h (by unfold hopsK; split <;> simp [h4])
    have e := ih h3
    unfold hopsK at h ⊢
    rw [e]
    by_cases hk : (k : Int) = f
    · rw [if_neg (fun hh => by have := h2 k hk; omega)]
      split at h
      · exact absurd (by rw [hk]; simp) h
      · rename_i hc; rw [if_neg hc]
    · rw [h1 k hk]
theorem mK_mono {p p' : Nat → Int} : ∀ k, (∀ j, j < k → p j ≤ p' j) → mK p k ≤ mK p' k := by
  intro k
  induction k with
  | zero => intro _; exact Int.le_refl _
  | succ k ih =>
    intro h
    have h1 := ih (fun j hj => h j (by omega))
    have h2 := h k (by omega)
    unfold mK
    split <;> split <;> omega
end Go
namespace Go.Proofs.Ytfglidaicjjpfaa
open Go.RowKit
theorem aged0 {l : List Td} (h : RibOk 0 l) : rAged 0 l = l := by
  have key : ∀ l : List Td, (∀ x ∈ l, age1 0 x = some x) → rAged 0 l = l := by
    intro l
    induction l with
    | nil => intro _; rfl
    | cons x l ih =>
      intro h
      unfold rAged at *
      rw [List.filterMap_cons, h x (by simp)]
      simp only
      rw [ih (fun y hy => h y (by simp [hy]))]
  refine key l (fun x hx => ?_)
  have hxo := h.each x hx
  have h0 := hxo.t0
  have h1 := hxo.t1
  by_cases hm : x.m < 16
  · exact age1_live hm (by omega)
  · rw [age1_dead hm, if_pos (by omega)]
theorem lost_last (f now : Int) (l : List Td) (h : ∀ x ∈ l, x.m ≤ 16) (k a n : Int) : lastOf (hdL (l.map (lose1 f now))) k a n = if k = f then 16 else lastOf (hdL l) k a n := by
  have key : lastO (hdL (l.map (lose1 f now))) k a n = if k = f then (lastO (hdL l) k a n).map (fun _ => 16) else lastO (hdL l) k a n := by
    revert h
    refine snocI (P := fun l => (∀ x ∈ l, x.m ≤ 16) → lastO (hdL (l.map (lose1 f now))) k a n = if k = f then (lastO (hdL l) k a n).map (fun _ => 16) else lastO (hdL l) k a n) (fun _ => by simp [hdL, lastO]) (fun l x ih hx => ?_) l
    have ih := ih (fun y hy => hx y (by simp [hy]))
    have hxm := hx x (by simp)
    obtain ⟨k1, k2, k3⟩ := lose1_key f now x
    have e1 : hdL ((l ++ [x]).map (lose1 f now)) = hdL (l.map (lose1 f now)) ++ [Td.hd (lose1 f now x)] := by simp [hdL]
    have e2 : hdL (l ++ [x]) = hdL l ++ [Td.hd x] := by simp [hdL]
    rw [e1, e2, lastO_snoc, lastO_snoc, ih]
    have e3 : (Td.hd (lose1 f now x)).f = x.f ∧ (Td.hd (lose1 f now x)).a = x.a ∧ (Td.hd (lose1 f now x)).n = x.n := ⟨k1, k2, k3⟩
    rw [e3.1, e3.2.1, e3.2.2]
    have e4 : (Td.hd x).f = x.f ∧ (Td.hd x).a = x.a ∧ (Td.hd x).n = x.n := ⟨rfl, rfl, rfl⟩
    rw [e4.1, e4.2.1, e4.2.2]
    by_cases hc : x.f = k ∧ x.a = a ∧ x.n = n
    · rw [if_pos hc, if_pos hc]
      by_cases hk : k = f
      · rw [if_pos hk]
        have : (Td.hd (lose1 f now x)).m = 16 := by
          show (lose1 f now x).m = 16
          unfold lose1
          by_cases hm : x.m < 16
          · rw [if_pos ⟨by omega, hm⟩]
          · rw [if_neg (fun hh => hm hh.2)]; omega
        rw [this]; rfl
      · rw [if_neg hk]
        have : (Td.hd (lose1 f now x)).m = x.m := by
          show (lose1 f now x).m = x.m
          unfold lose1
          rw [if_neg (fun hh => hk (by omega))]
        rw [this]; rfl
    · rw [if_neg hc, if_neg hc]
  unfold lastOf
  rw [key]
  by_cases hk : k = f
  · rw [if_pos hk, if_pos hk]
    cases lastO (hdL l) k a n <;> rfl
  · rw [if_neg hk, if_neg hk]
theorem hd_bd {now : Int} {l : List Td} (h : RibOk now l) : ∀ x ∈ hdL l, 1 ≤ x.m ∧ x.m ≤ 16 := fun x hx => by
  obtain ⟨y, hy, rfl⟩ := List.mem_map.1 hx
  have := h.each y hy
  exact ⟨this.m0, this.m1⟩
/-- What a neighbour's going does. -/
theorem down_law {w : World} {base : Nat} {D : DC} {l : List Td} {bad f : Int} {R R' : List BestR} (hD : Dmn w base D 0 l bad) (ho : D.own = []) (h : TabR D l R) (h' : TabR D (rLost f 0 l) R') :
    (∀ r ∈ R', f ∉ r.h) ∧ (∀ r ∈ R, f ∉ r.h → ∃ r' ∈ R', bEq r' r = true) ∧ R'.length ≤ R.length := by
  have hc := (nearE_ok hD.near).2
  have hl := hd_bd hD.ok
  have hok' : RibOk 0 (rLost f 0 l) := lose_ok hD.ok (Int.le_refl 0) (by decide)
  have hl' := hd_bd hok'
  have hlost : rLost f 0 l = l.map (lose1 f 0) := by unfold rLost; rw [aged0 hD.ok]
  have hm16 : ∀ x ∈ l, x.m ≤ 16 := fun x hx => (hD.ok.each x hx).m1
  have hown : ∀ q : Nt, q ∉ D.own := fun q hq => by rw [ho] at hq; cases hq
  -- the sums, by neighbour
  have hp1 : ∀ (q : Nt) (k : Nat), (k : Int) ≠ f → pOf (hdL (rLost f 0 l)) D.costs q.a q.n k = pOf (hdL l) D.costs q.a q.n k := fun q k hk => by
    unfold pOf; rw [hlost, lost_last f 0 l hm16, if_neg hk]
  have hp2 : ∀ (q : Nt) (k : Nat), k < D.costs.length → (k : Int) = f → pOf (hdL (rLost f 0 l)) D.costs q.a q.n k = 16 := fun q k hk hf => by
    unfold pOf; rw [hlost, lost_last f 0 l hm16, if_pos hf]
    have := hc _ (nth_mem D.costs k hk)
    unfold plusM; rw [if_neg (by omega)]
  have hp16 : ∀ (q : Nt) (k : Nat), pOf (hdL l) D.costs q.a q.n k ≤ 16 := fun q k => by unfold pOf plusM; split <;> omega
  have hmono : ∀ q : Nt, mK (pOf (hdL l) D.costs q.a q.n) D.costs.length ≤ mK (pOf (hdL (rLost f 0 l)) D.costs q.a q.n) D.costs.length := fun q => mK_mono _ (fun j hj => by
    by_cases hk : (j : Int) = f
    · rw [hp2 q j hj hk]; exact hp16 q j
    · rw [hp1 q j hk]; exact Int.le_refl _)
  have hv : ∀ q : Nt, bestD D l q = (mK (pOf (hdL l) D.costs q.a q.n) D.costs.length, hopsK (pOf (hdL l) D.costs q.a q.n) (mK (pOf (hdL l) D.costs q.a q.n) D.costs.length) D.costs.length) := fun q => by
    rw [bestD_other (hown q), bestM_eq _ _ hl hc]
  have hv' : ∀ q : Nt, bestD D (rLost f 0 l) q = (mK (pOf (hdL (rLost f 0 l)) D.costs q.a q.n) D.costs.length, hopsK (pOf (hdL (rLost f 0 l)) D.costs q.a q.n) (mK (pOf (hdL (rLost f 0 l)) D.costs q.a q.n) D.costs.length) D.costs.length) := fun q => by
    rw [bestD_other (hown q), bestM_eq _ _ hl' hc]
  refine ⟨fun r hr hf => ?_, fun r hr hf => ?_, ?_⟩
  · have h1 := h'.val r hr
    rw [hv'] at h1
    have h2 : r.h = _ := congrArg Prod.snd h1
    rw [h2] at hf
    obtain ⟨q, e1, e2, e3, e4⟩ := hopsK_mem hf
    rw [hp2 _ q e2 e1.symm] at e3
    omega
  · have h1 := h.val r hr
    have h3 := (h.mem (bnet r)).1 (List.mem_map.2 ⟨r, hr, rfl⟩)
    obtain ⟨h3, h4⟩ := h3
    rw [hv] at h1 h4
    have h2 : r.h = _ := congrArg Prod.snd h1
    have h5 : r.m = _ := congrArg Prod.fst h1
    rw [h2] at hf
    simp only at h4 hf
    have hv0 := hv (bnet r)
    have hv1 := hv' (bnet r)
    have q1 := hp1 (bnet r)
    have q2 := hp2 (bnet r)
    have q3 := hmono (bnet r)
    obtain ⟨p, hp⟩ : ∃ p, p = pOf (hdL l) D.costs (bnet r).a (bnet r).n := ⟨_, rfl⟩
    obtain ⟨p', hp'⟩ : ∃ p, p = pOf (hdL (rLost f 0 l)) D.costs (bnet r).a (bnet r).n := ⟨_, rfl⟩
    rw [← hp] at h2 h5 h4 hf q1 q3
    rw [← hp'] at hv1 q1 q2 q3
    obtain ⟨M, hM⟩ : ∃ M, M = mK p D.costs.length := ⟨_, rfl⟩
    rw [← hM] at h2 h5 h4 hf q3
    -- a hop that is not f
    have hbm := bestM_eq (bnet r).a (bnet r).n hl hc
    have hne : hopsK p M D.costs.length ≠ [] := fun he => by
      obtain ⟨-, -, -, -, p5⟩ := chK_bd (fun i => lastO (hdL l) i (bnet r).a (bnet r).n) D.costs (fun i m hm => lastO_bd hl hm) hc D.costs.length (Nat.le_refl _)
      have h6 : bestM (hdL l) D.costs (bnet r).a (bnet r).n = (M, []) := by rw [hbm, ← hp, ← hM, he]
      unfold bestM at h6
      have h7 := congrArg Prod.fst h6
      have h8 := congrArg Prod.snd h6
      have h9 := p5.1 h8
      have h10 : M = 16 := h7.symm.trans h9
      omega
    obtain ⟨z, hz⟩ := List.exists_mem_of_ne_nil _ hne
    obtain ⟨j, e1, e2, e3, -⟩ := hopsK_mem hz
    have hjf : (j : Int) ≠ f := fun e => hf (by rw [← e, ← e1]; exact hz)
    have hM' : mK p' D.costs.length = M := by
      have a1 := (mK_le p' D.costs.length).2 j e2
      rw [q1 j hjf, e3] at a1
      omega
    have hlt : (bestD D (rLost f 0 l) (bnet r)).1 < 16 := by rw [hv1]; simp only; omega
    have hhops : hopsK p' M D.costs.length = hopsK p M D.costs.length := by
      have key : ∀ k, k ≤ D.costs.length → f ∉ hopsK p M k → hopsK p' M k = hopsK p M k := by
        intro k
        induction k with
        | zero => intro _ _; rfl
        | succ k ih =>
          intro hk h
          have h3 : f ∉ hopsK p M k := fun h4 => h (by unfold hopsK; split <;> simp [h4])
          have e := ih (by omega) h3
          unfold hopsK at h ⊢
          rw [e]
          by_cases hkf : (k : Int) = f
          · rw [if_neg (fun hh => by have := q2 k (by omega) hkf; omega)]
            split at h
            · exact absurd (by rw [hkf]; simp) h
            · rename_i hc; rw [if_neg hc]
          · rw [q1 k hkf]
      exact key _ (Nat.le_refl _) hf
    have hmem : bnet r ∈ R'.map bnet := (h'.mem _).2 ⟨.inr (by
      rcases h3 with h3 | ⟨x, hx, hxe⟩
      · exact absurd h3 (hown _)
      · refine ⟨lose1 f 0 x, by rw [hlost]; exact List.mem_map.2 ⟨x, hx, rfl⟩, ?_⟩
        obtain ⟨k1, k2, k3⟩ := lose1_key f 0 x
        rw [k2, k3]; exact hxe), hlt⟩
    obtain ⟨r', hr', hb⟩ := List.mem_map.1 hmem
    have h7 := h'.val r' hr'
    rw [hb, hv1, hM', hhops] at h7
    refine ⟨r', hr', decide_eq_true ?_⟩
    have b1 : r'.a = r.a := congrArg Nt.a hb
    have b2 : r'.n = r.n := congrArg Nt.n hb
    have b3 : r'.m = M := congrArg Prod.fst h7
    have b4 : r'.h = hopsK p M D.costs.length := congrArg Prod.snd h7
    exact ⟨by rw [b4, h2], b1, b2, by rw [b3, h5]⟩
  · have hs : ∀ q ∈ R'.map bnet, q ∈ R.map bnet := fun q hq => by
      obtain ⟨h1, h2⟩ := (h'.mem q).1 hq
      refine (h.mem q).2 ⟨?_, ?_⟩
      · rcases h1 with h1 | ⟨x, hx, hxe⟩
        · exact .inl h1
        · obtain ⟨y, hy, -, e2, e3⟩ := lost_mem hx
          exact .inr ⟨y, hy, by rw [e2, e3]; exact hxe⟩
      · rw [hv'] at h2
        rw [hv]
        have := hmono q
        simp only at h2 ⊢
        omega
    have := lensub (nsn h'.srt) hs
    simpa using this
end Go.Proofs.Ytfglidaicjjpfaa
end

section
namespace Go
open Go.ChangeShapes Go.WideShapes Go.ChangeAt Go.RowKit Go.Deep
section
variable {H : Type} {enc : TypeId × Value → H} {P : Program} {W : World}
/-- A slice of records, opened where it stands. -/
theorem open_recs1 {α : Type} [Inhabited α] {f : α → List Value} {k : Nat} {wf : α → Prop} (hk : 0 < k) (hlen : ∀ q, (f q).length = k) {t e : TypeId} {fuel : Nat} {cs : List Value} {x : DataW H × List MemPlace} (ht : P.underlying t = some (.slice e)) (ce : P.cellsOf e = k)
    (open1 : ∀ fuel cs x, DataW.trod enc P W 0 (fun _ => true) true fuel e cs = some x → ∃ q, cs = f q ∧ wf q)
    (hf : DataW.trod enc P W 0 (fun _ => true) true fuel t cs = some x) :
    ∃ (a : Option Addr) (l : List α) (c : Nat), cs = [.slice a l.length c] ∧ ((∀ y ∈ x.2, y.block < W.heap.size) → Recs W.heap a k f l) ∧ l.length ≤ c ∧ c ≤ maxLen ∧ (∀ x ∈ l, wf x) ∧ (a = none → l = []) ∧
      (c = 0 ∨ ∃ el sp, x.1 = .slice el sp ∧ el.length + sp.length = c) := by
  rcases open_slice ht hf with ⟨hcs, hx⟩ | ⟨a, len', cap', m, n, D, Pl, hcs, _, hl, hm, hmm, hx, hel⟩
  · exact ⟨none, [], 0, hcs, fun _ => Rd.nil _ _ _, by simp, by decide, (by simp), fun _ => rfl, .inl rfl⟩
  · simp only [if_true] at hmm
    subst hmm
    subst hx
    have each : ∀ i, i < m → ∃ q : α, (∀ j, j < k → W.cell? (a.add (i * k + j)) = (f q)[j]?) ∧ wf q := by
      intro i hi
      obtain ⟨cs', h1, h2⟩ := hel i hi
      rw [ce] at h1
      obtain ⟨_, hcl, hcell⟩ := World.cells?_some h1
      obtain ⟨q, rfl, hw⟩ := open1 _ _ _ h2
      refine ⟨q, fun j hj => ?_, hw⟩
      have := hcell j (by omega)
      rw [add_add] at this
      rw [this]
    obtain ⟨q, hq⟩ := choose_lt each
    have hrl : ((List.range len').map q).length = len' := by simp
    refine ⟨some a, (List.range len').map q, m, by rw [hrl]; exact hcs, fun hlt => ?_, by omega, hm, ?_, (fun h => nomatch h), .inr ⟨_, _, rfl, by simp; omega⟩⟩
    · refine ⟨by rw [flat_len _ k hlen], ?_⟩
      by_cases h0 : len' = 0
      · left; subst h0; rfl
      · right
        have hz : ∀ j, j < k → W.cell? (a.add (0 * k + j)) = (f (q 0))[j]? := fun j hj => (hq 0 (by omega)).1 j hj
        have hf0 : ∃ u, (f (q 0))[0]? = some u := ⟨_, List.getElem?_eq_getElem (by rw [hlen]; exact hk)⟩
        obtain ⟨u, hu⟩ := hf0
        obtain ⟨b, off, spot⟩ := a
        have hspot : spot = none := by
          have := hz 0 hk
          rw [hu] at this
          simpa [Addr.add] using World.cell?_spot this
        subst hspot
        refine ⟨b, off, rfl, hlt (.cell b off) (List.mem_append_left _ (MemPlace.mem_row.2 ⟨0, ?_, by simp⟩)), fun w hw i hi => ?_⟩
        · rw [ce]; exact Nat.mul_pos (by omega) hk
        rw [flat_len _ k hlen, hrl] at hi
        have e : w.cell? ⟨b, off + i, none⟩ = W.cell? ⟨b, off + i, none⟩ := by simp only [World.cell?, hw]
        have hd : i = i / k * k + i % k := by rw [Nat.mul_comm]; exact (Nat.div_add_mod i k).symm
        have hi3 : i / k < len' := Nat.div_lt_of_lt_mul (by rw [Nat.mul_comm]; exact hi)
        have hmk : i % k < k := Nat.mod_lt _ hk
        have z0 := (hq (i / k) (by omega)).1 (i % k) hmk
        simp only [add_plain] at z0
        have hn : nth ((List.range len').map q) (i / k) = q (i / k) := by simp [nth, List.getD, hi3]
        rw [e]
        conv => lhs; rw [hd]
        conv => rhs; rw [hd]
        rw [flat_get _ k hlen _ _ _ (by rw [hrl]; exact hi3) hmk, hn]
        exact z0
    · intro x hx
      obtain ⟨i, hi, rfl⟩ := List.mem_map.1 hx
      exact (hq i (by have := List.mem_range.1 hi; omega)).2

open Go.Proofs.Ytfglidaicjjpfaa
def EnW (x : En) : Prop := Nt.wf ⟨x.a, x.n⟩ ∧ (Lit.int .i64 x.t).wf = true ∧ (0 ≤ x.p ∧ x.p < 4294967296) ∧ (Lit.int .i64 x.m).wf = true
theorem open_ent {t : TypeId} {f0 f1 f2 f3 g0 g1 : Field} (ht : P.underlying t = some (.struct #[f0, f1, f2, f3])) (ct : P.cellsOf t = 5) (o0 : f0.offset = 0) (o1 : f1.offset = 2) (o2 : f2.offset = 3) (o3 : f3.offset = 4)
    (kn : P.underlying f0.type = some (.struct #[g0, g1])) (cn : P.cellsOf f0.type = 2) (p0 : g0.offset = 0) (p1 : g1.offset = 1) (j0 : P.underlying g0.type = some (.int .u32)) (j1 : P.underlying g1.type = some (.int .i64)) (b0 : P.cellsOf g0.type = 1) (b1 : P.cellsOf g1.type = 1)
    (k1 : P.underlying f1.type = some (.int .i64)) (c1 : P.cellsOf f1.type = 1) (k2 : P.underlying f2.type = some (.int .u32)) (c2 : P.cellsOf f2.type = 1) (k3 : P.underlying f3.type = some (.int .i64)) (c3 : P.cellsOf f3.type = 1) :
    ∀ fuel cs x, DataW.trod enc P W 0 (fun _ => true) true fuel t cs = some x → ∃ q : En, cs = En.cells q ∧ EnW q := by
  intro fuel cs x h
  obtain ⟨y0, y1, y2, y3, n', hx, hl, h0, h1, h2, h3⟩ := Go.Joins.trod_struct4 ht h
  rw [ct] at hl
  match cs, hl with
  | [v0, v1, v2, v3, v4], _ =>
    simp [o0, o1, o2, o3, cn, c1, c2, c3] at h0 h1 h2 h3
    obtain ⟨q, hq, hqw⟩ := open_net kn cn p0 p1 j0 j1 b0 b1 _ _ _ h0
    obtain ⟨x1, q1, _, w1⟩ := DataW.trod_int k1 h1
    obtain ⟨x2, q2, _, w2⟩ := DataW.trod_int k2 h2
    obtain ⟨x3, q3, _, w3⟩ := DataW.trod_int k3 h3
    simp at hq q1 q2 q3
    obtain ⟨rfl, rfl⟩ := hq
    subst q1
    subst q2
    subst q3
    exact ⟨⟨q.a, q.n, x1, x2, x3⟩, rfl, hqw, w1, u32_wf w2, w3⟩
/-- A message, opened. -/
theorem arg_msg {t te : TypeId} {f0 f1 : Field} {r : Reach} {base : Nat} {v : Value} {d : DataW H} {p : List MemPlace} (ht : P.underlying t = some (.struct #[f0, f1])) (ct : P.cellsOf t = 2) (o0 : f0.offset = 0) (o1 : f1.offset = 1)
    (k0 : P.underlying f0.type = some .bool) (c0 : P.cellsOf f0.type = 1) (k1 : P.underlying f1.type = some (.slice te)) (c1 : P.cellsOf f1.type = 1) (ce : P.cellsOf te = 5)
    (open1 : ∀ fuel cs x, DataW.trod enc P W 0 (fun _ => true) true fuel te cs = some x → ∃ q : En, cs = En.cells q ∧ EnW q)
    (hv : Value.okWide P W r base t v) (h : DataW.Trod enc P W 0 (fun _ => true) true t v d p) (hlt : ∀ x ∈ p, x.block < W.heap.size) :
    ∃ (ask : Bool) (a : Option Addr) (l : List En) (c : Nat), v = .agg #[.bool ask, .slice a l.length c] ∧ Recs W.heap a 5 En.cells l ∧ l.length ≤ c ∧ c ≤ maxLen ∧ (∀ x ∈ l, EnW x) ∧
      (c = 0 ∨ ∃ u0 el sp, d = .agg [u0, .slice el sp] ∧ el.length + sp.length = c) := by
  obtain ⟨cs, rfl, hsz⟩ := okWide_struct ht hv
  obtain ⟨fuel, hf⟩ := h
  obtain ⟨y0, y1, n', hx, hl, h0, h1⟩ := trod_struct2 ht hf
  rw [ct] at hl
  simp only [Value.cells] at hl h0 h1
  obtain ⟨cl⟩ := cs
  match cl, hl with
  | [v0, v1], _ =>
    simp [o0, o1, c0, c1] at h0 h1
    obtain ⟨b, q0, _⟩ := DataW.trod_bool k0 h0
    obtain ⟨a, l, c, hcs, hI, hlc, hcm, hlw, hnil, hsy⟩ := open_recs1 (by decide) En.cells_len k1 ce open1 h1
    simp at q0 hcs
    subst q0
    subst hcs
    simp only [Prod.mk.injEq] at hx
    obtain ⟨rfl, rfl⟩ := hx
    refine ⟨b, a, l, c, rfl, hI (fun y hy => hlt y (by simp [hy])), hlc, hcm, hlw, ?_⟩
    rcases hsy with h | ⟨el, sp, h3, h4⟩
    · exact .inl h
    · exact .inr ⟨y0.1, el, sp, by rw [h3], h4⟩
/-- How many bytes a slice within a record that came in may take. -/
theorem part_small {ts : List TypeId} {ds : List (DataW H)} {j k : Nat} {t q r : TypeId} {fs : Array Field} {e' s' parts : List (DataW H)} (hsz : (DataW.weightsEach P ts ds).all (· ≤ reachBytes) = true) (ht : ts[j]? = some t) (hd : ds[j]? = some (.agg parts))
    (he : P.underlying t = some (.struct fs)) (hp : parts[k]? = some (.slice e' s')) (hf : (fs.toList.map (·.type))[k]? = some q) (hq : P.underlying q = some (.slice r)) : (e'.length + s'.length) * P.bytesOf r ≤ reachBytes := by
  refine of_decide_eq_true (List.all_eq_true.1 hsz _ (DataW.weights_mem_each ht hd _ ?_))
  simp only [DataW.weights, he]
  exact DataW.weights_mem_each hf hp _ (by simp [DataW.weights, hq])
end
end Go
end

section
namespace Go
open Go.ChangeShapes Go.WideShapes Go.ChangeAt Go.RowKit Go.Deep Go.Proofs.Ytfglidaicjjpfaa
section
variable {H : Type} {enc : TypeId × Value → H} {P : Program} {W : World}
/-- A message: does it ask; its entries, where they lie. -/
structure MsgR where
  ask : Bool
  es : List En
  A : Option Addr
  C : Nat
deriving Inhabited
abbrev MsgR.cells (x : MsgR) : List Value := [.bool x.ask, .slice x.A x.es.length x.C]
theorem MsgR.cells_len (x : MsgR) : (MsgR.cells x).length = 2 := rfl
def MsgR.wf (x : MsgR) : Prop := x.es.length ≤ x.C ∧ x.C ≤ maxLen ∧ (∀ e ∈ x.es, EnW e)
/-- What lies behind a message that is handed in. -/
def msgOpen (W : World) (q : MsgR) (d : DataW H) (pl : List MemPlace) : Prop := MsgR.wf q ∧ ((∀ y ∈ pl, y.block < W.heap.size) → Recs W.heap q.A 5 En.cells q.es) ∧ (q.C = 0 ∨ ∃ u0 el sp, d = .agg [u0, .slice el sp] ∧ el.length + sp.length = q.C)
theorem open_msg1 {t te : TypeId} {f0 f1 : Field} (ht : P.underlying t = some (.struct #[f0, f1])) (ct : P.cellsOf t = 2) (o0 : f0.offset = 0) (o1 : f1.offset = 1)
    (k0 : P.underlying f0.type = some .bool) (c0 : P.cellsOf f0.type = 1) (k1 : P.underlying f1.type = some (.slice te)) (c1 : P.cellsOf f1.type = 1) (ce : P.cellsOf te = 5)
    (open1 : ∀ fuel cs x, DataW.trod enc P W 0 (fun _ => true) true fuel te cs = some x → ∃ q : En, cs = En.cells q ∧ EnW q) :
    ∀ fuel cs x, DataW.trod enc P W 0 (fun _ => true) true fuel t cs = some x → ∃ q : MsgR, cs = MsgR.cells q ∧ msgOpen W q x.1 x.2 := by
  intro fuel cs x h
  obtain ⟨y0, y1, n', hx, hl, h0, h1⟩ := trod_struct2 ht h
  rw [ct] at hl
  match cs, hl with
  | [v0, v1], _ =>
    simp [o0, o1, c0, c1] at h0 h1
    obtain ⟨b, q0, _⟩ := DataW.trod_bool k0 h0
    obtain ⟨a, l, c, hcs, hI, hlc, hcm, hlw, hnil, hsy⟩ := open_recs1 (by decide) En.cells_len k1 ce open1 h1
    simp at q0 hcs
    subst q0
    subst hcs
    refine ⟨⟨b, l, a, c⟩, rfl, ⟨hlc, hcm, hlw⟩, fun hlt => hI (fun y hy => hlt y (by rw [hx]; simp [hy])), ?_⟩
    rcases hsy with h | ⟨el, sp, h3, h4⟩
    · exact .inl h
    · exact .inr ⟨y0.1, el, sp, by rw [hx, h3], h4⟩
end
/-- Messages that are handed in. -/
structure Msgs (H : Array Obj) (a : Option Addr) (l : List MsgR) : Prop where
  top : Recs H a 2 MsgR.cells l
  row : ∀ x ∈ l, Recs H x.A 5 En.cells x.es ∧ (∀ e ∈ x.es, En.wf e) ∧ x.es.length ≤ 9223372036854775806
theorem Msgs.fr0 {w w' : World} {a : Option Addr} {l : List MsgR} (h : Msgs w.heap a l) (f : Fr (fun _ => False) w w') : Msgs w'.heap a l :=
  ⟨h.top.fr f (fun _ _ _ h => h), fun x hx => ⟨(h.row x hx).1.fr f (fun _ _ _ h => h), (h.row x hx).2⟩⟩
theorem enW_wf {e : En} (h : EnW e) : En.wf e := ⟨⟨h.1.1, h.1.2.1⟩, h.2.2.1⟩
end Go
end

section
namespace Go.Proofs.Ytfglidaicjjpfaa
open Go.RowKit


/-- Where it stands first; -1: nowhere. -/
def IdxI (w : World) (l : List Int) (x : Int) (e : Ending) (w' : World) : Prop := ∃ i : Int, e = .returned (.int .i64 i) ∧ w' = w ∧ decide (i ≥ 0) = decide (x ∈ l) ∧ ((x ∈ l ∧ ∃ k : Nat, i = k ∧ k < l.length ∧ nth l k = x ∧ x ∉ l.take k) ∨ (x ∉ l ∧ i = -1))
set_option maxRecDepth 100000 in
set_option maxHeartbeats 1000000 in
theorem index_int {n : Nat} (l : List Int) (a : Option Addr) (c : Nat) (x : Int) (w : World) (hr : Ints w.heap a l) (hn : n = l.length) (hl : n ≤ 9223372036854775807) :
    Calls Try.prog 74 #[.slice a n c, .int .i64 x] w (IdxI w l x) := by
  subst hn
  go_enter Try.func74, Try.ntmps74
  go_wp2
  go_loopw [8] (fun s8 wr => ∃ k : Nat, k ≤ l.length ∧ s8 = .int .i64 k ∧ wr = w ∧ Hid (x ∉ l.take k)) (fun s _ => l.length - (intOf s).toNat)
  case atStart => exact ⟨0, by omega, rfl, rfl, Lib.hid (by simp)⟩
  case round =>
    obtain ⟨k, hk, rfl, rfl, hno⟩ := hrel
    by_cases hkl : k < l.length
    · obtain ⟨b, off, rfl, hb, hc⟩ := Ints.pos hr (by omega)
      have d := hc wr rfl k hkl
      have htk := take_succ_nth l k hkl
      have hdr := drop_nth l k hkl
      obtain ⟨y, hy⟩ : ∃ y, y = nth l k := ⟨_, rfl⟩
      rw [← hy] at d htk hdr
      clear hc
      by_cases hxy : x = y
      · have hX : Hid (x ∈ l ∧ nth l k = x) := Lib.hid ⟨by rw [← List.take_append_drop k l, hdr, hxy]; simp, by rw [hxy]; exact hy.symm⟩
        have e1 : (x == y) = true := by simpa using hxy
        clear hxy htk hdr hy
        go_wp2
        go_ret
        exact ⟨k, rfl, rfl, by simp [hX.out.1], .inl ⟨hX.out.1, k, rfl, hkl, hX.out.2, hno.out⟩⟩
      · have e1 : (x == y) = false := by simpa using hxy
        have hno' : Hid (x ∉ l.take (k + 1)) := Lib.hid (by
          rw [htk, List.mem_append]
          rintro (h | h)
          · exact hno.out h
          · exact hxy (by simpa using h))
        clear hxy htk hdr hy
        go_wp2
        go_roundw
        case rel => exact ⟨k + 1, by omega, by go_num, by first | trivial | rfl, hno'⟩
        case measure => simp [intOf]; omega
    · obtain rfl : k = l.length := by omega
      have hX : Hid (x ∉ l) := Lib.hid (by
        have := hno.out
        rwa [List.take_length] at this)
      go_wp2
      go_ret
      exact ⟨-1, rfl, rfl, by simp [hX.out], .inr ⟨hX.out, rfl⟩⟩


set_option maxRecDepth 100000 in
set_option maxHeartbeats 1000000 in
theorem contains_int {n : Nat} (l : List Int) (a : Option Addr) (c : Nat) (x : Int) (w : World) (hr : Ints w.heap a l) (hn : n = l.length) (hl : n ≤ 9223372036854775807) :
    Calls Try.prog 65 #[.slice a n c, .int .i64 x] w (fun e w' => e = .returned (.bool (decide (x ∈ l))) ∧ w' = w) := by
  subst hn
  obtain ⟨B, hB⟩ : ∃ B, B = decide (x ∈ l) := ⟨_, rfl⟩
  rw [← hB]
  have HB := Lib.hid hB
  clear hB
  go_enter Try.func65, Try.ntmps65
  go_wp2_with (fail)
  refine (index_int l a c x w hr rfl hl).mono ?_
  rintro e1 w1 ⟨i, rfl, rfl, hi, -⟩
  have HI := Lib.hid (HB.out.trans hi.symm)
  clear hi
  go_wp2
  go_ret
  exact ⟨by rw [HI.out]; rfl, rfl⟩


set_option maxRecDepth 100000 in
set_option maxHeartbeats 1000000 in
theorem in2_any {n : Nat} (l : List Int) (a : Option Addr) (c : Nat) (x : Int) (w : World) (hr : Ints w.heap a l) (hn : n = l.length) (hl : n ≤ 9223372036854775807) :
    Calls Try.prog 24 #[.slice a n c, .int .i64 x] w (fun e w' => e = .returned (.bool (decide (x ∈ l))) ∧ w' = w) := by
  subst hn
  go_enter Try.func24, Try.ntmps24
  go_wp2
  go_loopw [5] (fun s5 wr => ∃ k : Nat, k ≤ l.length ∧ s5 = .int .i64 k ∧ wr = w ∧ Hid (x ∉ l.take k)) (fun s _ => l.length - (intOf s).toNat)
  case atStart => exact ⟨0, by omega, rfl, rfl, Lib.hid (by simp)⟩
  case round =>
    obtain ⟨k, hk, rfl, rfl, hno⟩ := hrel
    by_cases hkl : k < l.length
    · obtain ⟨b, off, rfl, hb, hc⟩ := Ints.pos hr (by omega)
      have d := hc wr rfl k hkl
      have htk := take_succ_nth l k hkl
      have hdr := drop_nth l k hkl
      generalize nth l k = y at *
      clear hc
      by_cases hxy : y = x
      · have hX : Hid (decide (x ∈ l) = true) := Lib.hid (by
          have hm : x ∈ l := by rw [← List.take_append_drop k l, hdr, hxy]; simp
          simpa using hm)
        have e1 : (y == x) = true := by simpa using hxy
        clear hxy htk hdr
        go_wp2
        go_ret
        exact ⟨by rw [hX.out]; rfl, rfl⟩
      · have e1 : (y == x) = false := by simpa using hxy
        have hno' : Hid (x ∉ l.take (k + 1)) := Lib.hid (by
          rw [htk, List.mem_append]
          rintro (h | h)
          · exact hno.out h
          · exact hxy (Eq.symm (by simpa using h)))
        clear hxy htk hdr
        go_wp2
        go_roundw
        case rel => exact ⟨k + 1, by omega, by go_num, by first | trivial | rfl, hno'⟩
        case measure => simp [intOf]; omega
    · obtain rfl : k = l.length := by omega
      have hX : Hid (decide (x ∈ l) = false) := Lib.hid (by
        have := hno.out
        rw [List.take_length] at this
        simpa using this)
      go_wp2
      go_ret
      rw [hX.out]
      exact ⟨rfl, rfl⟩

end Go.Proofs.Ytfglidaicjjpfaa
end

section
namespace Go.Proofs.Ytfglidaicjjpfaa
open Go.RowKit

theorem Alls.tells {base : Nat} {H : Array Obj} {R : List BestR} {aR : Option Addr} {cR : Nat} {ob : Option Nat} (h : Alls base H R aR cR ob) (h4 : ∀ x ∈ R, x.h.length ≤ 4) : BestsR H aR R :=
  ⟨h.own.rd, fun x hx => by obtain ⟨o, h1, -⟩ := h.row x hx; exact h1.rd, fun x hx => by have := h4 x hx; omega⟩
theorem TabR.h4 {w : World} {base : Nat} {D : DC} {now : Int} {l : List Td} {bad : Int} (hD : Dmn w base D now l bad) {R : List BestR} (h : TabR D l R) : ∀ x ∈ R, x.h.length ≤ 4 := fun x hx => by
  have h1 := h.val x hx
  have h2 : x.h = _ := congrArg Prod.snd h1
  rw [h2]
  exact (bestD_bd hD _).2.2.1
theorem Alls.dm {base : Nat} {w w' : World} {R : List BestR} {aR : Option Addr} {cR : Nat} {ob : Option Nat} {D : DC} (h : Alls base w.heap R aR cR ob) (f : Fr (fun k => k = D.bd ∨ k = D.br) w w') (h1 : D.bd < base) (h2 : D.br < base) : Alls base w'.heap R aR cR ob :=
  h.frN f (fun g hg e => by have := h.new g hg; omega) (fun x hx b off e hb => by
    obtain ⟨o, q1, q2⟩ := h.row x hx
    rcases q1.is with ⟨q, _⟩ | ⟨g', _, e', e2, _⟩
    · rw [q] at e; cases e
    · rw [e'] at e; cases e; have := (q2 _ e2).1; omega)
theorem mem_at {α : Type} [Inhabited α] {x : α} : ∀ {l : List α}, x ∈ l → ∃ i, i < l.length ∧ nth l i = x := by
  intro l
  induction l with
  | nil => intro h; cases h
  | cons y l ih =>
    intro h
    rcases List.mem_cons.1 h with rfl | h
    · exact ⟨0, by simp, rfl⟩
    · obtain ⟨i, h1, h2⟩ := ih h
      exact ⟨i + 1, by simpa using h1, h2⟩
set_option maxRecDepth 100000 in
set_option maxHeartbeats 64000000 in
theorem daemonDown_any (costs : List Int) (ac : Option Addr) (cc : Nat) (ms : List MsgR) (am : Option Addr) (cm : Nat) (f : Int) (w : World)
    (hC : Ints w.heap ac costs) (hcl : costs.length * 8 ≤ 140737488351232) (hcn : ac = none → costs = [])
    (hM : Msgs w.heap am ms) (hml : ms.length ≤ 9223372036854774000) :
    Calls Try.prog 6 #[.slice ac costs.length cc, .slice am ms.length cm, .int .i64 f] w (RetV w (.bool true)) := by
  have HM := Lib.hid hM
  go_enter Try.func6, Try.ntmps6
  go_wp2_with (fail)
  refine (routed_any w).mono ?_
  rintro e1 w1 ⟨rfl, hF1⟩
  have hcall := dnew_any costs ac cc [] none 0 w1 (hC.fr0 hF1 (fun _ _ h => h)) hcl hcn ⟨by simp, by simp⟩ (fun _ h => nomatch h) (by decide) (fun _ => rfl) (Nat.le_refl _) rfl rfl
  clear hM hC hcn
  go_wp2_with (fail)
  refine hcall.mono ?_
  intro e2 w2 R2
  cases hE : dnewE costs [] with
  | some q =>
    obtain ⟨rfl, hF2⟩ := R2.errE hE
    have hF02 := hF1.trans hF2
    clear R2 hE hcall
    go_wp2
    go_ret
    exact RetV.mk rfl rfl hF02
  | none =>
    obtain ⟨D, rfl, hDc, hDo, hlo, -, hD, hF2⟩ := R2.okE hE
    have hF02 := hF1.trans hF2
    have hD2 := hD w2.heap.size (Nat.le_refl _)
    have HDC := Lib.hid hDc
    have HDO := Lib.hid hDo
    have hws := hF1.size
    have hbd := hD2.lbd.1
    have hbr := hD2.lbr.1
    have hcl8 := hD2.c8
    have hc8 : costs.length ≤ 8 := by rw [← hDc]; exact hcl8
    clear R2 hE hcall hD hDc hDo hF1 hF2
    go_upto_block 0 with (fail)
    go_cut [10] (fun s10 wx => ∃ (l : List Td) (bad : Int), Dmn wx w2.heap.size D 0 l bad ∧ Fr (fun _ => False) w wx ∧ w2.heap.size ≤ wx.heap.size)
    case first =>
      go_wp2
      go_loopw [10] (fun s10 wr => ∃ (i : Nat) (l : List Td) (bad : Int), i ≤ 8 ∧ s10 = .int .i64 i ∧ Dmn wr w2.heap.size D 0 l bad ∧ 0 ≤ bad ∧ bad ≤ i ∧ Fr (fun _ => False) w wr ∧ w2.heap.size ≤ wr.heap.size) (fun s _ => 8 - (intOf s).toNat)
      case atStart => exact ⟨0, [], 0, by omega, rfl, hD2, by omega, by omega, hF02, Nat.le_refl _⟩
      case round =>
        clear hD2 hF02
        obtain ⟨i, l, bad, hi, rfl, hDr, hb0, hbi, hF, hsz⟩ := hrel
        by_cases hgo : i < ms.length ∧ i < costs.length
        · obtain ⟨hg1, hg2⟩ := hgo
          obtain ⟨g, o, rfl, hgl, hgc⟩ := Recs.pos HM.out.top MsgR.cells_len (by omega) (by omega)
          have d0 := (hF.cell (p := ⟨g, o + (i * 2 + 0), none⟩) hgl (fun h => h)).trans (hgc w rfl i 0 hg1 (by omega))
          have d1 := (hF.cell (p := ⟨g, o + (i * 2 + 1), none⟩) hgl (fun h => h)).trans (hgc w rfl i 1 hg1 (by omega))
          obtain ⟨x1, x2, x3⟩ := HM.out.row _ (nth_mem ms i hg1)
          generalize nth ms i = x at *
          obtain ⟨ask, es, A, C⟩ := x
          simp only at x1 x2 x3
          simp only [MsgR.cells, List.getElem?_cons_zero, List.getElem?_cons_succ, ← Nat.add_assoc, Nat.add_zero] at d0 d1
          have hcall := encode_any ask es A C wr (x1.fr hF (fun _ _ _ h => h)) x2 x3 rfl
          clear hgc x1
          go_wp2_with (fail)
          refine hcall.mono ?_
          intro e3 w3 R3
          cases hme : msgErr es with
          | some q =>
            obtain ⟨rfl, hF3⟩ := R3.errE hme
            have hD3 := hDr.fr0 hF3
            have hF03 := hF.trans hF3
            have hs3 := hF3.size
            clear R3 hcall hme hDr hF hF3 d0 d1
            go_wp2
            go_roundw
            case rel => exact ⟨i + 1, l, bad, by omega, by go_num, hD3, hb0, by omega, hF03, by omega⟩
            case measure => simp [intOf]; omega
          | none =>
            obtain ⟨a3, c3, ob3, rfl, hO3, hF3, hN3⟩ := R3.okE hme
            have hD3 := hDr.fr0 hF3
            have hF03 := hF.trans hF3
            have hs3 := hF3.size
            have hel := encD_len ask es
            have hes25 := (msgErr_ok hme).1
            obtain ⟨b, hbq⟩ : ∃ b, b = encD ask es := ⟨_, rfl⟩
            have hbb : ∀ x ∈ b, 0 ≤ x ∧ x < 256 := by rw [hbq]; exact encD_bd ask es
            rw [← hbq] at hO3 hel ⊢
            have hcap3 := hO3.cap
            have hb504 : b.length ≤ 504 := by omega
            clear hel
            have hcall2 := dhear_any b a3 c3 i 0 w3 hD3 (by omega) (by omega) hO3.rd hbb (by omega) (by omega) rfl
            clear R3 hcall hme hDr hF hF3 d0 d1 hbq hbb
            go_wp2_with (fail)
            refine hcall2.mono ?_
            rintro e4 w4 ⟨rfl, hD4, hF4⟩
            obtain ⟨z1, z2, z3⟩ := @hearM_0 D l bad b i
            rw [z1] at hD4
            have hF04 := Fr.dm hF03 hF4 (by omega) (by omega)
            have hs4 := hF4.size
            generalize (hearM D 0 l bad b i 0).l = l4 at *
            generalize (hearM D 0 l bad b i 0).bad = bad4 at *
            generalize (hearM D 0 l bad b i 0).err = er4 at *
            clear hcall2 z1 hD3 hO3 hF4 hF03
            go_wp2
            go_roundw
            case rel => exact ⟨i + 1, l4, bad4, by omega, by go_num, hD4, by omega, by omega, hF04, by omega⟩
            case measure => simp [intOf]; omega
        · have hq : ¬ i < ms.length ∨ (i < ms.length ∧ ¬ i < costs.length) := by omega
          clear hgo
          rcases hq with g1 | ⟨g1, g2⟩
          all_goals
            go_wp2
            go_meet
            exact ⟨l, bad, hDr, hF, hsz⟩
    case rest =>
      clear hD2 hF02
      obtain ⟨l, bad, hDr, hF, hsz⟩ := hcut
      have hcall := dtab_any wc hDr
      go_wp2_with (fail)
      refine hcall.mono ?_
      rintro e3 w3 ⟨R, aR, cR, ob, rfl, hA, hR, hF3⟩
      have hD3 := hDr.fr0 hF3
      have hs3 := hF3.size
      have hF03 := hF.trans hF3
      have HA := Lib.hid hA
      have HR := Lib.hid hR
      have HDr := Lib.hid hDr
      have hlt := hDr.lt
      have hRl := hR.len
      have hcall2 := ddown_any f 0 w3 hD3 (by omega)
      obtain ⟨nR, hnR⟩ : ∃ n, n = R.length := ⟨_, rfl⟩
      rw [← hnR] at hRl ⊢
      have HN := Lib.hid hnR
      have hnl : costs.length = D.costs.length := by rw [HDC.out]
      clear hcall hA hR hF3 hnR hDr hD3 hF
      by_cases hte : timeErr D 0 f 0
      · rw [show downM D 0 l bad f 0 = ⟨some 1, 0, l, bad⟩ from if_pos hte] at hcall2
        have hq : decide (f < 0) = true ∨ (decide (f < 0) = false ∧ decide ((costs.length : Int) ≤ f) = true) := by
          unfold timeErr at hte
          by_cases h : f < 0
          · exact .inl (decide_eq_true h)
          · exact .inr ⟨decide_eq_false h, decide_eq_true (by omega)⟩
        clear hnl hte
        go_wp2_with (fail)
        refine hcall2.mono ?_
        rintro e4 w4 ⟨rfl, -, hF4⟩
        have hF04 := Fr.dm hF03 hF4 (by omega) (by omega)
        rw [show errO (some 1) = errv 1 from rfl]
        clear hcall2 hF4
        rcases hq with q1 | ⟨q1, q2⟩
        all_goals
          go_wp2
          go_ret
          exact RetV.mk rfl rfl hF04
      · rw [show downM D 0 l bad f 0 = ⟨none, 0, rLost f 0 l, bad⟩ from if_neg hte] at hcall2
        clear hnl hte
        go_wp2_with (fail)
        refine hcall2.mono ?_
        rintro e4 w4 ⟨rfl, hD4, hF4⟩
        have hF04 := Fr.dm hF03 hF4 (by omega) (by omega)
        rw [show errO none = .nilIface from rfl]
        have hcall3 := dtab_any w4 hD4
        have HA4 := Lib.hid (HA.out.dm hF4 (by omega) (by omega))
        have HD4 := Lib.hid hD4
        clear hcall2 hF4 hF03 hD4
        go_wp2_with (fail)
        refine hcall3.mono ?_
        rintro e5 w5 ⟨R', aR', cR', ob', rfl, hA', hR', hF5⟩
        obtain ⟨L1, L2, L3⟩ := down_law HDr.out HDO.out HR.out hR'
        have hFe := hF04.trans hF5
        have HB' := Lib.hid (hA'.tells (TabR.h4 HD4.out hR'))
        have HB := Lib.hid ((HA4.out.fr0 hF5).tells (TabR.h4 HDr.out HR.out))
        obtain ⟨n', hn'⟩ : ∃ n, n = R'.length := ⟨_, rfl⟩
        have hRl' := hR'.len
        have g9 : decide (n' ≤ nR) = true := decide_eq_true (by have := HN.out; omega)
        rw [← hn'] at hRl' ⊢
        have HN' := Lib.hid hn'
        have HL1 := Lib.hid L1
        have HL2 := Lib.hid L2
        clear hcall3 hA' hR' hF5 L1 L2 L3 hn' hF04 HA4 HA HR HDr HD4
        go_wp2
        go_loopw [15] (fun s15 wr => ∃ i : Nat, i ≤ n' ∧ s15 = .int .i64 i ∧ wr = w5) (fun s _ => n' - (intOf s).toNat)
        case atStart => exact ⟨0, by omega, rfl, rfl⟩
        case round =>
          obtain ⟨i, hi, rfl, hw⟩ := hrel
          have hw := hw.symm
          subst hw
          by_cases hin : i < n'
          · have hiR : i < R'.length := by rw [← HN'.out]; exact hin
            obtain ⟨g, o, rfl, hgl, hgc⟩ := Recs.pos HB'.out.top BestR.cells_len (by omega) (by omega)
            have d2 := hgc w5 rfl i 2 hiR (by omega)
            have d3 := hgc w5 rfl i 3 hiR (by omega)
            have y1 := HB'.out.row _ (nth_mem R' i hiR)
            have y2 := HB'.out.len _ (nth_mem R' i hiR)
            have y3 := HL1.out _ (nth_mem R' i hiR)
            generalize nth R' i = x at *
            obtain ⟨xa, xn, xm, xh, xA, xC⟩ := x
            simp only at y1 y2 y3
            simp only [BestR.cells, List.getElem?_cons_zero, List.getElem?_cons_succ, ← Nat.add_assoc, Nat.add_zero] at d2 d3
            have hin2 := in2_any xh xA xC f w5 y1 rfl y2
            rw [decide_eq_false y3] at hin2
            clear hgc y1 y3 hiR
            go_wp2_with (fail)
            refine hin2.mono ?_
            rintro e6 w6 ⟨rfl, rfl⟩
            clear hin2
            go_wp2
            go_roundw
            case rel => exact ⟨i + 1, by omega, by go_num, by first | trivial | rfl⟩
            case measure => simp [intOf]; omega
          · go_wp2
            clear hin hi
            go_loopw [16] (fun s16 wA => ∃ j : Nat, j ≤ nR ∧ s16 = .int .i64 j ∧ Fr (fun _ => False) w5 wA) (fun s _ => nR - (intOf s).toNat)
            case atStart => exact ⟨0, by omega, rfl, Fr.refl _ _⟩
            case round =>
              obtain ⟨j, hj, rfl, hFq⟩ := hrel
              by_cases hjn : j < nR
              · have hjR : j < R.length := by rw [← HN.out]; exact hjn
                obtain ⟨g, o, rfl, hgl, hgc⟩ := Recs.pos HB.out.top BestR.cells_len (by omega) (by omega)
                have d0 := hgc w5 rfl j 0 hjR (by omega)
                have d1 := hgc w5 rfl j 1 hjR (by omega)
                have d2 := hgc w5 rfl j 2 hjR (by omega)
                have d3 := hgc w5 rfl j 3 hjR (by omega)
                have y1 := HB.out.row _ (nth_mem R j hjR)
                have y2 := HB.out.len _ (nth_mem R j hjR)
                have y3 := HL2.out _ (nth_mem R j hjR)
                obtain ⟨x, hx⟩ : ∃ x, x = nth R j := ⟨_, rfl⟩
                rw [← hx] at d0 d1 d2 d3 y1 y2 y3
                simp only [BestR.cells, List.getElem?_cons_zero, List.getElem?_cons_succ, ← Nat.add_assoc, Nat.add_zero] at d0 d1 d2 d3
                have e3 := (hFq.cell (p := ⟨g, o + j * 4 + 3, none⟩) hgl (fun h => h)).trans d3
                have hin2 := in2_any x.h x.A x.C f wr (y1.fr0 hFq (fun _ _ h => h)) rfl y2
                have HY1 := Lib.hid y1
                have HX := Lib.hid hx
                clear hgc y1 hx
                by_cases hfx : f ∈ x.h
                · rw [decide_eq_true hfx] at hin2
                  clear y3 hfx
                  go_wp2_with (fail)
                  refine hin2.mono ?_
                  rintro e6 w6 ⟨rfl, rfl⟩
                  clear hin2
                  go_wp2
                  go_roundw
                  case rel => exact ⟨j + 1, by omega, by go_num, hFq⟩
                  case measure => simp [intOf]; omega
                · rw [decide_eq_false hfx] at hin2
                  have HY3 := Lib.hid (y3 hfx)
                  clear y3 hfx
                  go_wp2_with (fail)
                  refine hin2.mono ?_
                  rintro e6 w6 ⟨rfl, rfl⟩
                  clear hin2
                  go_wp2
                  go_loopw [18, 17] (fun s18 s17 wA => ∃ (k : Nat) (t : Bool), k ≤ n' ∧ s18 = .int .i64 k ∧ s17 = .bool t ∧ Fr (fun _ => False) w5 wA ∧ Hid (∀ q, q < k → bEq (nth R' q) x = true → t = true)) (fun s _ _ => n' - (intOf s).toNat)
                  case atStart => exact ⟨0, false, by omega, rfl, rfl, hFq, Lib.hid (fun q hq => absurd hq (Nat.not_lt_zero q))⟩
                  case round =>
                    clear e3 hFq
                    obtain ⟨k, t, hk, rfl, rfl, hFp, hno⟩ := hrel
                    by_cases hkn : k < n'
                    · have hkR : k < R'.length := by rw [← HN'.out]; exact hkn
                      obtain ⟨g', o', rfl, hgl', hgc'⟩ := Recs.pos HB'.out.top BestR.cells_len (by omega) (by omega)
                      have f0 := (hFp.cell (p := ⟨g', o' + (k * 4 + 0), none⟩) hgl' (fun h => h)).trans (hgc' w5 rfl k 0 hkR (by omega))
                      have f1 := (hFp.cell (p := ⟨g', o' + (k * 4 + 1), none⟩) hgl' (fun h => h)).trans (hgc' w5 rfl k 1 hkR (by omega))
                      have f2 := (hFp.cell (p := ⟨g', o' + (k * 4 + 2), none⟩) hgl' (fun h => h)).trans (hgc' w5 rfl k 2 hkR (by omega))
                      have f3 := (hFp.cell (p := ⟨g', o' + (k * 4 + 3), none⟩) hgl' (fun h => h)).trans (hgc' w5 rfl k 3 hkR (by omega))
                      have z0 := (hFp.cell (p := ⟨g, o + j * 4, none⟩) hgl (fun h => h)).trans d0
                      have z1 := (hFp.cell (p := ⟨g, o + j * 4 + 1, none⟩) hgl (fun h => h)).trans d1
                      have z2 := (hFp.cell (p := ⟨g, o + j * 4 + 2, none⟩) hgl (fun h => h)).trans d2
                      have z3 := (hFp.cell (p := ⟨g, o + j * 4 + 3, none⟩) hgl (fun h => h)).trans d3
                      have v1 := HB'.out.row _ (nth_mem R' k hkR)
                      have v2 := HB'.out.len _ (nth_mem R' k hkR)
                      obtain ⟨y, hy⟩ : ∃ y, y = nth R' k := ⟨_, rfl⟩
                      rw [← hy] at f0 f1 f2 f3 v1 v2
                      simp only [BestR.cells, List.getElem?_cons_zero, List.getElem?_cons_succ, ← Nat.add_assoc, Nat.add_zero] at f0 f1 f2 f3
                      have hsb := sbest_any y x wr.drew (v1.fr0 hFp.drew (fun _ _ h => h)) (HY1.out.fr0 hFp.drew (fun _ _ h => h)) v2 y2
                      obtain ⟨B, hB⟩ : ∃ B, B = bEq y x := ⟨_, rfl⟩
                      rw [← hB] at hsb
                      have HBB := Lib.hid hB
                      have HY := Lib.hid hy
                      clear hgc' v1 hB hy
                      go_wp2
                      (refine wp_region_mix (fun _ => True) 8 (by kernel_rfl) (by kernel_rfl) (trivial) ?_; simp only [List.take_succ_cons, List.take_zero, List.drop_succ_cons, List.drop_zero])
                      (refine wpMix_earlyN 8 (by kernel_rfl) (by kernel_rfl) ?_; simp only [List.take_succ_cons, List.take_zero, List.drop_succ_cons, List.drop_zero]; (repeat (go_big_quiet_step (fail))); refine wpQuiet_nil ?_)
                      refine wpMix_nil ?_
                      go_wp2_with (fail)
                      refine hsb.mono ?_
                      rintro e7 w7 ⟨rfl, hF7⟩
                      have hFp7 := hFp.drew.trans hF7
                      clear hsb hF7 hFp f0 f1 f2 f3 z0 z1 z2 z3
                      cases t with
                      | true =>
                        go_wp2
                        go_roundw
                        case rel => exact ⟨k + 1, true, by omega, by go_num, rfl, hFp7, Lib.hid (fun _ _ _ => rfl)⟩
                        case measure => simp [intOf]; omega
                      | false =>
                        go_wp2
                        go_roundw
                        case rel =>
                          refine ⟨k + 1, B, by omega, by go_num, rfl, hFp7, Lib.hid (fun q hq hb => ?_)⟩
                          by_cases hqk : q < k
                          · exact absurd (hno.out q hqk hb) (by decide)
                          · obtain rfl : q = k := by omega
                            rw [HBB.out, HY.out]; exact hb
                        case measure => simp [intOf]; omega
                    · obtain rfl : t = true := by
                        obtain ⟨r', hr', hb⟩ := HY3.out
                        obtain ⟨q, hq, he⟩ := mem_at hr'
                        refine hno.out q ?_ (by rw [he]; exact hb)
                        have := HN'.out
                        omega
                      clear hno
                      go_wp2
                      go_roundw
                      case rel => exact ⟨j + 1, by omega, by go_num, hFp⟩
                      case measure => simp [intOf]; omega
              · have hFq' := hFe.trans hFq
                go_wp2
                go_ret
                exact RetV.mk rfl rfl hFq'
end Go.Proofs.Ytfglidaicjjpfaa
end
