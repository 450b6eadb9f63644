import Derived.Test.YtfglidaicjjpfaaNetW
import Derived.Handy
import Derived.Test.YtfglidaicjjpfaaNets
import Derived.Test.YtfglidaicjjpfaaBestB
import Derived.Test.YtfglidaicjjpfaaErr
import Derived.Test.YtfglidaicjjpfaaDmTab
import Derived.Test.YtfglidaicjjpfaaQSil3
import Derived.Test.YtfglidaicjjpfaaEnRec
import Derived.Lib.SmallJoins
import Derived.Test.YtfglidaicjjpfaaArgBest
import Derived.Test.YtfglidaicjjpfaaQSil1
import Derived.Test.YtfglidaicjjpfaaRow
import Derived.Test.YtfglidaicjjpfaaRows
section
namespace Go.Proofs.Ytfglidaicjjpfaa
open Go.RowKit

/-! ### Cut to so many bits -/
def cutA (a : Int) (k : Nat) : Int := a - a % 2 ^ (32 - k)
theorem nat_and_hi (A j : Nat) (hA : A < 2 ^ 32) (hj : j ≤ 32) : A &&& (2 ^ 32 - 2 ^ j) = A - A % 2 ^ j := by
  have e1 : 2 ^ 32 - 2 ^ j = (2 ^ (32 - j) - 1) <<< j := by
    rw [Nat.shiftLeft_eq, Nat.sub_mul, ← Nat.pow_add, Nat.sub_add_cancel hj, Nat.one_mul]
  have e2 : A - A % 2 ^ j = (A >>> j) <<< j := by
    rw [Nat.shiftLeft_eq, Nat.shiftRight_eq_div_pow]
    have := Nat.div_add_mod A (2 ^ j)
    rw [Nat.mul_comm] at this
    omega
  rw [e1, e2]
  apply Nat.eq_of_testBit_eq
  intro b
  simp only [Nat.testBit_and, Nat.testBit_shiftLeft, Nat.testBit_two_pow_sub_one, Nat.testBit_shiftRight]
  by_cases hb : j ≤ b
  · have e3 : j + (b - j) = b := by omega
    rw [e3]
    by_cases h32 : b - j < 32 - j
    · simp [hb, h32]
    · have : A.testBit b = false := Nat.testBit_lt_two_pow (Nat.lt_of_lt_of_le hA (Nat.pow_le_pow_right (by decide) (by omega)))
      simp [this]
  · simp [hb]
theorem maskV_and (a : Int) (n : Nat) (ha : 0 ≤ a ∧ a < 4294967296) (hn : n ≤ 32) : bits .and .u32 a (maskV n) = cutA a n := by
  have h1 := maskV_eq n (by omega)
  have h2 := pow_le32 n (by omega)
  rw [u32_and a _ ha.1 ha.2 (by omega) (by omega), h1]
  obtain ⟨A, rfl⟩ := Int.eq_ofNat_of_zero_le ha.1
  have e : (4294967296 - (2 : Int) ^ (32 - n)).toNat = 2 ^ 32 - 2 ^ (32 - n) := by
    have : ((2 ^ (32 - n) : Nat) : Int) = (2 : Int) ^ (32 - n) := by simp
    omega
  have hle : A % 2 ^ (32 - n) ≤ A := Nat.mod_le _ _
  rw [e, Int.toNat_natCast, nat_and_hi A (32 - n) (by omega) (by omega), cutA]
  rw [Int.ofNat_sub hle]
  simp
theorem cutA_bd {a : Int} (ha : 0 ≤ a ∧ a < 4294967296) (k : Nat) : 0 ≤ cutA a k ∧ cutA a k < 4294967296 := by
  have h := Int.emod_nonneg a (show (2 : Int) ^ (32 - k) ≠ 0 from Int.ne_of_gt (Int.pow_pos (by decide)))
  have h2 : a % 2 ^ (32 - k) ≤ a := by
    obtain ⟨A, rfl⟩ := Int.eq_ofNat_of_zero_le ha.1
    have : ((2 ^ (32 - k) : Nat) : Int) = (2 : Int) ^ (32 - k) := by simp
    rw [← this, ← Int.natCast_emod]
    exact Int.ofNat_le.2 (Nat.mod_le _ _)
  unfold cutA
  omega
theorem cutA_mod (a : Int) (k : Nat) : cutA a k % 2 ^ (32 - k) = 0 := by
  unfold cutA
  exact Int.emod_eq_zero_of_dvd (by
    have := Int.mul_ediv_add_emod a (2 ^ (32 - k))
    exact ⟨a / 2 ^ (32 - k), by omega⟩)
/-- Cut twice. -/
theorem cutA_cut (a : Int) {i j : Nat} (hij : i ≤ j) (hj : j ≤ 32) : cutA (cutA a j) i = cutA a i := by
  have hd : (2 : Int) ^ (32 - j) ∣ 2 ^ (32 - i) := ⟨2 ^ (j - i), by rw [← Int.pow_add]; congr 1; omega⟩
  have e : (cutA a j) % 2 ^ (32 - i) = a % 2 ^ (32 - i) - a % 2 ^ (32 - j) := by
    unfold cutA
    have h0 : a % 2 ^ (32 - j) = (a % 2 ^ (32 - i)) % 2 ^ (32 - j) := (Int.emod_emod_of_dvd a hd).symm
    have p1 : (0 : Int) < 2 ^ (32 - i) := Int.pow_pos (by decide)
    have p2 : (0 : Int) < 2 ^ (32 - j) := Int.pow_pos (by decide)
    have h1 := Int.emod_nonneg a (Int.ne_of_gt p1)
    have h2 := Int.emod_lt_of_pos a p1
    have h3 : (a % 2 ^ (32 - i)) % 2 ^ (32 - j) ≤ a % 2 ^ (32 - i) := by
      have q1 := Int.mul_ediv_add_emod (a % 2 ^ (32 - i)) (2 ^ (32 - j))
      have q2 := Int.mul_nonneg (Int.le_of_lt p2) (Int.ediv_nonneg h1 (Int.le_of_lt p2))
      omega
    have h4 := Int.emod_nonneg (a % 2 ^ (32 - i)) (Int.ne_of_gt p2)
    have e1 : a - a % 2 ^ (32 - j) = (a % 2 ^ (32 - i) - a % 2 ^ (32 - j)) + 2 ^ (32 - i) * (a / 2 ^ (32 - i)) := by
      have := Int.mul_ediv_add_emod a (2 ^ (32 - i)); omega
    rw [e1, Int.add_mul_emod_self_left]
    exact Int.emod_eq_of_lt (by omega) (by omega)
  show cutA a j - (cutA a j) % 2 ^ (32 - i) = _
  rw [e]
  unfold cutA
  omega
theorem cutA_self {a : Int} {k : Nat} (h : a % 2 ^ (32 - k) = 0) : cutA a k = a := by unfold cutA; omega
theorem cutA_zero {a : Int} (ha : 0 ≤ a ∧ a < 4294967296) : cutA a 0 = 0 := by
  unfold cutA
  have : a % 2 ^ (32 - 0) = a := Int.emod_eq_of_lt ha.1 (by simpa using ha.2)
  omega
theorem netErr_nat (a : Int) (k : Nat) (hk : k ≤ 32) : netErr a k = if a % 2 ^ (32 - k) ≠ 0 then some 3 else none := by
  unfold netErr
  rw [if_neg (by omega), show (32 - (k : Int)).toNat = 32 - k by omega]
theorem netErr_ok {a n : Int} (h : netErr a n = none) : ∃ k : Nat, n = k ∧ k ≤ 32 ∧ a % 2 ^ (32 - k) = 0 := by
  have hn : 0 ≤ n ∧ n ≤ 32 := by
    unfold netErr at h
    split at h
    · cases h
    · omega
  obtain ⟨k, rfl⟩ := Int.eq_ofNat_of_zero_le hn.1
  have hk : k ≤ 32 := by omega
  refine ⟨k, rfl, hk, ?_⟩
  rw [netErr_nat a k hk] at h
  split at h
  · cases h
  · rename_i h0; exact Classical.not_not.1 h0
theorem netErr_cut (a : Int) (k : Nat) (hk : k ≤ 32) : netErr (cutA a k) k = none := by
  rw [netErr_nat _ k hk, if_neg (by simpa using cutA_mod a k)]



def upE (a n : Int) : Except Int (Int × Int) := match netErr a n with
  | some k => .error k
  | none => if n = 0 then .error 2 else .ok (cutA a (n - 1).toNat, n - 1)
def RetNet (w : World) (r : Except Int (Int × Int)) (e : Ending) (w' : World) : Prop :=
  match r with
  | .error k => RetV w (.tuple #[.agg #[.int .u32 0, .int .i64 0], errv k]) e w'
  | .ok p => RetV w (.tuple #[.agg #[.int .u32 p.1, .int .i64 p.2], .nilIface]) e w'
theorem RetNet.err {w w' : World} {r : Except Int (Int × Int)} {k : Int} {e : Ending} (h : r = .error k) (he : e = .returned (.tuple #[.agg #[.int .u32 0, .int .i64 0], errv k])) (hF : Fr (fun _ => False) w w') : RetNet w r e w' := by subst h; exact ⟨he, hF⟩
theorem RetNet.ok {w w' : World} {r : Except Int (Int × Int)} {a n : Int} {e : Ending} (h : r = .ok (a, n)) (he : e = .returned (.tuple #[.agg #[.int .u32 a, .int .i64 n], .nilIface])) (hF : Fr (fun _ => False) w w') : RetNet w r e w' := by subst h; exact ⟨he, hF⟩


/-- Has a net an address? -/
def hasB (a n x : Int) : Bool := decide (netErr a n = none ∧ cutA x n.toNat = a)


/-- Has one net all that another one has? -/
def inB (a n b m : Int) : Bool := decide (netErr a n = none ∧ m ≤ n) && hasB b m a

end Go.Proofs.Ytfglidaicjjpfaa
end

section
namespace Go.Proofs.Ytfglidaicjjpfaa
open Go.RowKit

theorem maskV_or : ∀ k, k < 32 → bits .or .u32 (maskV k) (2 ^ (31 - k) % 4294967296) = maskV (k + 1) := by decide +kernel

/-- An error's number; 0: there is none. -/
def numO : Option Int → Int
  | none => 0
  | some k => k
theorem netErr_pos {a n k : Int} (h : netErr a n = some k) : k ≠ 0 := by
  unfold netErr at h
  split at h
  · cases h; decide
  · split at h
    · cases h; decide
    · cases h


/-- Where a net is in a list: from below 0 (nowhere) on; in a list of whatever length. -/
def PlacesB (w : World) (l : List Nt) (x : Nt) (e : Ending) (w' : World) : Prop := ∃ p : Int, e = .returned (.int .i64 p) ∧ Fr (fun _ => False) w w' ∧ decide (p ≥ 0) = decide (x ∈ l) ∧ decide (p < 0) = !(decide (x ∈ l)) ∧ -1 ≤ p ∧ p ≤ l.length
set_option maxRecDepth 100000 in
set_option maxHeartbeats 2000000 in
theorem placesB_any {n : Nat} (l : List Nt) (x : Nt) (a : Option Addr) (c : Nat) (w : World) (ha : Recs w.heap a 2 Nt.cells l) (hl : l.length ≤ 9223372036854775806) (hn : n = l.length) :
    Calls Try.prog 12 #[.slice a n c, .agg #[.int .u32 x.a, .int .i64 x.n]] w (PlacesB w l x) := by
  subst hn
  go_enter Try.func12, Try.ntmps12
  go_wp2
  go_loopw [5] (fun i wr => ∃ k n : Nat, k ≤ l.length ∧ i = .int .i64 k ∧ wr = (w.alloc (.cells #[.int .u32 x.a, .int .i64 x.n] 43)).drewN n ∧ Hid (∀ j, j < k → nth l j ≠ x)) (fun i _ => l.length - (intOf i).toNat)
  case atStart => exact ⟨0, 0, by omega, rfl, rfl, Lib.hid (fun j hj => absurd hj (Nat.not_lt_zero _))⟩
  case round =>
    obtain ⟨k, n, hk, rfl, rfl, hE⟩ := hrel
    by_cases hlt : k < l.length
    · obtain ⟨g1, o1, rfl, q1, c1⟩ := Recs.pos ha Nt.cells_len (by omega) (by omega)
      have d0 := c1 w rfl k 0 hlt (by omega)
      have d1 := c1 w rfl k 1 hlt (by omega)
      obtain ⟨y, hy⟩ : ∃ y, y = nth l k := ⟨_, rfl⟩
      rw [← hy] at d0 d1
      obtain ⟨ya, yn⟩ := y
      obtain ⟨xa, xn⟩ := x
      simp only [Nt.cells, List.getElem?_cons_zero, List.getElem?_cons_succ, ← Nat.add_assoc, Nat.add_zero] at d0 d1
      have HY := Lib.hid hy
      clear c1 hy
      by_cases he : ya = xa ∧ yn = xn
      · have e1 : (ya == xa) = true := by simp [he.1]
        have e2 : (yn == xn) = true := by simp [he.2]
        have hX := Lib.hid (show (⟨xa, xn⟩ : Nt) ∈ l by rw [← he.1, ← he.2, HY.out]; exact nth_mem l k hlt)
        clear he
        go_wp2
        go_quiet (fail)
        go_wp2
        go_ret
        exact ⟨k, rfl, (((Fr.refl _ w).alloc _).drewN n).drewN nq, by simp [hX.out], by simp [hX.out], by omega, by omega⟩
      · have q : (ya == xa) = false ∨ ((ya == xa) = true ∧ (yn == xn) = false) := by
          simp only [beq_eq_false_iff_ne, beq_iff_eq, ne_eq]
          omega
        have hE' := Lib.hid (show ∀ j, j < k + 1 → nth l j ≠ (⟨xa, xn⟩ : Nt) from fun j hj => by
          rcases Nat.lt_succ_iff_lt_or_eq.1 hj with h | h
          · exact hE.out j h
          · subst h; rw [← HY.out]; intro hh; simp only [Nt.mk.injEq] at hh; exact he hh)
        clear he
        rcases q with e1 | ⟨e1, e2⟩
        all_goals
          go_wp2
          go_quiet (fail)
          go_wp2
          go_roundw
          case rel => exact ⟨k + 1, n + nq, by omega, by go_num, by simp, hE'⟩
          case measure => simp [intOf]; omega
    · obtain rfl : k = l.length := by omega
      have hX := Lib.hid (show x ∉ l from fun h => by
        obtain ⟨j, hj, hh⟩ := List.mem_iff_getElem.1 h
        exact hE.out j hj (by rw [nth_eq l j hj]; exact hh))
      go_wp2
      go_ret
      exact ⟨-1, rfl, ((Fr.refl _ w).alloc _).drewN n, by simp [hX.out], by simp [hX.out], by omega, by omega⟩
end Go.Proofs.Ytfglidaicjjpfaa
end

section
namespace Go.Proofs.Ytfglidaicjjpfaa
open Go.RowKit








end Go.Proofs.Ytfglidaicjjpfaa
end

section
namespace Go.Proofs.Ytfglidaicjjpfaa
open Go.RowKit

theorem lastOf_bd {l : List Hea} (h : ∀ x ∈ l, 1 ≤ x.m ∧ x.m ≤ 16) (f a n : Int) : 1 ≤ lastOf l f a n ∧ lastOf l f a n ≤ 16 := by
  unfold lastOf
  cases hl : lastO l f a n with
  | none => exact ⟨by decide, by decide⟩
  | some m => exact lastO_bd h hl
/-- How far by each neighbour. -/
def pOf (l : List Hea) (costs : List Int) (a n : Int) (k : Nat) : Int := plusM (nth costs k) (lastOf l k a n)
theorem bestM_eq {l : List Hea} {costs : List Int} (a n : Int) (hl : ∀ x ∈ l, 1 ≤ x.m ∧ x.m ≤ 16) (hc : ∀ c ∈ costs, 1 ≤ c ∧ c ≤ 16) : bestM l costs a n = (mK (pOf l costs a n) costs.length, hopsK (pOf l costs a n) (mK (pOf l costs a n) costs.length) costs.length) :=
  chK_eq (fun i => lastO l i a n) costs (pOf l costs a n) (fun _ _ => rfl) hc (fun _ _ h => lastO_bd hl h) costs.length (Nat.le_refl _)


end Go.Proofs.Ytfglidaicjjpfaa
end

section
namespace Go.Proofs.Ytfglidaicjjpfaa
open Go.RowKit

set_option maxRecDepth 100000 in
theorem ten3_any (w : World) : Calls Try.prog 46 #[] w (fun e w' => e = .returned (.agg #[.int .u32 167772160, .int .i64 8]) ∧ w' = w.alloc (.cells #[.int .u32 167772160, .int .i64 8] 43)) := by
  go_enter Try.func46, Try.ntmps46
  go_wp2
  exact bodyPost_ret (v := .agg #[.int .u32 167772160, .int .i64 8]) (by simp [results, Try.results46, go_sem]) rfl ⟨rfl, rfl⟩
end Go.Proofs.Ytfglidaicjjpfaa
end

section
namespace Go
theorem lensub {l m : List Nt} (hn : l.Nodup) (hs : ∀ x ∈ l, x ∈ m) : l.length ≤ m.length := by
  induction l generalizing m with
  | nil => exact Nat.zero_le _
  | cons x l ih =>
    obtain ⟨h1, h2⟩ := List.nodup_cons.1 hn
    have hx := hs x (by simp)
    have := ih (m := m.erase x) h2 (fun y hy => (List.mem_erase_of_ne (fun e : y = x => h1 (by rw [← e]; exact hy))).2 (hs y (by simp [hy])))
    have hl := List.length_erase_of_mem hx
    have hp := List.length_pos_of_mem hx
    simp only [List.length_cons]
    omega
theorem nsx {l m : List Nt} (hl : NSorted l) (hm : NSorted m) (h : ∀ x, x ∈ l ↔ x ∈ m) : l = m := by
  induction l generalizing m with
  | nil =>
    cases m with
    | nil => rfl
    | cons y m => exact absurd ((h y).2 (by simp)) (by simp)
  | cons x l ih =>
    cases m with
    | nil => exact absurd ((h x).1 (by simp)) (by simp)
    | cons y m =>
      obtain ⟨h1, h2⟩ := List.pairwise_cons.1 hl
      obtain ⟨h3, h4⟩ := List.pairwise_cons.1 hm
      have hxy : x = y := by
        rcases List.mem_cons.1 ((h x).1 (by simp)) with e | e
        · exact e
        · rcases List.mem_cons.1 ((h y).2 (by simp)) with e2 | e2
          · exact e2.symm
          · exact absurd (h1 y e2) (ntLt_asymm (h3 x e))
      subst hxy
      congr 1
      refine ih h2 h4 (fun z => ?_)
      constructor
      · intro hz
        rcases List.mem_cons.1 ((h z).1 (by simp [hz])) with e | e
        · subst e; exact absurd (h1 z hz) (ntLt_irrefl z)
        · exact e
      · intro hz
        rcases List.mem_cons.1 ((h z).2 (by simp [hz])) with e | e
        · subst e; exact absurd (h3 z hz) (ntLt_irrefl z)
        · exact e
theorem nsn {l : List Nt} (h : NSorted l) : l.Nodup := List.Pairwise.imp (fun {a b} (hab : ntLt a b) (e : a = b) => ntLt_irrefl a (by rw [← e] at hab; exact hab)) h
end Go
namespace Go.Proofs.Ytfglidaicjjpfaa
open Go.RowKit
theorem TabR.own {D : DC} {l : List Td} {R : List BestR} (h : TabR D l R) {q : Nt} (hq : q ∈ D.own) : q ∈ R.map bnet := (h.mem q).2 ⟨.inl hq, by rw [bestD_own hq]; decide⟩
theorem TabR.ge {D : DC} {l : List Td} {R : List BestR} (h : TabR D l R) (hn : D.own.Nodup) : D.own.length ≤ R.length := by
  have := lensub hn (fun x hx => h.own hx)
  simpa using this
/-- Where all that was heard is that there is no way. -/
theorem bestM_16 {l : List Hea} {costs : List Int} (a n : Int) (h : ∀ x ∈ l, x.m = 16) (hc : ∀ c ∈ costs, 1 ≤ c ∧ c ≤ 16) : bestM l costs a n = (16, []) := by
  have hl : ∀ x ∈ l, 1 ≤ x.m ∧ x.m ≤ 16 := fun x hx => by rw [h x hx]; decide
  have h1 : ∀ f, lastOf l f a n = 16 := fun f => by
    unfold lastOf
    have : ∀ m, lastO l f a n = some m → m = 16 := fun m hm => by
      have key : ∀ l : List Hea, (∀ x ∈ l, x.m = 16) → ∀ m, lastO l f a n = some m → m = 16 := by
        intro l
        refine snocI (P := fun l => (∀ x ∈ l, x.m = 16) → ∀ m, lastO l f a n = some m → m = 16) (fun _ m hm => by cases hm) (fun l x ih hx m hm => ?_) l
        rw [lastO_snoc] at hm
        split at hm
        · cases hm; exact hx x (by simp)
        · exact ih (fun y hy => hx y (by simp [hy])) m hm
      exact key l h m hm
    cases ho : lastO l f a n with
    | none => rfl
    | some m => exact this m ho
  rw [bestM_eq a n hl hc]
  have h2 : ∀ k, k < costs.length → pOf l costs a n k = 16 := fun k hk => by
    unfold pOf plusM
    rw [h1]
    have := hc _ (nth_mem costs k hk)
    rw [if_neg (by omega)]
  have h3 : ∀ k, k ≤ costs.length → mK (pOf l costs a n) k = 16 := by
    intro k
    induction k with
    | zero => intro _; rfl
    | succ k ih =>
      intro hk
      unfold mK
      rw [ih (by omega), h2 k (by omega)]
      rfl
  rw [h3 _ (Nat.le_refl _), hopsK_16 _ (by decide)]
theorem hearM_0 {D : DC} {l : List Td} {bad : Int} {b : List Int} {f : Int} : (hearM D 0 l bad b f 0).now = 0 ∧ bad ≤ (hearM D 0 l bad b f 0).bad ∧ (hearM D 0 l bad b f 0).bad ≤ bad + 1 := by
  unfold hearM
  split
  · exact ⟨rfl, by simp only; omega, by simp only; omega⟩
  · split
    · exact ⟨rfl, by simp only; omega, by simp only; omega⟩
    · exact ⟨rfl, by simp only; omega, by simp only; omega⟩
    · exact ⟨rfl, by simp only; omega, by simp only; omega⟩
/-- A router's blocks are its own: what was there ahead of it stays. -/
theorem Fr.dm {w0 w w' : World} {D : DC} (h : Fr (fun _ => False) w0 w) (f : Fr (fun k => k = D.bd ∨ k = D.br) w w') (h1 : w0.heap.size ≤ D.bd) (h2 : w0.heap.size ≤ D.br) : Fr (fun _ => False) w0 w' := h.trans' f (fun k hk e => by omega)
set_option maxRecDepth 100000 in
set_option maxHeartbeats 2000000 in
theorem routed_any (w : World) : Calls Try.prog 21 #[] w (RetV w (.bool true)) := by
  go_enter Try.func21, Try.ntmps21
  go_wp2_with (fail)
  refine (ten3_any _).mono ?_
  rintro e1 w1 ⟨rfl, hw1⟩
  have hC : Ints w1.heap (some ⟨w.heap.size, 0, none⟩) [1, 2] := by
    rw [hw1]; exact ((Own.made w 3 1 2 [.int .i64 1, .int .i64 2] rfl (by decide)).alloc _).rd
  have hF1 : Fr (fun _ => False) w w1 := by rw [hw1]; exact ((Fr.refl _ _).alloc _).alloc _
  have hN : Recs (w1.alloc (.cells #[.int .u32 167772160, .int .i64 8] 43)).heap (some ⟨w1.heap.size, 0, none⟩) 2 Nt.cells [⟨167772160, 8⟩] := (Own.made w1 43 2 1 (Nt.cells ⟨167772160, 8⟩) rfl (by decide)).rd
  have hFa := (Fr.refl (fun _ => False) w1).alloc (.cells #[.int .u32 167772160, .int .i64 8] 43)
  clear hw1
  go_wp2_with (fail)
  refine (dnew_any [1, 2] _ 2 [⟨167772160, 8⟩] _ 1 _ (hC.fr hFa (fun _ _ _ h => h)) (by decide) (fun h => nomatch h) hN (fun x hx => by rw [List.mem_singleton.1 hx]; decide) (by decide) (fun h => nomatch h) (by decide) rfl rfl).mono ?_
  intro e2 w2 R2
  obtain ⟨D, rfl, hDc, hDo, hlo, -, hD, hF2⟩ := R2.okE (by decide)
  have hF02 := (hF1.trans hFa).trans hF2
  clear R2 hC hN hF1
  go_wp2_with (fail)
  refine (dtab_any w2 (hD w2.heap.size (Nat.le_refl _))).mono ?_
  rintro e3 w3 ⟨R, aR, cR, ob, rfl, hA, hR, hF3⟩
  have hk : R.map bnet = [⟨167772160, 8⟩] := nsx hR.srt (by simp) (fun q => by
    rw [hR.mem, hDo]
    constructor
    · rintro ⟨h | ⟨x, hx, _⟩, _⟩
      · exact h
      · cases hx
    · intro h
      exact ⟨.inl h, by rw [bestD_own (by rw [hDo]; exact h)]; decide⟩)
  have hR1 : R.length = 1 := by have := congrArg List.length hk; simpa using this
  match R, hR1 with
  | [r], _ =>
    have hr : bnet r = ⟨167772160, 8⟩ := by simpa using hk
    have hv := hR.val r (by simp)
    rw [bestD_own (by rw [hDo, hr]; simp)] at hv
    obtain ⟨g, rfl, -, hgl, hgc, -⟩ := hA.own.pos (by simp)
    have d := hgc 2 (by simp)
    have hm : r.m = 1 := congrArg Prod.fst hv
    simp only [List.flatMap_cons, List.flatMap_nil, List.append_nil, BestR.cells, List.getElem?_cons_succ, List.getElem?_cons_zero] at d
    rw [hm] at d
    have hFe := hF02.trans hF3
    clear hgc hA hR hv hm hk hr hD hF3 hF02 hF2
    go_wp2
    go_ret
    exact RetV.mk rfl rfl hFe
end Go.Proofs.Ytfglidaicjjpfaa
end

section
namespace Go
open Go.ChangeShapes Go.WideShapes Go.ChangeAt Go.RowKit Go.Deep
section
variable {H : Type} {enc : TypeId × Value → H} {P : Program} {W : World}
/-- A slice of records, opened where it stands. -/
theorem open_recs1 {α : Type} [Inhabited α] {f : α → List Value} {k : Nat} {wf : α → Prop} (hk : 0 < k) (hlen : ∀ q, (f q).length = k) {t e : TypeId} {fuel : Nat} {cs : List Value} {x : DataW H × List MemPlace} (ht : P.underlying t = some (.slice e)) (ce : P.cellsOf e = k)
    (open1 : ∀ fuel cs x, DataW.trod enc P W 0 (fun _ => true) true fuel e cs = some x → ∃ q, cs = f q ∧ wf q)
    (hf : DataW.trod enc P W 0 (fun _ => true) true fuel t cs = some x) :
    ∃ (a : Option Addr) (l : List α) (c : Nat), cs = [.slice a l.length c] ∧ ((∀ y ∈ x.2, y.block < W.heap.size) → Recs W.heap a k f l) ∧ l.length ≤ c ∧ c ≤ maxLen ∧ (∀ x ∈ l, wf x) ∧ (a = none → l = []) ∧
      (c = 0 ∨ ∃ el sp, x.1 = .slice el sp ∧ el.length + sp.length = c) := by
  rcases open_slice ht hf with ⟨hcs, hx⟩ | ⟨a, len', cap', m, n, D, Pl, hcs, _, hl, hm, hmm, hx, hel⟩
  · exact ⟨none, [], 0, hcs, fun _ => Rd.nil _ _ _, by simp, by decide, (by simp), fun _ => rfl, .inl rfl⟩
  · simp only [if_true] at hmm
    subst hmm
    subst hx
    have each : ∀ i, i < m → ∃ q : α, (∀ j, j < k → W.cell? (a.add (i * k + j)) = (f q)[j]?) ∧ wf q := by
      intro i hi
      obtain ⟨cs', h1, h2⟩ := hel i hi
      rw [ce] at h1
      obtain ⟨_, hcl, hcell⟩ := World.cells?_some h1
      obtain ⟨q, rfl, hw⟩ := open1 _ _ _ h2
      refine ⟨q, fun j hj => ?_, hw⟩
      have := hcell j (by omega)
      rw [add_add] at this
      rw [this]
    obtain ⟨q, hq⟩ := choose_lt each
    have hrl : ((List.range len').map q).length = len' := by simp
    refine ⟨some a, (List.range len').map q, m, by rw [hrl]; exact hcs, fun hlt => ?_, by omega, hm, ?_, (fun h => nomatch h), .inr ⟨_, _, rfl, by simp; omega⟩⟩
    · refine ⟨by rw [flat_len _ k hlen], ?_⟩
      by_cases h0 : len' = 0
      · left; subst h0; rfl
      · right
        have hz : ∀ j, j < k → W.cell? (a.add (0 * k + j)) = (f (q 0))[j]? := fun j hj => (hq 0 (by omega)).1 j hj
        have hf0 : ∃ u, (f (q 0))[0]? = some u := ⟨_, List.getElem?_eq_getElem (by rw [hlen]; exact hk)⟩
        obtain ⟨u, hu⟩ := hf0
        obtain ⟨b, off, spot⟩ := a
        have hspot : spot = none := by
          have := hz 0 hk
          rw [hu] at this
          simpa [Addr.add] using World.cell?_spot this
        subst hspot
        refine ⟨b, off, rfl, hlt (.cell b off) (List.mem_append_left _ (MemPlace.mem_row.2 ⟨0, ?_, by simp⟩)), fun w hw i hi => ?_⟩
        · rw [ce]; exact Nat.mul_pos (by omega) hk
        rw [flat_len _ k hlen, hrl] at hi
        have e : w.cell? ⟨b, off + i, none⟩ = W.cell? ⟨b, off + i, none⟩ := by simp only [World.cell?, hw]
        have hd : i = i / k * k + i % k := by rw [Nat.mul_comm]; exact (Nat.div_add_mod i k).symm
        have hi3 : i / k < len' := Nat.div_lt_of_lt_mul (by rw [Nat.mul_comm]; exact hi)
        have hmk : i % k < k := Nat.mod_lt _ hk
        have z0 := (hq (i / k) (by omega)).1 (i % k) hmk
        simp only [add_plain] at z0
        have hn : nth ((List.range len').map q) (i / k) = q (i / k) := by simp [nth, List.getD, hi3]
        rw [e]
        conv => lhs; rw [hd]
        conv => rhs; rw [hd]
        rw [flat_get _ k hlen _ _ _ (by rw [hrl]; exact hi3) hmk, hn]
        exact z0
    · intro x hx
      obtain ⟨i, hi, rfl⟩ := List.mem_map.1 hx
      exact (hq i (by have := List.mem_range.1 hi; omega)).2

open Go.Proofs.Ytfglidaicjjpfaa
def EnW (x : En) : Prop := Nt.wf ⟨x.a, x.n⟩ ∧ (Lit.int .i64 x.t).wf = true ∧ (0 ≤ x.p ∧ x.p < 4294967296) ∧ (Lit.int .i64 x.m).wf = true
theorem open_ent {t : TypeId} {f0 f1 f2 f3 g0 g1 : Field} (ht : P.underlying t = some (.struct #[f0, f1, f2, f3])) (ct : P.cellsOf t = 5) (o0 : f0.offset = 0) (o1 : f1.offset = 2) (o2 : f2.offset = 3) (o3 : f3.offset = 4)
    (kn : P.underlying f0.type = some (.struct #[g0, g1])) (cn : P.cellsOf f0.type = 2) (p0 : g0.offset = 0) (p1 : g1.offset = 1) (j0 : P.underlying g0.type = some (.int .u32)) (j1 : P.underlying g1.type = some (.int .i64)) (b0 : P.cellsOf g0.type = 1) (b1 : P.cellsOf g1.type = 1)
    (k1 : P.underlying f1.type = some (.int .i64)) (c1 : P.cellsOf f1.type = 1) (k2 : P.underlying f2.type = some (.int .u32)) (c2 : P.cellsOf f2.type = 1) (k3 : P.underlying f3.type = some (.int .i64)) (c3 : P.cellsOf f3.type = 1) :
    ∀ fuel cs x, DataW.trod enc P W 0 (fun _ => true) true fuel t cs = some x → ∃ q : En, cs = En.cells q ∧ EnW q := by
  intro fuel cs x h
  obtain ⟨y0, y1, y2, y3, n', hx, hl, h0, h1, h2, h3⟩ := Go.Joins.trod_struct4 ht h
  rw [ct] at hl
  match cs, hl with
  | [v0, v1, v2, v3, v4], _ =>
    simp [o0, o1, o2, o3, cn, c1, c2, c3] at h0 h1 h2 h3
    obtain ⟨q, hq, hqw⟩ := open_net kn cn p0 p1 j0 j1 b0 b1 _ _ _ h0
    obtain ⟨x1, q1, _, w1⟩ := DataW.trod_int k1 h1
    obtain ⟨x2, q2, _, w2⟩ := DataW.trod_int k2 h2
    obtain ⟨x3, q3, _, w3⟩ := DataW.trod_int k3 h3
    simp at hq q1 q2 q3
    obtain ⟨rfl, rfl⟩ := hq
    subst q1
    subst q2
    subst q3
    exact ⟨⟨q.a, q.n, x1, x2, x3⟩, rfl, hqw, w1, u32_wf w2, w3⟩
/-- A message, opened. -/
theorem arg_msg {t te : TypeId} {f0 f1 : Field} {r : Reach} {base : Nat} {v : Value} {d : DataW H} {p : List MemPlace} (ht : P.underlying t = some (.struct #[f0, f1])) (ct : P.cellsOf t = 2) (o0 : f0.offset = 0) (o1 : f1.offset = 1)
    (k0 : P.underlying f0.type = some .bool) (c0 : P.cellsOf f0.type = 1) (k1 : P.underlying f1.type = some (.slice te)) (c1 : P.cellsOf f1.type = 1) (ce : P.cellsOf te = 5)
    (open1 : ∀ fuel cs x, DataW.trod enc P W 0 (fun _ => true) true fuel te cs = some x → ∃ q : En, cs = En.cells q ∧ EnW q)
    (hv : Value.okWide P W r base t v) (h : DataW.Trod enc P W 0 (fun _ => true) true t v d p) (hlt : ∀ x ∈ p, x.block < W.heap.size) :
    ∃ (ask : Bool) (a : Option Addr) (l : List En) (c : Nat), v = .agg #[.bool ask, .slice a l.length c] ∧ Recs W.heap a 5 En.cells l ∧ l.length ≤ c ∧ c ≤ maxLen ∧ (∀ x ∈ l, EnW x) ∧
      (c = 0 ∨ ∃ u0 el sp, d = .agg [u0, .slice el sp] ∧ el.length + sp.length = c) := by
  obtain ⟨cs, rfl, hsz⟩ := okWide_struct ht hv
  obtain ⟨fuel, hf⟩ := h
  obtain ⟨y0, y1, n', hx, hl, h0, h1⟩ := trod_struct2 ht hf
  rw [ct] at hl
  simp only [Value.cells] at hl h0 h1
  obtain ⟨cl⟩ := cs
  match cl, hl with
  | [v0, v1], _ =>
    simp [o0, o1, c0, c1] at h0 h1
    obtain ⟨b, q0, _⟩ := DataW.trod_bool k0 h0
    obtain ⟨a, l, c, hcs, hI, hlc, hcm, hlw, hnil, hsy⟩ := open_recs1 (by decide) En.cells_len k1 ce open1 h1
    simp at q0 hcs
    subst q0
    subst hcs
    simp only [Prod.mk.injEq] at hx
    obtain ⟨rfl, rfl⟩ := hx
    refine ⟨b, a, l, c, rfl, hI (fun y hy => hlt y (by simp [hy])), hlc, hcm, hlw, ?_⟩
    rcases hsy with h | ⟨el, sp, h3, h4⟩
    · exact .inl h
    · exact .inr ⟨y0.1, el, sp, by rw [h3], h4⟩
/-- How many bytes a slice within a record that came in may take. -/
theorem part_small {ts : List TypeId} {ds : List (DataW H)} {j k : Nat} {t q r : TypeId} {fs : Array Field} {e' s' parts : List (DataW H)} (hsz : (DataW.weightsEach P ts ds).all (· ≤ reachBytes) = true) (ht : ts[j]? = some t) (hd : ds[j]? = some (.agg parts))
    (he : P.underlying t = some (.struct fs)) (hp : parts[k]? = some (.slice e' s')) (hf : (fs.toList.map (·.type))[k]? = some q) (hq : P.underlying q = some (.slice r)) : (e'.length + s'.length) * P.bytesOf r ≤ reachBytes := by
  refine of_decide_eq_true (List.all_eq_true.1 hsz _ (DataW.weights_mem_each ht hd _ ?_))
  simp only [DataW.weights, he]
  exact DataW.weights_mem_each hf hp _ (by simp [DataW.weights, hq])
end
end Go
end

section
namespace Go
open Go.ChangeShapes Go.WideShapes Go.ChangeAt Go.RowKit Go.Deep Go.Proofs.Ytfglidaicjjpfaa
section
variable {H : Type} {enc : TypeId × Value → H} {P : Program} {W : World}
/-- A message: does it ask; its entries, where they lie. -/
structure MsgR where
  ask : Bool
  es : List En
  A : Option Addr
  C : Nat
deriving Inhabited
abbrev MsgR.cells (x : MsgR) : List Value := [.bool x.ask, .slice x.A x.es.length x.C]
theorem MsgR.cells_len (x : MsgR) : (MsgR.cells x).length = 2 := rfl
def MsgR.wf (x : MsgR) : Prop := x.es.length ≤ x.C ∧ x.C ≤ maxLen ∧ (∀ e ∈ x.es, EnW e)
/-- What lies behind a message that is handed in. -/
def msgOpen (W : World) (q : MsgR) (d : DataW H) (pl : List MemPlace) : Prop := MsgR.wf q ∧ ((∀ y ∈ pl, y.block < W.heap.size) → Recs W.heap q.A 5 En.cells q.es) ∧ (q.C = 0 ∨ ∃ u0 el sp, d = .agg [u0, .slice el sp] ∧ el.length + sp.length = q.C)
theorem open_msg1 {t te : TypeId} {f0 f1 : Field} (ht : P.underlying t = some (.struct #[f0, f1])) (ct : P.cellsOf t = 2) (o0 : f0.offset = 0) (o1 : f1.offset = 1)
    (k0 : P.underlying f0.type = some .bool) (c0 : P.cellsOf f0.type = 1) (k1 : P.underlying f1.type = some (.slice te)) (c1 : P.cellsOf f1.type = 1) (ce : P.cellsOf te = 5)
    (open1 : ∀ fuel cs x, DataW.trod enc P W 0 (fun _ => true) true fuel te cs = some x → ∃ q : En, cs = En.cells q ∧ EnW q) :
    ∀ fuel cs x, DataW.trod enc P W 0 (fun _ => true) true fuel t cs = some x → ∃ q : MsgR, cs = MsgR.cells q ∧ msgOpen W q x.1 x.2 := by
  intro fuel cs x h
  obtain ⟨y0, y1, n', hx, hl, h0, h1⟩ := trod_struct2 ht h
  rw [ct] at hl
  match cs, hl with
  | [v0, v1], _ =>
    simp [o0, o1, c0, c1] at h0 h1
    obtain ⟨b, q0, _⟩ := DataW.trod_bool k0 h0
    obtain ⟨a, l, c, hcs, hI, hlc, hcm, hlw, hnil, hsy⟩ := open_recs1 (by decide) En.cells_len k1 ce open1 h1
    simp at q0 hcs
    subst q0
    subst hcs
    refine ⟨⟨b, l, a, c⟩, rfl, ⟨hlc, hcm, hlw⟩, fun hlt => hI (fun y hy => hlt y (by rw [hx]; simp [hy])), ?_⟩
    rcases hsy with h | ⟨el, sp, h3, h4⟩
    · exact .inl h
    · exact .inr ⟨y0.1, el, sp, by rw [hx, h3], h4⟩
end
/-- Messages that are handed in. -/
structure Msgs (H : Array Obj) (a : Option Addr) (l : List MsgR) : Prop where
  top : Recs H a 2 MsgR.cells l
  row : ∀ x ∈ l, Recs H x.A 5 En.cells x.es ∧ (∀ e ∈ x.es, En.wf e) ∧ x.es.length ≤ 9223372036854775806
theorem Msgs.fr0 {w w' : World} {a : Option Addr} {l : List MsgR} (h : Msgs w.heap a l) (f : Fr (fun _ => False) w w') : Msgs w'.heap a l :=
  ⟨h.top.fr f (fun _ _ _ h => h), fun x hx => ⟨(h.row x hx).1.fr f (fun _ _ _ h => h), (h.row x hx).2⟩⟩
theorem enW_wf {e : En} (h : EnW e) : En.wf e := ⟨⟨h.1.1, h.1.2.1⟩, h.2.2.1⟩
end Go
end

section
namespace Go.Proofs.Ytfglidaicjjpfaa
open Go.RowKit

/-- Long behind the last word there is no way left but to own nets. -/
theorem silent_16 {l : List Td} {t : Int} (h : RibOk 0 l) (ht : 180 ≤ t) : ∀ x ∈ hdL (rAged t l), x.m = 16 := fun x hx => by
  obtain ⟨y, hy, rfl⟩ := List.mem_map.1 hx
  obtain ⟨z, hz, he⟩ := List.mem_filterMap.1 hy
  have hzo := h.each z hz
  have h0 := hzo.t0
  have h1 := hzo.t1
  have hzt : z.t = 0 := by omega
  show y.m = 16
  by_cases hm : z.m < 16
  · rw [age1_dies hm (by omega)] at he
    split at he
    · cases he; rfl
    · cases he
  · rw [age1_dead hm, if_neg (by omega)] at he
    cases he
theorem silent_tab {w : World} {base : Nat} {D : DC} {l : List Td} {bad t : Int} (hD : Dmn w base D t (rAged t l) bad) (h0 : RibOk 0 l) (ht : 180 ≤ t) {R : List BestR} (h : TabR D (rAged t l) R) :
    R.length = D.own.length ∧ ∀ r ∈ R, bnet r ∈ D.own ∧ r.m = 1 ∧ r.h = [] := by
  have h1 : ∀ r ∈ R, bnet r ∈ D.own := fun r hr => by
    have h2 := (h.mem (bnet r)).1 (List.mem_map.2 ⟨r, hr, rfl⟩)
    by_cases ho : bnet r ∈ D.own
    · exact ho
    · have h3 := h2.2
      rw [bestD_other ho, bestM_16 _ _ (silent_16 h0 ht) (nearE_ok hD.near).2] at h3
      exact absurd h3 (by decide)
  refine ⟨?_, fun r hr => ?_⟩
  · have a1 := h.ge hD.nodup
    have a2 := lensub (l := R.map bnet) (m := D.own) (nsn h.srt) (fun q hq => by
      obtain ⟨r, hr, rfl⟩ := List.mem_map.1 hq; exact h1 r hr)
    simp at a2
    omega
  · have h4 := h.val r hr
    rw [bestD_own (h1 r hr)] at h4
    exact ⟨h1 r hr, congrArg Prod.fst h4, congrArg Prod.snd h4⟩

set_option maxRecDepth 100000 in
set_option maxHeartbeats 64000000 in
theorem daemonSilent_any (costs : List Int) (ac : Option Addr) (cc : Nat) (own : List Nt) (ao : Option Addr) (co : Nat) (ms : List MsgR) (am : Option Addr) (cm : Nat) (t : Int) (w : World)
    (hC : Ints w.heap ac costs) (hcl : costs.length * 8 ≤ 140737488351232) (hcn : ac = none → costs = []) (hO : Recs w.heap ao 2 Nt.cells own) (how : ∀ x ∈ own, 0 ≤ x.a ∧ x.a < 4294967296) (hol : own.length * 16 ≤ 140737488351232) (hon : ao = none → own = []) (hcap : own.length ≤ co)
    (hM : Msgs w.heap am ms) (hml : ms.length ≤ 9223372036854774000) :
    Calls Try.prog 5 #[.slice ac costs.length cc, .slice ao own.length co, .slice am ms.length cm, .int .i64 t] w (RetV w (.bool true)) := by
  have HM := Lib.hid hM
  have HO := Lib.hid hO
  go_enter Try.func5, Try.ntmps5
  go_wp2_with (fail)
  refine (routed_any w).mono ?_
  rintro e1 w1 ⟨rfl, hF1⟩
  have hcall := dnew_any costs ac cc own ao co w1 (hC.fr0 hF1 (fun _ _ h => h)) hcl hcn (hO.fr hF1 (fun _ _ _ h => h)) how hol hon hcap rfl rfl
  clear hM hO hC hcn how hon
  go_wp2_with (fail)
  refine hcall.mono ?_
  intro e2 w2 R2
  cases hE : dnewE costs own with
  | some q =>
    obtain ⟨rfl, hF2⟩ := R2.errE hE
    have hF02 := hF1.trans hF2
    clear R2 hE hcall
    go_wp2
    go_ret
    exact RetV.mk rfl rfl hF02
  | none =>
    obtain ⟨D, rfl, hDc, hDo, hlo, -, hD, hF2⟩ := R2.okE hE
    have hF02 := hF1.trans hF2
    have hD2 := hD w2.heap.size (Nat.le_refl _)
    have HDC := Lib.hid hDc
    have HDO := Lib.hid hDo
    have hws := hF1.size
    have hbd := hD2.lbd.1
    have hbr := hD2.lbr.1
    have hcl8 := hD2.c8
    have hc8 : costs.length ≤ 8 := by rw [← hDc]; exact hcl8
    clear R2 hE hcall hD hDc hDo hF1 hF2
    go_upto_block 0 with (fail)
    go_cut [12] (fun s12 wx => ∃ (l : List Td) (bad : Int), Dmn wx w2.heap.size D 0 l bad ∧ Fr (fun _ => False) w wx ∧ w2.heap.size ≤ wx.heap.size)
    case first =>
      go_wp2
      go_loopw [12] (fun s12 wr => ∃ (i : Nat) (l : List Td) (bad : Int), i ≤ 8 ∧ s12 = .int .i64 i ∧ Dmn wr w2.heap.size D 0 l bad ∧ 0 ≤ bad ∧ bad ≤ i ∧ Fr (fun _ => False) w wr ∧ w2.heap.size ≤ wr.heap.size) (fun s _ => 8 - (intOf s).toNat)
      case atStart => exact ⟨0, [], 0, by omega, rfl, hD2, by omega, by omega, hF02, Nat.le_refl _⟩
      case round =>
        clear hD2 hF02
        obtain ⟨i, l, bad, hi, rfl, hDr, hb0, hbi, hF, hsz⟩ := hrel
        by_cases hgo : i < ms.length ∧ i < costs.length
        · obtain ⟨hg1, hg2⟩ := hgo
          obtain ⟨g, o, rfl, hgl, hgc⟩ := Recs.pos HM.out.top MsgR.cells_len (by omega) (by omega)
          have d0 := (hF.cell (p := ⟨g, o + (i * 2 + 0), none⟩) hgl (fun h => h)).trans (hgc w rfl i 0 hg1 (by omega))
          have d1 := (hF.cell (p := ⟨g, o + (i * 2 + 1), none⟩) hgl (fun h => h)).trans (hgc w rfl i 1 hg1 (by omega))
          obtain ⟨x1, x2, x3⟩ := HM.out.row _ (nth_mem ms i hg1)
          generalize nth ms i = x at *
          obtain ⟨ask, es, A, C⟩ := x
          simp only at x1 x2 x3
          simp only [MsgR.cells, List.getElem?_cons_zero, List.getElem?_cons_succ, ← Nat.add_assoc, Nat.add_zero] at d0 d1
          have hcall := encode_any ask es A C wr (x1.fr hF (fun _ _ _ h => h)) x2 x3 rfl
          clear hgc x1
          go_wp2_with (fail)
          refine hcall.mono ?_
          intro e3 w3 R3
          cases hme : msgErr es with
          | some q =>
            obtain ⟨rfl, hF3⟩ := R3.errE hme
            have hD3 := hDr.fr0 hF3
            have hF03 := hF.trans hF3
            have hs3 := hF3.size
            clear R3 hcall hme hDr hF hF3 d0 d1
            go_wp2
            go_roundw
            case rel => exact ⟨i + 1, l, bad, by omega, by go_num, hD3, hb0, by omega, hF03, by omega⟩
            case measure => simp [intOf]; omega
          | none =>
            obtain ⟨a3, c3, ob3, rfl, hO3, hF3, hN3⟩ := R3.okE hme
            have hD3 := hDr.fr0 hF3
            have hF03 := hF.trans hF3
            have hs3 := hF3.size
            have hel := encD_len ask es
            have hes25 := (msgErr_ok hme).1
            obtain ⟨b, hbq⟩ : ∃ b, b = encD ask es := ⟨_, rfl⟩
            have hbb : ∀ x ∈ b, 0 ≤ x ∧ x < 256 := by rw [hbq]; exact encD_bd ask es
            rw [← hbq] at hO3 hel ⊢
            have hcap3 := hO3.cap
            have hb504 : b.length ≤ 504 := by omega
            clear hel
            have hcall2 := dhear_any b a3 c3 i 0 w3 hD3 (by omega) (by omega) hO3.rd hbb (by omega) (by omega) rfl
            clear R3 hcall hme hDr hF hF3 d0 d1 hbq hbb
            go_wp2_with (fail)
            refine hcall2.mono ?_
            rintro e4 w4 ⟨rfl, hD4, hF4⟩
            obtain ⟨z1, z2, z3⟩ := @hearM_0 D l bad b i
            rw [z1] at hD4
            have hF04 := Fr.dm hF03 hF4 (by omega) (by omega)
            have hs4 := hF4.size
            generalize (hearM D 0 l bad b i 0).l = l4 at *
            generalize (hearM D 0 l bad b i 0).bad = bad4 at *
            generalize (hearM D 0 l bad b i 0).err = er4 at *
            clear hcall2 z1 hD3 hO3 hF4 hF03
            go_wp2
            go_roundw
            case rel => exact ⟨i + 1, l4, bad4, by omega, by go_num, hD4, by omega, by omega, hF04, by omega⟩
            case measure => simp [intOf]; omega
        · have hq : ¬ i < ms.length ∨ (i < ms.length ∧ ¬ i < costs.length) := by omega
          clear hgo
          rcases hq with g1 | ⟨g1, g2⟩
          all_goals
            go_wp2
            go_meet
            exact ⟨l, bad, hDr, hF, hsz⟩
    case rest =>
      clear hD2 hF02
      obtain ⟨l, bad, hDr, hF, hsz⟩ := hcut
      have hcall := dtick_any t wc hDr hsz
      by_cases ht : t < 0 ∨ 1099511627776 < t
      · rw [show tickM 0 l bad t = ⟨some 1, 0, l, bad⟩ from if_pos ht] at hcall
        have hq2 : decide (t < 0) = true ∨ (decide (t < 0) = false ∧ decide (1099511627776 < t) = true) := by
          by_cases h : t < 0
          · exact .inl (decide_eq_true h)
          · exact .inr ⟨decide_eq_false h, decide_eq_true (by omega)⟩
        go_wp2_with (fail)
        refine hcall.mono ?_
        rintro e3 w3 ⟨rfl, -, hF3⟩
        have hF03 := Fr.dm hF hF3 (by omega) (by omega)
        rw [show errO (some 1) = errv 1 from rfl]
        clear hcall hF3 ht
        rcases hq2 with q1 | ⟨q1, q2⟩
        all_goals
          go_wp2
          go_ret
          exact RetV.mk rfl rfl hF03
      · rw [show tickM 0 l bad t = ⟨none, t, rAged t l, bad⟩ from if_neg ht] at hcall
        have H0 := Lib.hid hDr.ok
        go_wp2_with (fail)
        refine hcall.mono ?_
        rintro e3 w3 ⟨rfl, hD3, hF3⟩
        have hF03 := Fr.dm hF hF3 (by omega) (by omega)
        rw [show errO none = .nilIface from rfl]
        have hcall2 := dtab_any w3 hD3
        have HD3 := Lib.hid hD3
        clear hcall hF3 ht hDr
        by_cases h180 : t < 180
        · go_wp2_with (fail)
          refine hcall2.mono ?_
          rintro e4 w4 ⟨R, aR, cR, ob, rfl, hA, hR, hF4⟩
          have hge := hR.ge HD3.out.nodup
          rw [HDO.out] at hge
          have g3 : decide (own.length ≤ R.length) = true := decide_eq_true hge
          have hFe := hF03.trans hF4
          clear hcall2 hA hR hF4 hge
          go_wp2
          go_ret
          exact RetV.mk rfl rfl hFe
        · go_wp2_with (fail)
          refine hcall2.mono ?_
          rintro e4 w4 ⟨R, aR, cR, ob, rfl, hA, hR, hF4⟩
          obtain ⟨s1, s2⟩ := silent_tab HD3.out H0.out (by omega) hR
          have hl89 := hR.len
          have hlR : R.length = own.length := by rw [s1, HDO.out]
          have hFe := hF03.trans hF4
          obtain ⟨nR, hnR⟩ : ∃ nR, nR = R.length := ⟨_, rfl⟩
          have hOR := hA.own
          rw [← hnR] at hOR hl89 ⊢
          have HS2 := Lib.hid s2
          have HNR := Lib.hid hnR
          have HLR := Lib.hid (show nR = own.length by rw [hnR, hlR])
          clear hcall2 hA hR hF4 s1 s2 hlR hnR hF03
          go_wp2
          go_loopw [16] (fun s16 wr => ∃ j : Nat, j ≤ nR ∧ s16 = .int .i64 j ∧ Own wr.heap 50 4 aR nR cR (R.flatMap BestR.cells) ob ∧ Fr (fun _ => False) w wr) (fun s _ => nR - (intOf s).toNat)
          case atStart => exact ⟨0, by omega, rfl, hOR, hFe⟩
          case round =>
            clear hOR hFe
            obtain ⟨j, hj, rfl, hOR, hFe⟩ := hrel
            by_cases hjn : j < nR
            · obtain ⟨g, rfl, -, hgl, hgc, -⟩ := hOR.pos (by omega)
              have hjR : j < R.length := by rw [← HNR.out]; exact hjn
              have dd := fun (q : Nat) (hq : q < 4) => (hgc (j * 4 + q) (by omega)).trans (flat_get BestR.cells 4 BestR.cells_len R j q hjR hq)
              have d0 := dd 0 (by omega)
              have d1 := dd 1 (by omega)
              have d2 := dd 2 (by omega)
              have d3 := dd 3 (by omega)
              obtain ⟨y1, y2, y3⟩ := HS2.out _ (nth_mem R j hjR)
              generalize nth R j = r at *
              obtain ⟨ra, rn, rm, rh, rA, rC⟩ := r
              simp only at y1 y2 y3
              subst y2
              subst y3
              simp only [BestR.cells, List.getElem?_cons_zero, List.getElem?_cons_succ, Nat.add_zero, List.length_nil] at d0 d1 d2 d3
              rw [HDO.out] at y1
              have hpl := placesB_any own ⟨ra, rn⟩ ao co wr (HO.out.fr hFe (fun _ _ _ h => h)) (by omega) rfl
              have HY := Lib.hid (show decide ((⟨ra, rn⟩ : Nt) ∈ own) = true from decide_eq_true y1)
              clear dd hgc y1
              go_wp2_with (fail)
              refine hpl.mono ?_
              rintro e5 w5 ⟨p, rfl, hF5, -, hp, hp1, hp2⟩
              rw [HY.out] at hp
              have hp3 : decide (p < 0) = false := by rw [hp]; rfl
              have e2' := (hF5.cell (p := ⟨g, j * 4 + 2, none⟩) hgl (fun h => h)).trans d2
              have e3' := (hF5.cell (p := ⟨g, j * 4 + 3, none⟩) hgl (fun h => h)).trans d3
              have hO5 := hOR.fr hF5 (fun _ _ h => h)
              have hFe5 := hFe.trans hF5
              have hgl5 := Nat.lt_of_lt_of_le hgl hF5.size
              clear hpl hp d0 d1 d2 d3 hOR hFe hF5
              go_wp2
              go_roundw
              case rel => exact ⟨j + 1, by omega, by go_num, hO5, hFe5⟩
              case measure => simp [intOf]; omega
            · have g3 : ((nR : Int) == (own.length : Int)) = true := by rw [HLR.out]; simp
              go_wp2
              go_ret
              exact RetV.mk rfl rfl hFe
end Go.Proofs.Ytfglidaicjjpfaa
end

section
namespace Go.Proofs.Ytfglidaicjjpfaa
open Go.ChangeShapes Go.WideShapes Go.ChangeAt Go.RowKit

theorem own : ownKnob Try.prog.godebug = none := by kernel_rfl
theorem laidOut : laidOutB Try.prog = true := by kernel_rfl
theorem cellsInt : Try.prog.cellsOf 3 = 1 := by kernel_rfl
theorem cellsInts : Try.prog.cellsOf 22 = 1 := by kernel_rfl

theorem bulk_len {H : Type} (l : List (DataW H)) : l.length ≤ Rows.uptoBulkAll l := by
  induction l with
  | nil => simp [Rows.uptoBulkAll]
  | cons d r ih =>
    have : 1 ≤ Rows.uptoBulk d := by
      cases d with
      | lit l => cases l <;> simp [Rows.uptoBulk]
      | _ => simp [Rows.uptoBulk]
    simp only [List.length_cons, Rows.uptoBulkAll]
    omega
/-- A slice's cells are counted. -/
theorem bulk_slice {H : Type} {d : DataW H} {c : Nat} (h : c = 0 ∨ ∃ el sp, d = .slice el sp ∧ el.length + sp.length = c) : c ≤ Rows.uptoBulk d := by
  rcases h with rfl | ⟨el, sp, rfl, rfl⟩
  · omega
  · have h1 := bulk_len el
    have h2 := bulk_len sp
    simp only [Rows.uptoBulk]
    omega
theorem small_all {H : Type} {l : List (DataW H)} (hk : Rows.uptoSmall H l = true) : Rows.uptoBulkAll l ≤ 1048576 := of_decide_eq_true hk
end Go.Proofs.Ytfglidaicjjpfaa
end

section
namespace Go
open Go.ChangeShapes Go.WideShapes Go.ChangeAt Go.RowKit
/-- How many bytes a slice that came in may take. -/
theorem slice_small {H : Type} {P : Program} {ts : List TypeId} {ds : List (DataW H)} {j n c k : Nat} {t e : TypeId} (hsz : (DataW.weightsEach P ts ds).all (· ≤ reachBytes) = true) {d : DataW H} (ht : ts[j]? = some t) (hd : ds[j]? = some d)
    (hu : P.underlying t = some (.slice e)) (hk : P.bytesOf e = k) (hn : n ≤ c) (hs : c = 0 ∨ ∃ el sp, d = .slice el sp ∧ el.length + sp.length = c) : n * k ≤ 140737488351232 := by
  subst hk
  rcases hs with h | ⟨el, sp, rfl, h⟩
  · have : n = 0 := by omega
    subst this; simp
  · have := sized_slice hsz ht hd hu
    have hr : reachBytes = 140737488351232 := rfl
    rw [h, hr] at this
    exact Nat.le_trans (Nat.mul_le_mul_right _ hn) this
/-- How many bytes a slice within a record of a slice that came in may take. -/
theorem field_small {H : Type} {P : Program} {ts : List TypeId} {ds : List (DataW H)} {j k : Nat} {t e q r : TypeId} {fs : Array Field} {el sp e' s' parts : List (DataW H)} (hsz : (DataW.weightsEach P ts ds).all (· ≤ reachBytes) = true) (ht : ts[j]? = some t) (hd : ds[j]? = some (.slice el sp))
    (hu : P.underlying t = some (.slice e)) (he : P.underlying e = some (.struct fs)) (hm : DataW.agg parts ∈ el) (hp : parts[k]? = some (.slice e' s')) (hf : (fs.toList.map (·.type))[k]? = some q) (hq : P.underlying q = some (.slice r)) : (e'.length + s'.length) * P.bytesOf r ≤ reachBytes := by
  refine of_decide_eq_true (List.all_eq_true.1 hsz _ (DataW.weights_mem_each ht hd _ ?_))
  have key : ∀ l : List (DataW H), DataW.agg parts ∈ l → (e'.length + s'.length) * P.bytesOf r ∈ DataW.weightsAll P e l := by
    intro l
    induction l with
    | nil => intro h; cases h
    | cons x l ih =>
      intro h
      simp only [DataW.weightsAll, List.mem_append]
      rcases List.mem_cons.1 h with rfl | h
      · left
        simp only [DataW.weights, he]
        exact DataW.weights_mem_each hf hp _ (by simp [DataW.weights, hq])
      · right; exact ih h
  simp only [DataW.weights, hu, List.mem_cons, List.mem_append]
  exact .inr (.inl (key el hm))
end Go
end

section
namespace Go
open Go.ChangeShapes Go.WideShapes Go.ChangeAt Go.RowKit Go.Deep Go.Proofs.Ytfglidaicjjpfaa
/-- Messages that came in. -/
theorem msgs_of {H : Type} {P : Program} {W : World} {ts : List TypeId} {ds : List (DataW H)} {j : Nat} {t e q r : TypeId} {fs : Array Field} {d : DataW H} {p : List MemPlace} {a : Option Addr} {l : List MsgR} (hsz : (DataW.weightsEach P ts ds).all (· ≤ reachBytes) = true) (ht : ts[j]? = some t) (hd : ds[j]? = some d)
    (hu : P.underlying t = some (.slice e)) (he : P.underlying e = some (.struct fs)) (hf : (fs.toList.map (·.type))[1]? = some q) (hq : P.underlying q = some (.slice r)) (hb : P.bytesOf r = 40)
    (hI : Recs W.heap a 2 MsgR.cells l) (hlt : ∀ y ∈ p, y.block < W.heap.size) (hn : ∀ x ∈ l, ∃ dd pl, msgOpen W x dd pl ∧ (∀ y ∈ pl, y ∈ p) ∧ ∃ el sp, d = .slice el sp ∧ dd ∈ el) : Msgs W.heap a l := by
  refine ⟨hI, fun x hx => ?_⟩
  obtain ⟨dd, pl, ⟨hw, hR, hs⟩, hp, el, sp, rfl, hm⟩ := hn x hx
  refine ⟨hR (fun y hy => hlt y (hp y hy)), fun e' he' => enW_wf (hw.2.2 e' he'), ?_⟩
  have h1 := hw.1
  rcases hs with h | ⟨u0, el', sp', rfl, h⟩
  · omega
  · have h2 := field_small (k := 1) hsz ht hd hu he hm rfl hf hq
    have hr : reachBytes = 140737488351232 := rfl
    rw [hb, hr] at h2
    omega
end Go
end

section
namespace Go.Proofs.Ytfglidaicjjpfaa
open Go.ChangeShapes Go.WideShapes Go.ChangeAt Go.RowKit

set_option maxRecDepth 100000 in
theorem daemonSilent_lifted (os : Os) (started : os.Started) (H : Type) (enc : TypeId × Value → H) :
    ReturnsInHanded {} Try.checked os 5 .any (Rows.daemonSilentSpec.pre6 enc Try.prog Try.f5 Rows.daemonSilentRow.domain false) (Rows.daemonSilentSpec.post enc Try.prog Try.f5 false true false false) := by
  refine law_lift (C := Try.checked) own laidOut (by kernel_rfl) Try.func5 rfl rfl Try.underlying4 (by kernel_rfl) os started H enc
    (ChangeSpec.witness6 (enc := enc) (C := Try.checked) false ⟨#[], #[.slice none 0 0, .slice none 0 0, .slice none 0 0, .int .i64 0], []⟩ 8 (by kernel_rfl) (by kernel_rfl) (by kernel_rfl) (by kernel_rfl)) ?_
  intro W base args ds p hval hA hlt hsz
  rw [Try.params5] at hA hval hsz
  obtain ⟨v0, vs0, d0, ds0, p0, q0, hargs, rfl, rfl, h0, r0⟩ := trodAll_cons hA
  obtain ⟨v1, vs1, d1, ds1, p1, q1, rfl, rfl, rfl, h1, r1⟩ := trodAll_cons r0
  obtain ⟨v2, vs2, d2, ds2, p2, q2, rfl, rfl, rfl, h2, r2⟩ := trodAll_cons r1
  obtain ⟨v3, vs3, d3, ds3, p3, q3, rfl, rfl, rfl, h3, r3⟩ := trodAll_cons r2
  obtain ⟨rfl, rfl, rfl⟩ := trodAll_nil r3
  obtain rfl : args = #[v0, v1, v2, v3] := by cases args; simp_all
  obtain ⟨a0, x0, c0, rfl, k0, j0, i0, n0, y0, s0⟩ := arg_ints Try.underlying22 Try.underlying3 cellsInt (hval 0 22 v0 rfl rfl) h0 (fun x hx => hlt x (by simp [hx]))
  obtain ⟨a1, x1, c1, rfl, k1, j1, i1, n1, y1, s1⟩ := arg_recs (by decide) Nt.cells_len Try.underlying23 (by kernel_rfl) (open_net Try.underlying43 (by kernel_rfl) rfl rfl Try.underlying41 Try.underlying3 cellsNt1 cellsNt2) (hval 1 23 v1 rfl rfl) h1 (fun x hx => hlt x (by simp [hx]))
  obtain ⟨a2, x2, c2, rfl, k2, j2, i2, n2, y2, s2⟩ := arg_recsP (wf := msgOpen W) (by decide) MsgR.cells_len Try.underlying24 (by kernel_rfl) (open_msg1 Try.underlying39 (by kernel_rfl) rfl rfl Try.underlying4 (by kernel_rfl) Try.underlying37 (by kernel_rfl) (by kernel_rfl) (open_ent Try.underlying45 (by kernel_rfl) rfl rfl rfl rfl Try.underlying43 (by kernel_rfl) rfl rfl Try.underlying41 Try.underlying3 cellsNt1 cellsNt2 Try.underlying3 cellsNt2 Try.underlying41 cellsNt1 Try.underlying3 cellsNt2)) (hval 2 24 v2 rfl rfl) h2 (fun x hx => hlt x (by simp [hx]))
  obtain ⟨x3, rfl, rfl, rfl, k3⟩ := open_int Try.underlying3 (hval 3 3 v3 rfl rfl) h3
  refine ⟨?_, rfl, rfl, rfl⟩
  have hM := msgs_of hsz (j := 2) rfl rfl Try.underlying24 Try.underlying39 rfl Try.underlying37 (by kernel_rfl) k2 (fun x hx => hlt x (by simp [hx])) n2
  exact daemonSilent_any x0 a0 c0 x1 a1 c1 x2 a2 c2 x3 W k0 (slice_small (k := 8) hsz (j := 0) rfl rfl Try.underlying22 (by kernel_rfl) j0 s0) y0 k1 (fun x hx => ⟨(n1 x hx).1, (n1 x hx).2.1⟩) (slice_small (k := 16) hsz (j := 1) rfl rfl Try.underlying23 (by kernel_rfl) j1 s1) y1 j1 hM (by have := slice_small (k := 32) hsz (j := 2) rfl rfl Try.underlying24 (by kernel_rfl) j2 s2; omega)

theorem daemonSilent_over : Rows.daemonSilentRow.holds Try.pinned (OpenSpec.ofChange Rows.daemonSilentSpec) :=
  OpenClaim.holds_of_wide 5 Try.f5 rfl rfl rfl rfl rfl rfl rfl ⟨rfl, rfl, rfl, rfl, rfl⟩ rfl rfl rfl rfl rfl (by kernel_rfl) Try.func5 (by kernel_rfl)
    (of_decide_eq_true (by kernel_rfl)) (by unfold Func.isWrapper; first | (rw [if_pos (by decide +kernel)]; kernel_rfl) | (rw [if_neg (by decide +kernel)]; exact ⟨rfl, rfl⟩))
    (fun os started H enc _ => daemonSilent_lifted os started H enc)

theorem daemonSilent_holds : Rows.DaemonSilentSaid := daemonSilent_over
end Go.Proofs.Ytfglidaicjjpfaa
end
