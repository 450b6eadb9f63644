import Derived.Test.YtgfbkebbnfcgkaaNetW
import Derived.Handy
section
namespace Go.Proofs.Ytgfbkebbnfcgkaa
open Go.RowKit

/-! ### Cut to so many bits -/
def cutA (a : Int) (k : Nat) : Int := a - a % 2 ^ (32 - k)
theorem nat_and_hi (A j : Nat) (hA : A < 2 ^ 32) (hj : j ≤ 32) : A &&& (2 ^ 32 - 2 ^ j) = A - A % 2 ^ j := by
  have e1 : 2 ^ 32 - 2 ^ j = (2 ^ (32 - j) - 1) <<< j := by
    rw [Nat.shiftLeft_eq, Nat.sub_mul, ← Nat.pow_add, Nat.sub_add_cancel hj, Nat.one_mul]
  have e2 : A - A % 2 ^ j = (A >>> j) <<< j := by
    rw [Nat.shiftLeft_eq, Nat.shiftRight_eq_div_pow]
    have := Nat.div_add_mod A (2 ^ j)
    rw [Nat.mul_comm] at this
    omega
  rw [e1, e2]
  apply Nat.eq_of_testBit_eq
  intro b
  simp only [Nat.testBit_and, Nat.testBit_shiftLeft, Nat.testBit_two_pow_sub_one, Nat.testBit_shiftRight]
  by_cases hb : j ≤ b
  · have e3 : j + (b - j) = b := by omega
    rw [e3]
    by_cases h32 : b - j < 32 - j
    · simp [hb, h32]
    · have : A.testBit b = false := Nat.testBit_lt_two_pow (Nat.lt_of_lt_of_le hA (Nat.pow_le_pow_right (by decide) (by omega)))
      simp [this]
  · simp [hb]
theorem maskV_and (a : Int) (n : Nat) (ha : 0 ≤ a ∧ a < 4294967296) (hn : n ≤ 32) : bits .and .u32 a (maskV n) = cutA a n := by
  have h1 := maskV_eq n (by omega)
  have h2 := pow_le32 n (by omega)
  rw [u32_and a _ ha.1 ha.2 (by omega) (by omega), h1]
  obtain ⟨A, rfl⟩ := Int.eq_ofNat_of_zero_le ha.1
  have e : (4294967296 - (2 : Int) ^ (32 - n)).toNat = 2 ^ 32 - 2 ^ (32 - n) := by
    have : ((2 ^ (32 - n) : Nat) : Int) = (2 : Int) ^ (32 - n) := by simp
    omega
  have hle : A % 2 ^ (32 - n) ≤ A := Nat.mod_le _ _
  rw [e, Int.toNat_natCast, nat_and_hi A (32 - n) (by omega) (by omega), cutA]
  rw [Int.ofNat_sub hle]
  simp
theorem cutA_bd {a : Int} (ha : 0 ≤ a ∧ a < 4294967296) (k : Nat) : 0 ≤ cutA a k ∧ cutA a k < 4294967296 := by
  have h := Int.emod_nonneg a (show (2 : Int) ^ (32 - k) ≠ 0 from Int.ne_of_gt (Int.pow_pos (by decide)))
  have h2 : a % 2 ^ (32 - k) ≤ a := by
    obtain ⟨A, rfl⟩ := Int.eq_ofNat_of_zero_le ha.1
    have : ((2 ^ (32 - k) : Nat) : Int) = (2 : Int) ^ (32 - k) := by simp
    rw [← this, ← Int.natCast_emod]
    exact Int.ofNat_le.2 (Nat.mod_le _ _)
  unfold cutA
  omega
theorem cutA_mod (a : Int) (k : Nat) : cutA a k % 2 ^ (32 - k) = 0 := by
  unfold cutA
  exact Int.emod_eq_zero_of_dvd (by
    have := Int.mul_ediv_add_emod a (2 ^ (32 - k))
    exact ⟨a / 2 ^ (32 - k), by omega⟩)
/-- Cut twice. -/
theorem cutA_cut (a : Int) {i j : Nat} (hij : i ≤ j) (hj : j ≤ 32) : cutA (cutA a j) i = cutA a i := by
  have hd : (2 : Int) ^ (32 - j) ∣ 2 ^ (32 - i) := ⟨2 ^ (j - i), by rw [← Int.pow_add]; congr 1; omega⟩
  have e : (cutA a j) % 2 ^ (32 - i) = a % 2 ^ (32 - i) - a % 2 ^ (32 - j) := by
    unfold cutA
    have h0 : a % 2 ^ (32 - j) = (a % 2 ^ (32 - i)) % 2 ^ (32 - j) := (Int.emod_emod_of_dvd a hd).symm
    have p1 : (0 : Int) < 2 ^ (32 - i) := Int.pow_pos (by decide)
    have p2 : (0 : Int) < 2 ^ (32 - j) := Int.pow_pos (by decide)
    have h1 := Int.emod_nonneg a (Int.ne_of_gt p1)
    have h2 := Int.emod_lt_of_pos a p1
    have h3 : (a % 2 ^ (32 - i)) % 2 ^ (32 - j) ≤ a % 2 ^ (32 - i) := by
      have q1 := Int.mul_ediv_add_emod (a % 2 ^ (32 - i)) (2 ^ (32 - j))
      have q2 := Int.mul_nonneg (Int.le_of_lt p2) (Int.ediv_nonneg h1 (Int.le_of_lt p2))
      omega
    have h4 := Int.emod_nonneg (a % 2 ^ (32 - i)) (Int.ne_of_gt p2)
    have e1 : a - a % 2 ^ (32 - j) = (a % 2 ^ (32 - i) - a % 2 ^ (32 - j)) + 2 ^ (32 - i) * (a / 2 ^ (32 - i)) := by
      have := Int.mul_ediv_add_emod a (2 ^ (32 - i)); omega
    rw [e1, Int.add_mul_emod_self_left]
    exact Int.emod_eq_of_lt (by omega) (by omega)
  show cutA a j - (cutA a j) % 2 ^ (32 - i) = _
  rw [e]
  unfold cutA
  omega
theorem cutA_self {a : Int} {k : Nat} (h : a % 2 ^ (32 - k) = 0) : cutA a k = a := by unfold cutA; omega
theorem cutA_zero {a : Int} (ha : 0 ≤ a ∧ a < 4294967296) : cutA a 0 = 0 := by
  unfold cutA
  have : a % 2 ^ (32 - 0) = a := Int.emod_eq_of_lt ha.1 (by simpa using ha.2)
  omega
theorem netErr_nat (a : Int) (k : Nat) (hk : k ≤ 32) : netErr a k = if a % 2 ^ (32 - k) ≠ 0 then some 3 else none := by
  unfold netErr
  rw [if_neg (by omega), show (32 - (k : Int)).toNat = 32 - k by omega]
theorem netErr_ok {a n : Int} (h : netErr a n = none) : ∃ k : Nat, n = k ∧ k ≤ 32 ∧ a % 2 ^ (32 - k) = 0 := by
  have hn : 0 ≤ n ∧ n ≤ 32 := by
    unfold netErr at h
    split at h
    · cases h
    · omega
  obtain ⟨k, rfl⟩ := Int.eq_ofNat_of_zero_le hn.1
  have hk : k ≤ 32 := by omega
  refine ⟨k, rfl, hk, ?_⟩
  rw [netErr_nat a k hk] at h
  split at h
  · cases h
  · rename_i h0; exact Classical.not_not.1 h0
theorem netErr_cut (a : Int) (k : Nat) (hk : k ≤ 32) : netErr (cutA a k) k = none := by
  rw [netErr_nat _ k hk, if_neg (by simpa using cutA_mod a k)]



def upE (a n : Int) : Except Int (Int × Int) := match netErr a n with
  | some k => .error k
  | none => if n = 0 then .error 2 else .ok (cutA a (n - 1).toNat, n - 1)
def RetNet (w : World) (r : Except Int (Int × Int)) (e : Ending) (w' : World) : Prop :=
  match r with
  | .error k => RetV w (.tuple #[.agg #[.int .u32 0, .int .i64 0], errv k]) e w'
  | .ok p => RetV w (.tuple #[.agg #[.int .u32 p.1, .int .i64 p.2], .nilIface]) e w'
theorem RetNet.err {w w' : World} {r : Except Int (Int × Int)} {k : Int} {e : Ending} (h : r = .error k) (he : e = .returned (.tuple #[.agg #[.int .u32 0, .int .i64 0], errv k])) (hF : Fr (fun _ => False) w w') : RetNet w r e w' := by subst h; exact ⟨he, hF⟩
theorem RetNet.ok {w w' : World} {r : Except Int (Int × Int)} {a n : Int} {e : Ending} (h : r = .ok (a, n)) (he : e = .returned (.tuple #[.agg #[.int .u32 a, .int .i64 n], .nilIface])) (hF : Fr (fun _ => False) w w') : RetNet w r e w' := by subst h; exact ⟨he, hF⟩


/-- Has a net an address? -/
def hasB (a n x : Int) : Bool := decide (netErr a n = none ∧ cutA x n.toNat = a)


/-- Has one net all that another one has? -/
def inB (a n b m : Int) : Bool := decide (netErr a n = none ∧ m ≤ n) && hasB b m a

end Go.Proofs.Ytgfbkebbnfcgkaa
end
