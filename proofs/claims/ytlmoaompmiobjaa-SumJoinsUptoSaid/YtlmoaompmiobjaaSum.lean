import Derived.Test.YtlmoaompmiobjaaRows
import Derived.Test.YtlmoaompmiobjaaBase
import Derived.Laws.BitsAll
namespace Go.Proofs.Ytlmoaompmiobjaa
open Go.RowKit

/-- The ones' sum's folding, in closed form. -/
def fold1 (n : Nat) : Nat := if n = 0 then 0 else if n % 65535 = 0 then 65535 else n % 65535
theorem fold1_spec (n : Nat) : fold1 n ≤ 65535 ∧ fold1 n % 65535 = n % 65535 ∧ (fold1 n = 0 ↔ n = 0) := by
  unfold fold1
  by_cases h0 : n = 0
  · subst h0; simp
  · rw [if_neg h0]
    by_cases h1 : n % 65535 = 0
    · rw [if_pos h1]; omega
    · rw [if_neg h1]; omega
theorem fold1_unique (n x : Nat) (h1 : x ≤ 65535) (h2 : x % 65535 = n % 65535) (h3 : x = 0 ↔ n = 0) : fold1 n = x := by
  obtain ⟨k1, k2, k3⟩ := fold1_spec n
  generalize fold1 n = y at *
  omega
theorem fold1_small (n : Nat) (h : n ≤ 65535) : fold1 n = n := fold1_unique n n h rfl Iff.rfl
theorem fold1_le (n : Nat) : fold1 n ≤ 65535 := (fold1_spec n).1
theorem fold1_step (n : Nat) : fold1 (n / 65536 + n % 65536) = fold1 n := by
  obtain ⟨k1, k2, k3⟩ := fold1_spec n
  exact fold1_unique _ _ k1 (by omega) (by omega)
theorem fold1_add (a b : Nat) : fold1 (fold1 a + fold1 b) = fold1 (a + b) := by
  obtain ⟨k1, k2, k3⟩ := fold1_spec (a + b)
  obtain ⟨p1, p2, p3⟩ := fold1_spec a
  obtain ⟨q1, q2, q3⟩ := fold1_spec b
  generalize fold1 (a + b) = y at *
  generalize fold1 a = u at *
  generalize fold1 b = v at *
  exact fold1_unique _ _ k1 (by omega) (by omega)

set_option maxRecDepth 100000 in
set_option maxHeartbeats 1000000 in
theorem folded_any (n : Nat) (w : World) (hn : n < 18446744073709551616) : Calls Try.prog 24 #[.int .u64 n] w (RetV w (.int .u16 (fold1 n))) := by
  go_enter Try.func24, Try.ntmps24
  go_wp2
  go_loop [0] (fun i => ∃ m : Nat, m < 18446744073709551616 ∧ i = .int .u64 m ∧ Hid (fold1 m = fold1 n)) (fun i => (intOf i).toNat)
  case atStart => exact ⟨n, hn, rfl, rfl⟩
  case round =>
    obtain ⟨m, hm, rfl, hE⟩ := hrel
    by_cases hb : 65535 < m
    · have hand : bits .and .u64 (m : Int) 65535 = ((m % 65536 : Nat) : Int) := by
        rw [u64_and _ _ (by omega) (by omega) (by decide) (by decide)]
        have : (m : Int).toNat &&& (65535 : Int).toNat = m % 65536 := Nat.and_two_pow_sub_one_eq_mod m 16
        rw [this]
      go_wp2
      go_round
      case rel => exact ⟨m / 65536 + m % 65536, by omega, by go_num, by rw [fold1_step]; exact hE⟩
      case measure => simp [intOf]; omega
    · have hX : Hid (fold1 n = m) := (by rw [← hE.out, fold1_small m (by omega)] : fold1 n = m)
      go_wp2
      go_ret
      exact RetV.mk (x := .int .u16 m) (by rw [hX.out]) rfl (Fr.refl _ _)

/-- The sum of bytes: the first, and every second one, counts 256-fold. -/
def tot : Bool → List Int → Nat
  | _, [] => 0
  | b, x :: l => (if b then x.toNat * 256 else x.toNat) + tot (!b) l
theorem tot_le (l : List Int) : ∀ b, (∀ x ∈ l, 0 ≤ x ∧ x ≤ 255) → tot b l ≤ 65280 * l.length := by
  induction l with
  | nil => intro b _; simp [tot]
  | cons x l ih =>
    intro b h
    have h1 := ih (!b) (fun y hy => h y (by simp [hy]))
    have h2 := h x (by simp)
    simp only [tot, List.length_cons]
    split <;> omega
theorem tot_append (l m : List Int) : ∀ b, tot b (l ++ m) = tot b l + tot (if l.length % 2 = 0 then b else !b) m := by
  induction l with
  | nil => intro b; simp [tot]
  | cons x l ih =>
    intro b
    simp only [List.cons_append, tot, ih, List.length_cons]
    have : (if l.length % 2 = 0 then !b else !!b) = (if (l.length + 1) % 2 = 0 then b else !b) := by
      by_cases h : l.length % 2 = 0
      · rw [if_pos h, if_neg (by omega)]
      · rw [if_neg h, if_pos (by omega), Bool.not_not]
    rw [this]
    omega

theorem compl16 (b : Nat) (h : b ≤ 65535) : 65535 ^^^ b = 65535 - b := by
  have h1 := BitVec.toNat_not (x := BitVec.ofNat 16 b)
  rw [BitVec.not_def, BitVec.toNat_xor, BitVec.toNat_allOnes, BitVec.toNat_ofNat, Nat.mod_eq_of_lt (by omega)] at h1
  exact h1
def sumM (l : List Int) : Nat := 65535 - fold1 (tot true l)

theorem infoByte : (Try.prog.info? 5).map (fun i => (i.zero, i.size, i.bytes)) = some (some (.int .u8 0), 1, 1) := by kernel_rfl

set_option maxRecDepth 100000 in
set_option maxHeartbeats 1000000 in
theorem sum_any (l : List Int) (a : Option Addr) (c : Nat) (w : World) (hl : Rd w.heap a l.length 1 (ivals .u8 l)) (hb : ∀ x ∈ l, 0 ≤ x ∧ x ≤ 255) (hn : l.length ≤ 140737488355328) :
    Calls Try.prog 9 #[.slice a l.length c] w (RetV w (.int .u16 (sumM l))) := by
  go_enter Try.func9, Try.ntmps9
  go_wp2
  go_loop [8, 3] (fun i n => ∃ k m : Nat, k ≤ l.length ∧ i = .int .i64 k ∧ n = .int .u64 m ∧ m ≤ 65280 * k ∧ Hid (m + tot (decide (k % 2 = 0)) (l.drop k) = tot true l)) (fun i _ => l.length - (intOf i).toNat)
  case atStart => exact ⟨0, 0, by omega, rfl, rfl, by omega, (by simp : 0 + tot (decide (0 % 2 = 0)) (l.drop 0) = tot true l)⟩
  case round =>
    obtain ⟨k, m, hk, rfl, rfl, hm, hE⟩ := hrel
    by_cases hlt : k < l.length
    · obtain ⟨g, o, rfl, q1, c1⟩ := Ints.pos hl (by omega)
      have c2 := c1 w rfl k hlt
      have hx := hb _ (nth_mem l k hlt)
      clear c1
      have hd := drop_nth l k hlt
      obtain ⟨x, hxx⟩ := Int.eq_ofNat_of_zero_le hx.1
      rw [hxx] at c2 hx hd
      by_cases hpar : k % 2 = 0
      · have hE' : Hid (m + x * 256 + tot (decide ((k + 1) % 2 = 0)) (l.drop (k + 1)) = tot true l) := (by
          have h0 := hE.out
          rw [hd] at h0
          rw [decide_eq_true hpar] at h0
          rw [decide_eq_false (by omega)]
          simp only [tot, if_true, Int.toNat_natCast, Bool.not_true] at h0
          omega : m + x * 256 + tot (decide ((k + 1) % 2 = 0)) (l.drop (k + 1)) = tot true l)
        have hmod : (k : Int) % 2 = 0 := by omega
        clear hd hxx
        go_wp2
        go_round
        case rel => exact ⟨k + 1, m + x * 256, by omega, by go_num, by go_num, by omega, hE'⟩
        case measure => simp [intOf]; omega
      · have hE' : Hid (m + x + tot (decide ((k + 1) % 2 = 0)) (l.drop (k + 1)) = tot true l) := (by
          have h0 := hE.out
          rw [hd] at h0
          rw [decide_eq_false hpar] at h0
          rw [decide_eq_true (by omega)]
          simp only [tot, Int.toNat_natCast, Bool.not_false] at h0
          simp at h0
          omega : m + x + tot (decide ((k + 1) % 2 = 0)) (l.drop (k + 1)) = tot true l)
        have hmod : (k : Int) % 2 = 1 := by omega
        clear hd hxx
        go_wp2
        go_round
        case rel => exact ⟨k + 1, m + x, by omega, by go_num, by go_num, by omega, hE'⟩
        case measure => simp [intOf]; omega
    · obtain rfl : k = l.length := by omega
      have hX : Hid (m = tot true l) := (by
        have h0 := hE.out
        rw [List.drop_length] at h0
        simpa [tot] using h0 : m = tot true l)
      have hf := fold1_le m
      go_wp2_with (go_at_call 24; refine (folded_any m _ (by omega)).mono ?_)
      intro e w1 ⟨he, hF⟩
      subst he
      go_wp2
      go_ret
      have hu : IntKind.u16.max = (65535 : Nat) := rfl
      rw [hu, u16_xor_nat _ _ (by decide) (by omega), compl16 _ hf]
      exact RetV.mk (x := .int .u16 ((65535 - fold1 m : Nat) : Int)) (by rw [sumM, ← hX.out]) rfl hF

set_option maxRecDepth 100000 in
set_option maxHeartbeats 1000000 in
theorem rfolded_any (n : Nat) (w : World) (hn : n < 4611686018427387904) : Calls Try.prog 10 #[.int .i64 n] w (RetV w (.int .i64 (fold1 n))) := by
  go_enter Try.func10, Try.ntmps10
  go_wp2
  go_loop [0] (fun i => ∃ m : Nat, m < 4611686018427387904 ∧ i = .int .i64 m ∧ Hid (fold1 m = fold1 n)) (fun i => (intOf i).toNat)
  case atStart => exact ⟨n, hn, rfl, rfl⟩
  case round =>
    obtain ⟨m, hm, rfl, hE⟩ := hrel
    by_cases hb : 65535 < m
    · go_wp2
      go_round
      case rel => exact ⟨m / 65536 + m % 65536, by omega, by go_num, by rw [fold1_step]; exact hE⟩
      case measure => simp [intOf]; omega
    · have hX : Hid (fold1 n = m) := (by rw [← hE.out, fold1_small m (by omega)] : fold1 n = m)
      go_wp2
      go_ret
      exact RetV.mk (x := .int .i64 m) (by rw [hX.out]) rfl (Fr.refl _ _)

theorem sumM_le (l : List Int) : sumM l ≤ 65535 := Nat.sub_le _ _
theorem sumM_join (a b : List Int) (h : a.length % 2 = 0) : sumM (a ++ b) = 65535 - fold1 ((65535 - sumM a) + (65535 - sumM b)) := by
  have h1 := fold1_le (tot true a)
  have h2 := fold1_le (tot true b)
  have e : (65535 - sumM a) + (65535 - sumM b) = fold1 (tot true a) + fold1 (tot true b) := by unfold sumM; omega
  rw [e, fold1_add, sumM, tot_append, if_pos h]

theorem rfolded_any' (x : Int) (n : Nat) (w : World) (hx : x = n) (hn : n < 4611686018427387904) : Calls Try.prog 10 #[.int .i64 x] w (RetV w (.int .i64 (fold1 n))) := by
  subst hx; exact rfolded_any n w hn
theorem sum_any' {n : Nat} (l : List Int) (a : Option Addr) (c : Nat) (w : World) (hl : Rd w.heap a n 1 (ivals .u8 l)) (hb : ∀ x ∈ l, 0 ≤ x ∧ x ≤ 255) (hn : l.length ≤ 140737488355328) (h : n = l.length) :
    Calls Try.prog 9 #[.slice a n c] w (RetV w (.int .u16 (sumM l))) := by
  subst h; exact sum_any l a c w hl hb hn

set_option maxRecDepth 100000 in
set_option maxHeartbeats 1000000 in
theorem joins_any (l m : List Int) (a b : Option Addr) (c d : Nat) (w : World) (hl : Rd w.heap a l.length 1 (ivals .u8 l)) (hm : Rd w.heap b m.length 1 (ivals .u8 m)) (hbl : ∀ x ∈ l, 0 ≤ x ∧ x ≤ 255) (hbm : ∀ x ∈ m, 0 ≤ x ∧ x ≤ 255)
    (hn : l.length + m.length ≤ 1048576) : Calls Try.prog 3 #[.slice a l.length c, .slice b m.length d] w (RetV w (.bool true)) := by
  go_enter Try.func3, Try.ntmps3
  go_wp2_with (go_at_call 9; refine (sum_any' [0, 1, 242, 3] _ _ _ (Own.made w 5 1 4 (ivals .u8 [0, 1, 242, 3]) rfl (by decide)).rd (by decide) (by decide) rfl).mono ?_)
  intro e1 w1 R1
  obtain ⟨rfl, hF1⟩ := R1
  have e0 : sumM [0, 1, 242, 3] = 3579 := by decide
  rw [e0]
  clear e0
  have hFw : Fr (fun _ => False) w w1 := ((Fr.refl _ w).alloc _).trans hF1
  clear hF1
  by_cases hp : l.length % 2 = 0
  · have hpi : (l.length : Int) % 2 = 0 := by omega
    have HP := Lib.hid hp
    clear hp
    have s1 := sumM_le l
    have s2 := sumM_le m
    go_wp2_with (go_at_call 9; refine (sum_any l a c _ (hl.fr0 hFw (fun _ _ h => h)) hbl (by omega)).mono ?_)
    intro e2 w2 R2
    obtain ⟨rfl, hF2⟩ := R2
    have hFw2 := hFw.trans hF2
    go_wp2_with (go_at_call 9; refine (sum_any m b d _ (hm.fr0 hFw2 (fun _ _ h => h)) hbm (by omega)).mono ?_)
    intro e3 w3 R3
    obtain ⟨rfl, hF3⟩ := R3
    have hFw3 := hFw2.trans hF3
    go_wp2_with (go_at_call 10; refine (rfolded_any' _ ((65535 - sumM l) + (65535 - sumM m)) _ (by omega) (by omega)).mono ?_)
    intro e4 w4 R4
    obtain ⟨rfl, hF4⟩ := R4
    have hFw4 := hFw3.trans hF4
    have hfl := fold1_le ((65535 - sumM l) + (65535 - sumM m))
    have hJ := Lib.hid (sumM_join l m HP.out)
    go_wp2_with (at_builtin; refine wpList_app rfl _ _ 22 rfl Try.underlying22 infoByte rfl (by decide) rfl rfl (Own.made w4 5 1 0 [] rfl (by decide)) (hl.fr0 (hFw4.alloc _) (fun _ _ h => h)) (ivals_one .u8 l) (by omega) (by omega) ?_)
    intro a5 c5 w5 ob5 z1 z2 z3
    have hFw5 : Fr (fun _ => False) w w5 := Fr.app (ob := some w4.heap.size) (hFw4.alloc _) (z2.mono (fun i _ h => by rw [h])) (fun g hg => by cases hg; exact hFw4.size)
    have hN5 : ∀ g, ob5 = some g → w.heap.size ≤ g := app_new (ob := some w4.heap.size) (fun g hg => by cases hg; exact hFw4.size) z3 (by have := hFw4.size; omega)
    clear z2 z3
    go_wp2_with (at_builtin; refine wpList_app rfl _ _ 22 rfl Try.underlying22 infoByte rfl (by decide) rfl rfl z1 (hm.fr0 hFw5 (fun _ _ h => h)) (ivals_one .u8 m) (by omega) (by omega) ?_)
    intro a6 c6 w6 ob6 y1 y2 y3
    have hFw6 := Fr.app hFw5 y2 hN5
    have y1' : Rd w6.heap a6 (l.length + m.length) 1 (ivals .u8 (l ++ m)) := by rw [ivals, List.map_append]; exact y1.rd
    go_wp2_with (go_at_call 9; refine (sum_any' (l ++ m) a6 c6 _ y1' (fun x hx => (List.mem_append.1 hx).elim (hbl x) (hbm x)) (by simp; omega) (by simp)).mono ?_)
    intro e7 w7 R7
    obtain ⟨rfl, hF7⟩ := R7
    rw [hJ.out]
    generalize fold1 ((65535 - sumM l) + (65535 - sumM m)) = q at *
    go_wp2
    go_ret
    exact RetV.mk (x := .bool true) rfl rfl (hFw6.trans hF7) (by simp; omega)
  · have hpi : (l.length : Int) % 2 = 1 := by omega
    clear hp
    go_wp2
    go_ret
    exact RetV.mk rfl rfl hFw
end Go.Proofs.Ytlmoaompmiobjaa
