import Derived.Test.YtfjempfffdeklaaDoorTriePut
import Derived.Laws.EntriesVeiled
namespace Go.Proofs.YtfjempfffdeklaaDoor
open Go.RowKit

theorem or_high {a : Int} (ha : 0 ≤ a ∧ a < 4294967296) {k : Nat} (hk : k < 32) (hc : cutA a k = a) : bits .or .u32 a (2 ^ (31 - k)) = a + 2 ^ (31 - k) := by
  have hp := pow31_pos k
  have h1 := cutA_mod a k
  rw [hc, pow32_two hk] at h1
  have hb := (cut_high hc hk).1
  have hlt : a + 2 ^ (31 - k) < 4294967296 := by
    have h32 : (4294967296 : Int) = 2 ^ (31 - k) * 2 * 2 ^ k := by
      rw [Int.mul_assoc, Int.mul_comm 2, ← Int.pow_succ, ← Int.pow_add, show 31 - k + (k + 1) = 32 by omega]; decide
    obtain ⟨c, hcc⟩ := Int.dvd_of_emod_eq_zero h1
    generalize (2 : Int) ^ (31 - k) = m at *
    generalize (2 : Int) ^ k = q at *
    have h2 : m * 2 * c < m * 2 * q := by rw [← hcc, ← h32]; exact ha.2
    have h3 : c < q := Int.lt_of_mul_lt_mul_left h2 (by omega)
    have h4 : m * 2 * (c + 1) ≤ m * 2 * q := Int.mul_le_mul_of_nonneg_left (by omega) (by omega)
    rw [Int.mul_add, ← hcc, ← h32] at h4
    omega
  rw [u32_or a _ ha.1 ha.2 (Int.le_of_lt hp) (by omega)]
  obtain ⟨A, rfl⟩ := Int.eq_ofNat_of_zero_le ha.1
  have e : ((2 : Int) ^ (31 - k)).toNat = 2 ^ (31 - k) := by
    rw [show (2 : Int) ^ (31 - k) = ((2 ^ (31 - k) : Nat) : Int) by simp, Int.toNat_natCast]
  rw [e, Int.toNat_natCast]
  have hd : 2 ^ (31 - k) * 2 ∣ A := by
    have := Int.dvd_of_emod_eq_zero h1
    have h5 : ((2 ^ (31 - k) * 2 : Nat) : Int) ∣ ((A : Nat) : Int) := by simpa using this
    exact Int.natCast_dvd_natCast.1 h5
  obtain ⟨c, hcc⟩ := hd
  have h6 := Nat.two_pow_add_eq_or_of_lt (i := 31 - k + 1) (b := 2 ^ (31 - k)) (Nat.pow_lt_pow_right (by decide) (by omega)) c
  rw [Nat.pow_succ] at h6
  rw [hcc, ← h6]
  simp
theorem high_bd {a : Int} (ha : 0 ≤ a ∧ a < 4294967296) {k : Nat} (hk : k < 32) (hc : cutA a k = a) : 0 ≤ a + 2 ^ (31 - k) ∧ a + 2 ^ (31 - k) < 4294967296 := by
  have hp := pow31_pos k
  refine ⟨by omega, ?_⟩
  have h1 := cutA_mod a k
  rw [hc, pow32_two hk] at h1
  have h32 : (4294967296 : Int) = 2 ^ (31 - k) * 2 * 2 ^ k := by
    rw [Int.mul_assoc, Int.mul_comm 2, ← Int.pow_succ, ← Int.pow_add, show 31 - k + (k + 1) = 32 by omega]; decide
  obtain ⟨c, hcc⟩ := Int.dvd_of_emod_eq_zero h1
  generalize (2 : Int) ^ (31 - k) = m at *
  generalize (2 : Int) ^ k = q at *
  have h2 : m * 2 * c < m * 2 * q := by rw [← hcc, ← h32]; exact ha.2
  have h3 : c < q := Int.lt_of_mul_lt_mul_left h2 (by omega)
  have h4 : m * 2 * (c + 1) ≤ m * 2 * q := Int.mul_le_mul_of_nonneg_left (by omega) (by omega)
  rw [Int.mul_add, ← hcc, ← h32] at h4
  omega
/-- The two nets below. -/
def halvesV (a : Int) (k : Nat) : Value := if k = 32 then .tuple #[.agg #[.int .u32 0, .int .i64 0], .agg #[.int .u32 0, .int .i64 0], errv 2] else .tuple #[.agg #[.int .u32 a, .int .i64 ((k : Int) + 1)], .agg #[.int .u32 (a + 2 ^ (31 - k)), .int .i64 ((k : Int) + 1)], .nilIface]
theorem pow31_mod (k : Nat) : (2 : Int) ^ (31 - k) % 4294967296 = 2 ^ (31 - k) := by
  have h1 := pow31_pos k
  refine Int.emod_eq_of_lt (Int.le_of_lt h1) ?_
  have h2 : 2 ^ (31 - k) ≤ 2 ^ 31 := Nat.pow_le_pow_right (by decide) (by omega)
  have h3 : ((2 ^ (31 - k) : Nat) : Int) = (2 : Int) ^ (31 - k) := by simp
  omega
set_option maxRecDepth 100000 in
set_option maxHeartbeats 4000000 in
theorem halves_any (a : Int) (k : Nat) (w : World) (ha : 0 ≤ a ∧ a < 4294967296) (hk : k ≤ 32) (hc : cutA a k = a) : Calls Tryd.prog 112 #[.agg #[.int .u32 a, .int .i64 k]] w (RetV w (halvesV a k)) := by
  have hne : netErr a k = none := by have := netErr_cut a k hk; rwa [hc] at this
  have k0 := ((Blk.made w 37 [.int .u32 a, .int .i64 k]).alloc (.cells #[.int .u32 0, .int .i64 0] 37)).alloc (.cells #[.int .u32 0, .int .i64 0] 37)
  have k1 := (Blk.made (w.alloc (.cells #[.int .u32 a, .int .i64 k] 37)) 37 [.int .u32 0, .int .i64 0]).alloc (.cells #[.int .u32 0, .int .i64 0] 37)
  have k2 := Blk.made ((w.alloc (.cells #[.int .u32 a, .int .i64 k] 37)).alloc (.cells #[.int .u32 0, .int .i64 0] 37)) 37 [.int .u32 0, .int .i64 0]
  simp only [World.size_alloc] at k1 k2
  have hF0 := (((Fr.refl (fun _ => False) w).alloc (.cells #[.int .u32 a, .int .i64 k] 37)).alloc (.cells #[.int .u32 0, .int .i64 0] 37)).alloc (.cells #[.int .u32 0, .int .i64 0] 37)
  go_enter Tryd.func112, Tryd.ntmps112
  go_wp2_with (fail)
  refine (pcheck_any a k _ ha).mono ?_
  rintro e1 w1 ⟨rfl, hF1⟩
  rw [hne, show errO none = .nilIface from rfl]
  have hF01 := hF0.trans hF1
  have b0 := k0.fr hF1 (fun h => h)
  have b1 := k1.fr hF1 (fun h => h)
  have b2 := k2.fr hF1 (fun h => h)
  clear k0 k1 k2 hF0 hF1 hne
  have HC := Lib.hid hc
  have y0 := b0.cell 0
  have y1 := b0.cell 1
  have f0 := b1.frozen 0
  have f1 := b1.frozen 1
  have g0 := b2.frozen 0
  have g1 := b2.frozen 1
  have l0 := b0.lt
  have l1 := b1.lt
  have l2 := b2.lt
  have c10 := b1.cell 0
  have c11 := b1.cell 1
  have c20 := b2.cell 0
  have c21 := b2.cell 1
  simp only [List.getElem?_cons_zero, List.getElem?_cons_succ] at y0 y1 c10 c11 c20 c21
  by_cases h32 : k = 32
  · have e32 : ((k : Int) == 32) = true := by simp [h32]
    have HV := Lib.hid (show halvesV a k = .tuple #[.agg #[.int .u32 0, .int .i64 0], .agg #[.int .u32 0, .int .i64 0], errv 2] from if_pos h32)
    have H1 := Lib.hid (((((b1.set 0 (.int .u32 0)).set 1 (.int .i64 0)).other (p := ⟨w.heap.size + 1 + 1, 0, none⟩) (by simp) (.int .u32 0)).other (p := ⟨w.heap.size + 1 + 1, 1, none⟩) (by simp) (.int .i64 0)))
    have H2 := Lib.hid ((((b2.other (p := ⟨w.heap.size + 1, 0, none⟩) (by simp) (.int .u32 0)).other (p := ⟨w.heap.size + 1, 1, none⟩) (by simp) (.int .i64 0)).set 0 (.int .u32 0)).set 1 (.int .i64 0))
    have HF := Lib.hid ((((hF01.setCell (p := ⟨w.heap.size + 1, 0, none⟩) (fun h => by simp only at h; omega) (.int .u32 0)).setCell (p := ⟨w.heap.size + 1, 1, none⟩) (fun h => by simp only at h; omega) (.int .i64 0)).setCell (p := ⟨w.heap.size + 1 + 1, 0, none⟩) (fun h => by simp only at h; omega) (.int .u32 0)).setCell (p := ⟨w.heap.size + 1 + 1, 1, none⟩) (fun h => by simp only at h; omega) (.int .i64 0))
    clear h32 b0 b1 b2 hF01
    go_wp2
    have q0 := H1.out.cell 0
    have q1 := H1.out.cell 1
    have q2 := H2.out.cell 0
    have q3 := H2.out.cell 1
    simp only [List.set_cons_zero, List.set_cons_succ, List.getElem?_cons_zero, List.getElem?_cons_succ] at q0 q1 q2 q3
    refine bodyPost_ret (v := .tuple #[.agg #[.int .u32 0, .int .i64 0], .agg #[.int .u32 0, .int .i64 0], errv 2]) (by simp [results, Tryd.results112, go_sem, q0, q1, q2, q3]) rfl ?_
    exact RetV.mk HV.out.symm rfl HF.out
  · have e32 : ((k : Int) == 32) = false := by simp; omega
    have hk2 : k < 32 := by omega
    have HV := Lib.hid (show halvesV a k = .tuple #[.agg #[.int .u32 a, .int .i64 ((k : Int) + 1)], .agg #[.int .u32 (bits .or .u32 a (2 ^ (31 - k) % 4294967296)), .int .i64 ((k : Int) + 1)], .nilIface] by rw [pow31_mod, or_high ha hk2 hc]; exact if_neg h32)
    have q0 := fun c : Cls (fun g => g = w.heap.size + 1) w1 => (b0.fr c.fr (fun h => by omega)).cell 0
    simp only [List.getElem?_cons_zero] at q0
    have H1 := Lib.hid (fun hi => ((((b1.set 0 (.int .u32 a)).set 1 (.int .i64 ((k : Int) + 1))).other (p := ⟨w.heap.size + 1 + 1, 0, none⟩) (by simp) (.int .u32 hi)).other (p := ⟨w.heap.size + 1 + 1, 1, none⟩) (by simp) (.int .i64 ((k : Int) + 1))))
    have H2 := Lib.hid (fun hi => ((((b2.other (p := ⟨w.heap.size + 1, 0, none⟩) (by simp) (.int .u32 a)).other (p := ⟨w.heap.size + 1, 1, none⟩) (by simp) (.int .i64 ((k : Int) + 1))).set 0 (.int .u32 hi)).set 1 (.int .i64 ((k : Int) + 1))))
    have HF := Lib.hid (fun hi => ((((hF01.setCell (p := ⟨w.heap.size + 1, 0, none⟩) (fun h => by simp only at h; omega) (.int .u32 a)).setCell (p := ⟨w.heap.size + 1, 1, none⟩) (fun h => by simp only at h; omega) (.int .i64 ((k : Int) + 1))).setCell (p := ⟨w.heap.size + 1 + 1, 0, none⟩) (fun h => by simp only at h; omega) (.int .u32 hi)).setCell (p := ⟨w.heap.size + 1 + 1, 1, none⟩) (fun h => by simp only at h; omega) (.int .i64 ((k : Int) + 1))).drew)
    clear h32 hc b0 b1 b2 hF01
    go_wp2
    (refine wp_region_mix (fun w' => ∃ c : Cls (fun g => g = w.heap.size + 1) w1, w' = c.wo) 13 (by kernel_rfl) (by kernel_rfl) (⟨⟨_, (Fr.refl _ _).drew⟩, rfl⟩) ?_; simp only [List.take_succ_cons, List.take_zero, List.drop_succ_cons, List.drop_zero])
    (refine wpMix_earlyN 4 (by kernel_rfl) (by kernel_rfl) ?_; simp only [List.take_succ_cons, List.take_zero, List.drop_succ_cons, List.drop_zero]; (repeat (go_big_quiet_step (fail))); refine wpQuiet_nil ?_)
    (refine wpMix_lateN 8 (⟨⟨_, (Fr.refl _ _).drew⟩, rfl⟩) (by kernel_rfl) ?_; simp only [List.take_succ_cons, List.take_zero, List.drop_succ_cons, List.drop_zero]; (repeat (go_big_quiet_step (fail))); refine wpQuiet_nil ?_)
    refine wpMix_eff (by kernel_rfl) ?_
    go_wp2
    refine ⟨⟨⟨_, ((Fr.refl _ _).drew.at1 0 _).at1 1 _⟩, rfl⟩, ?_⟩
    refine wpMix_nil ?_
    go_wp2
    have r0 := (H1.out (bits .or .u32 a (2 ^ (31 - k) % 4294967296))).cell 0
    have r1 := (H1.out (bits .or .u32 a (2 ^ (31 - k) % 4294967296))).cell 1
    have r2 := (H2.out (bits .or .u32 a (2 ^ (31 - k) % 4294967296))).cell 0
    have r3 := (H2.out (bits .or .u32 a (2 ^ (31 - k) % 4294967296))).cell 1
    simp only [List.set_cons_zero, List.set_cons_succ, List.getElem?_cons_zero, List.getElem?_cons_succ] at r0 r1 r2 r3
    refine bodyPost_ret (v := .tuple #[.agg #[.int .u32 a, .int .i64 ((k : Int) + 1)], .agg #[.int .u32 (bits .or .u32 a (2 ^ (31 - k) % 4294967296)), .int .i64 ((k : Int) + 1)], .nilIface]) (by simp [results, Tryd.results112, go_sem, r0, r1, r2, r3]) rfl ?_
    exact RetV.mk HV.out.symm rfl (HF.out _)

/-- What is told so far, in two boxes: the list, and the function that walks. -/
def WSt (H : Array Obj) (B : Nat) (out : List Nt) (ob : Option Nat) : Prop := ∃ ao co, Blk H B 65 [.slice ao out.length co] ∧ Blk H (B + 1) 193 [.func (.func 111) #[] #[.pointer (some ⟨B, 0, none⟩), .pointer (some ⟨B + 1, 0, none⟩)]] ∧ Ownd H 37 2 ao out.length co (out.flatMap Nt.cells) ob ∧ ∀ g, ob = some g → B + 2 ≤ g
theorem WSt.fr {S : Nat → Prop} {w w' : World} {B : Nat} {out : List Nt} {ob : Option Nat} (h : WSt w.heap B out ob) (f : Fr S w w') (h1 : ¬ S B) (h2 : ¬ S (B + 1)) (h3 : ∀ g, ob = some g → ¬ S g) : WSt w'.heap B out ob := by
  obtain ⟨ao, co, k1, k2, k3, k4⟩ := h
  exact ⟨ao, co, k1.fr f h1, k2.fr f h2, k3.fr f h3, k4⟩
theorem WSt.fr0 {w w' : World} {B : Nat} {out : List Nt} {ob : Option Nat} (h : WSt w.heap B out ob) (f : Fr (fun _ => False) w w') : WSt w'.heap B out ob := h.fr f (fun h => h) (fun h => h) (fun _ _ h => h)
theorem WSt.lt {H : Array Obj} {B : Nat} {out : List Nt} {ob : Option Nat} (h : WSt H B out ob) : B + 1 < H.size ∧ ∀ g, ob = some g → B + 2 ≤ g ∧ g < H.size := by
  obtain ⟨ao, co, k1, k2, k3, k4⟩ := h
  exact ⟨k2.lt, fun g hg => ⟨k4 g hg, k3.lt g hg⟩⟩
theorem WSt.fn {w : World} {B : Nat} {out : List Nt} {ob : Option Nat} (h : WSt w.heap B out ob) : w.cell? ⟨B + 1, 0, none⟩ = some (.func (.func 111) #[] #[.pointer (some ⟨B, 0, none⟩), .pointer (some ⟨B + 1, 0, none⟩)]) := by
  obtain ⟨ao, co, k1, k2, k3, k4⟩ := h
  exact k2.cell 0
def NewOr (w : World) (ob ob' : Option Nat) : Prop := ob' = ob ∨ ∃ g, ob' = some g ∧ w.heap.size ≤ g
def WPost (w : World) (B : Nat) (ob : Option Nat) (out : List Nt) (e : Ending) (w' : World) : Prop := e = .returned (.tuple #[]) ∧ ∃ ob', WSt w'.heap B out ob' ∧ Fr (fun i => i = B ∨ ob = some i) w w' ∧ NewOr w ob ob'
theorem WPost.mk {w w' : World} {B : Nat} {ob ob' : Option Nat} {out out' : List Nt} {e : Ending} (he : e = .returned (.tuple #[])) (h : WSt w'.heap B out' ob') (ho : out' = out) (hF : Fr (fun i => i = B ∨ ob = some i) w w') (hN : NewOr w ob ob') : WPost w B ob out e w' := by subst ho; exact ⟨he, ob', h, hF, hN⟩
/-- One walk behind the other. -/
theorem walk_trans {w w1 w2 : World} {B : Nat} {ob ob1 ob2 : Option Nat} (h1 : Fr (fun i => i = B ∨ ob = some i) w w1) (n1 : NewOr w ob ob1) (h2 : Fr (fun i => i = B ∨ ob1 = some i) w1 w2) (n2 : NewOr w1 ob1 ob2) :
    Fr (fun i => i = B ∨ ob = some i) w w2 ∧ NewOr w ob ob2 := by
  refine ⟨h1.trans' h2 (fun i hi hs => ?_), ?_⟩
  · rcases hs with hs | hs
    · exact .inl hs
    · rcases n1 with n1 | ⟨g, n1, n3⟩
      · exact .inr (n1 ▸ hs)
      · rw [n1] at hs; cases hs; omega
  · have := h1.size
    rcases n2 with n2 | ⟨g, n2, n3⟩
    · subst n2; exact n1
    · exact .inr ⟨g, n2, by omega⟩
/-- One net more. -/
theorem WSt.push {w w6 : World} {B : Nat} {out : List Nt} {ob ob' : Option Nat} {a' : Option Addr} {c' : Nat} {x : Nt} (h : WSt w.heap B out ob) (z1 : Ownd w6.heap 37 2 a' (out.length + 1) c' (out.flatMap Nt.cells ++ Nt.cells x) ob') (z2 : Fr (fun k => ob = some k) w w6) (z3 : ob' = ob ∨ ∃ g, ob' = some g ∧ w.heap.size ≤ g) :
    WSt (w6.setCell ⟨B, 0, none⟩ (.slice a' (out.length + 1) c')).heap B (out ++ [x]) ob' ∧ Fr (fun i => i = B ∨ ob = some i) w (w6.setCell ⟨B, 0, none⟩ (.slice a' (out.length + 1) c')) := by
  have hl := h.lt
  obtain ⟨ao, co, k1, k2, k3, k4⟩ := h
  have hlen : (out ++ [x]).length = out.length + 1 := by simp
  have hob : ∀ g, ob' = some g → B + 2 ≤ g := fun g hg => by
    rcases z3 with z3 | ⟨g', z3, z4⟩
    · exact k4 g (z3 ▸ hg)
    · rw [z3] at hg; cases hg; omega
  refine ⟨⟨a', c', ?_, ?_, ?_, hob⟩, (z2.mono (fun i _ h => .inr h)).setCell (fun _ => .inl rfl) _⟩
  · rw [hlen]
    exact (k1.fr z2 (fun h => by have := k4 B h; omega)).set 0 _
  · exact (k2.fr z2 (fun h => by have := k4 _ h; omega)).other (p := ⟨B, 0, none⟩) (by simp) _
  · rw [hlen, List.flatMap_append]
    have := z1.other (p := ⟨B, 0, none⟩) (fun h => by have h2 : ob' = some B := h; have := hob B h2; omega) (.slice a' (out.length + 1) c')
    simpa using this
set_option maxRecDepth 100000 in
set_option maxHeartbeats 16000000 in
theorem walk_any {base bt : Nat} {N : Int → Nat → Option Nat} {C : List Nt} {V : Nt → Int} (B : Nat) : ∀ (f k : Nat) (a : Int) (out : List Nt) (ob : Option Nat) (w : World), 32 - k < f → k ≤ 32 → (0 ≤ a ∧ a < 4294967296) → cutA a k = a → IsTrie w.heap base bt N C V → (∀ j, Tof N j → j < B) → WSt w.heap B out ob → out.length + (subs C a k).length ≤ 64 →
    Calls Tryd.prog 111 #[ptrO (N a k), .agg #[.int .u32 a, .int .i64 k], .pointer (some ⟨B, 0, none⟩), .pointer (some ⟨B + 1, 0, none⟩)] w (WPost w B ob (out ++ subs C a k)) := by
  intro f
  induction f with
  | zero => intro k a out ob w hf; exact absurd hf (Nat.not_lt_zero _)
  | succ f ih =>
    intro k a out ob w hf hk ha hcut hT hB hW hlen
    cases hN : N a k with
    | none =>
      have HS := Lib.hid (show out = out ++ subs C a k by rw [hT.no_subs hN]; simp)
      have HW := Lib.hid (hW.fr0 ((Fr.refl (fun _ => False) w).alloc (.cells #[.int .u32 a, .int .i64 k] 37)))
      rw [show ptrO none = .pointer none from rfl]
      clear hT hB hW hN ih
      go_enter Tryd.func111, Tryd.ntmps111
      go_wp2
      go_end0
      exact WPost.mk rfl HW.out HS.out ((Fr.refl _ _).alloc _) (.inl rfl)
    | some b =>
      have IH := Lib.hid ih
      have HCUT := Lib.hid hcut
      have HT := Lib.hid hT
      have HB := Lib.hid hB
      have HLEN := Lib.hid hlen
      have hbB := hB b ⟨a, k, hN⟩
      obtain ⟨hBs, hobl⟩ := hW.lt
      have hB0 : B < w.heap.size := by omega
      obtain ⟨c0, -, -, -, -, cl⟩ := hT.cells hN
      have HNN := Lib.hid hN
      have HW0 := Lib.hid hW
      have hkx := Blk.made w 37 [.int .u32 a, .int .i64 k]
      rw [show ptrO (some b) = .pointer (some ⟨b, 0, none⟩) from rfl]
      clear ih hT hB hN hcut hlen
      by_cases hm : (⟨a, (k : Int)⟩ : Nt) ∈ C
      · rw [decide_eq_true hm] at c0
        have HH := Lib.hid (show hereL C ⟨a, (k : Int)⟩ = [⟨a, (k : Int)⟩] from if_pos hm)
        obtain ⟨ao, co, k1, k2, k3, k4⟩ := hW
        have b0 := k1.cell 0
        have f0 := k1.frozen 0
        simp only [List.getElem?_cons_zero] at b0
        have hO := (k3.alloc (.cells #[.int .u32 a, .int .i64 k] 37)).alloc (.cells #[.int .u32 a, .int .i64 k] 37)
        have hrd := rd_lit1 w (.cells #[.int .u32 a, .int .i64 k] 37) 37 [.int .u32 a, .int .i64 k]
        have hl1 := HLEN.out
        have hol : out.length ≤ 64 := by omega
        have HK1 := Lib.hid k1
        clear hm hl1 k1 k2 k3
        go_enter Tryd.func111, Tryd.ntmps111
        go_wp2_with (at_builtin; refine wpList_app rfl _ _ 65 rfl Tryd.underlying65 infoNt rfl (by decide) rfl rfl hO hrd (by simp [Value.oneCell']) (by omega) (by omega) ?_)
        intro a' c' w6 ob' z1 z2 z3
        obtain ⟨p1, p2⟩ := WSt.push (x := ⟨a, (k : Int)⟩) ((HW0.out.fr0 ((Fr.refl (fun _ => False) w).alloc (.cells #[.int .u32 a, .int .i64 k] 37))).fr0 ((Fr.refl _ _).alloc (.cells #[.int .u32 a, .int .i64 k] 37))) z1 z2 (by simpa using z3)
        have HWX := Lib.hid (show WSt (w6.setCell ⟨B, 0, none⟩ (.slice a' (out.length + 1) c')).heap B (out ++ hereL C ⟨a, (k : Int)⟩) ob' by rw [HH.out]; exact p1)
        have HFX := Lib.hid ((((Fr.refl (fun i => i = B ∨ ob = some i) w).alloc (.cells #[.int .u32 a, .int .i64 k] 37)).alloc (.cells #[.int .u32 a, .int .i64 k] 37)).trans p2)
        have HNX := Lib.hid (show NewOr w ob ob' by rcases z3 with z3 | ⟨g, z3, z4⟩; exact .inl z3; exact .inr ⟨g, z3, by omega⟩)
        have hk6 := ((hkx.alloc (.cells #[.int .u32 a, .int .i64 k] 37)).fr z2 (fun h => by have := (hobl _ h).2; omega)).other (p := ⟨B, 0, none⟩) (by show w.heap.size ≠ B; omega) (.slice a' (out.length + 1) c')
        have x0 := hk6.cell 0
        have x1 := hk6.cell 1
        have hk7 := ((HK1.out.alloc (.cells #[.int .u32 a, .int .i64 k] 37)).alloc (.cells #[.int .u32 a, .int .i64 k] 37)).fr z2 (fun h => by have := (hobl _ h).1; omega)
        have hB6 := hk7.cell 0
        have hfB6 := hk7.frozen 0
        simp only [List.getElem?_cons_zero] at hB6
        simp only [List.getElem?_cons_zero, List.getElem?_cons_succ] at x0 x1
        clear z1 z2 z3 p1 p2 hk6 hk7 b0 f0 hO hrd k4 hkx
        go_wp2_with (fail)
        refine (halves_any a k _ ha hk HCUT.out).mono ?_
        rintro e3 w3 ⟨rfl, hF3⟩
        have HW3 := Lib.hid (HWX.out.fr0 hF3)
        have HF3 := Lib.hid (HFX.out.trans (hF3.none _))
        clear x0 x1 hF3
        by_cases h32 : k = 32
        · rw [show halvesV a k = .tuple #[.agg #[.int .u32 0, .int .i64 0], .agg #[.int .u32 0, .int .i64 0], errv 2] from if_pos h32]
          have HS := Lib.hid (show out ++ hereL C ⟨a, (k : Int)⟩ = out ++ subs C a k by subst h32; rw [subs_deep HT.out.srt (fun x hx => (HT.out.mem x hx).1)]; rfl)
          clear h32
          go_wp2
          go_end0
          exact WPost.mk rfl ((HW3.out.fr0 ((Fr.refl (fun _ => False) w3).alloc (.cells #[.int .u32 0, .int .i64 0] 37))).fr0 ((Fr.refl _ _).alloc (.cells #[.int .u32 0, .int .i64 0] 37))) HS.out ((HF3.out.alloc _).alloc _) HNX.out
        · have hk2 : k < 32 := by omega
          rw [show halvesV a k = .tuple #[.agg #[.int .u32 a, .int .i64 ((k : Int) + 1)], .agg #[.int .u32 (a + 2 ^ (31 - k)), .int .i64 ((k : Int) + 1)], .nilIface] from if_neg h32]
          have hsp := subs_split HT.out.srt (fun x hx => (HT.out.mem x hx).1) hk2 HCUT.out
          have hsl := congrArg List.length hsp
          rw [List.length_append, List.length_append] at hsl
          have HSP := Lib.hid hsp
          obtain ⟨W7, hW7⟩ : ∃ W, W = (w3.alloc (.cells #[.int .u32 a, .int .i64 ((k : Int) + 1)] 37)).alloc (.cells #[.int .u32 (a + 2 ^ (31 - k)), .int .i64 ((k : Int) + 1)] 37) := ⟨_, rfl⟩
          have hF7 : Fr (fun _ => False) w3 W7 := by rw [hW7]; exact ((Fr.refl _ _).alloc _).alloc _
          have q1 : Blk W7.heap w3.heap.size 37 [.int .u32 a, .int .i64 ((k : Int) + 1)] := by rw [hW7]; exact (Blk.made w3 37 [.int .u32 a, .int .i64 ((k : Int) + 1)]).alloc _
          have q2 : Blk W7.heap (w3.heap.size + 1) 37 [.int .u32 (a + 2 ^ (31 - k)), .int .i64 ((k : Int) + 1)] := by
            rw [hW7]
            have := Blk.made (w3.alloc (.cells #[.int .u32 a, .int .i64 ((k : Int) + 1)] 37)) 37 [.int .u32 (a + 2 ^ (31 - k)), .int .i64 ((k : Int) + 1)]
            rwa [show (w3.alloc (.cells #[.int .u32 a, .int .i64 ((k : Int) + 1)] 37)).heap.size = w3.heap.size + 1 by simp] at this
          have hW7s := HW3.out.fr0 hF7
          have hFw7 := HF3.out.trans (hF7.none _)
          have hT7 := HT.out.fr hFw7 (fun j hj hs => by
            have h1 := HB.out j hj
            rcases hs with hs | hs
            · omega
            · have := (hobl _ hs).1; omega)
          obtain ⟨-, -, d2, -, -, dl⟩ := hT7.cells HNN.out
          have dfn := hW7s.fn
          have dls := hW7s.lt
          have dB1 : B + 1 < W7.heap.size := dls.1
          have q10 := q1.cell 0
          have q11 := q1.cell 1
          have ql1 := q1.lt
          simp only [List.getElem?_cons_zero, List.getElem?_cons_succ] at q10 q11
          have hlo := HLEN.out
          have hcall1 := IH.out (k + 1) a (out ++ hereL C ⟨a, (k : Int)⟩) ob' W7.drew (by omega) (by omega) ha (cut_low HCUT.out hk2) hT7 HB.out hW7s (by rw [List.length_append]; omega)
          rw [show ((k + 1 : Nat) : Int) = (k : Int) + 1 by omega] at hcall1
          obtain ⟨kd, hkd⟩ : ∃ v, v = ptrO (N a (k + 1)) := ⟨_, rfl⟩
          rw [← hkd] at d2 hcall1
          have HW7 := Lib.hid hW7s
          have HF7 := Lib.hid hFw7
          have HQ2 := Lib.hid q2
          have HL7 := Lib.hid (show B + 1 < w3.heap.size ∧ ∀ g, ob' = some g → g < w3.heap.size from ⟨HW3.out.lt.1, fun g hg => (HW3.out.lt.2 g hg).2⟩)
          have HLS := Lib.hid hsl
          clear h32 hsp hsl hF7 q1 q2 hW7s hFw7 hT7 dls hlo hkd HW3 HF3
          go_wp2
          rw [← hW7]
          clear hW7
          (refine wp_region_mix (fun _ => True) 7 (by kernel_rfl) (by kernel_rfl) (trivial) ?_; simp only [List.take_succ_cons, List.take_zero, List.drop_succ_cons, List.drop_zero])
          (refine wpMix_earlyN 7 (by kernel_rfl) (by kernel_rfl) ?_; simp only [List.take_succ_cons, List.take_zero, List.drop_succ_cons, List.drop_zero]; (repeat (go_big_quiet_step (fail))); refine wpQuiet_nil ?_)
          refine wpMix_nil ?_
          go_wp2_with (fail)
          refine hcall1.mono ?_
          rintro e4 w8 ⟨rfl, ob2, hW8, hF8, hn8⟩
          have hF8 : Fr (fun i => i = B ∨ ob' = some i) W7 w8 := (Fr.refl _ W7).drew.trans hF8
          have hFw8 := walk_trans HF7.out HNX.out hF8 hn8
          have hT8 := HT.out.fr hFw8.1 (fun j hj hs => by
            have h1 := HB.out j hj
            rcases hs with hs | hs
            · omega
            · have := (hobl _ hs).1; omega)
          obtain ⟨-, -, -, d3, -, dl8⟩ := hT8.cells HNN.out
          have dfn8 := hW8.fn
          have dB8 := hW8.lt.1
          have q8 := HQ2.out.fr hF8 (fun hs => by
            have h1 := HL7.out
            rcases hs with hs | hs
            · omega
            · have := h1.2 _ hs; omega)
          have q20 := q8.cell 0
          have q21 := q8.cell 1
          have ql2 := q8.lt
          simp only [List.getElem?_cons_zero, List.getElem?_cons_succ] at q20 q21
          have hhi := cut_high HCUT.out hk2
          have hsl := HLS.out
          have hlo := HLEN.out
          have hbd := high_bd ha hk2 HCUT.out
          have hcall2 := IH.out (k + 1) (a + 2 ^ (31 - k)) (out ++ hereL C ⟨a, (k : Int)⟩ ++ subs C a (k + 1)) ob2 w8.drew (by omega) (by omega) hbd hhi.1 hT8 HB.out hW8 (by rw [List.length_append, List.length_append]; omega)
          rw [show ((k + 1 : Nat) : Int) = (k : Int) + 1 by omega] at hcall2
          obtain ⟨kd, hkd⟩ : ∃ v, v = ptrO (N (a + 2 ^ (31 - k)) (k + 1)) := ⟨_, rfl⟩
          rw [← hkd] at d3 hcall2
          have HF8 := Lib.hid hFw8
          clear hcall1 hsl hlo hhi hbd hkd hT8 q8 hW8 hF8 hFw8 hn8 d2 dl dfn dB1 q10 q11 ql1
          go_wp2
          (refine wp_region_mix (fun _ => True) 7 (by kernel_rfl) (by kernel_rfl) (trivial) ?_; simp only [List.take_succ_cons, List.take_zero, List.drop_succ_cons, List.drop_zero])
          (refine wpMix_earlyN 7 (by kernel_rfl) (by kernel_rfl) ?_; simp only [List.take_succ_cons, List.take_zero, List.drop_succ_cons, List.drop_zero]; (repeat (go_big_quiet_step (fail))); refine wpQuiet_nil ?_)
          refine wpMix_nil ?_
          go_wp2_with (fail)
          refine hcall2.mono ?_
          rintro e9 w9 ⟨rfl, ob3, hW9, hF9, hn9⟩
          have hF9 : Fr (fun i => i = B ∨ ob2 = some i) w8 w9 := (Fr.refl _ w8).drew.trans hF9
          have hFw9 := walk_trans HF8.out.1 HF8.out.2 hF9 hn9
          have HW9 := Lib.hid hW9
          have HF9 := Lib.hid hFw9
          clear hcall2 hW9 hF9 hFw9 hn9
          go_wp2
          go_end0
          exact WPost.mk rfl HW9.out (by rw [HSP.out]; simp) HF9.out.1 HF9.out.2
      · rw [decide_eq_false hm] at c0
        have HH := Lib.hid (show hereL C ⟨a, (k : Int)⟩ = [] from if_neg hm)
        have HWX := Lib.hid (show WSt (w.alloc (.cells #[.int .u32 a, .int .i64 k] 37)).heap B (out ++ hereL C ⟨a, (k : Int)⟩) ob by rw [HH.out, List.append_nil]; exact hW.fr0 ((Fr.refl (fun _ => False) w).alloc _))
        have HFX := Lib.hid ((Fr.refl (fun i => i = B ∨ ob = some i) w).alloc (.cells #[.int .u32 a, .int .i64 k] 37))
        have HNX := Lib.hid (show NewOr w ob ob from .inl rfl)
        have x0 := hkx.cell 0
        have x1 := hkx.cell 1
        simp only [List.getElem?_cons_zero, List.getElem?_cons_succ] at x0 x1
        clear hm hW hkx
        go_enter Tryd.func111, Tryd.ntmps111
        go_wp2_with (fail)
        refine (halves_any a k _ ha hk HCUT.out).mono ?_
        rintro e3 w3 ⟨rfl, hF3⟩
        have HW3 := Lib.hid (HWX.out.fr0 hF3)
        have HF3 := Lib.hid (HFX.out.trans (hF3.none _))
        clear x0 x1 hF3
        by_cases h32 : k = 32
        · rw [show halvesV a k = .tuple #[.agg #[.int .u32 0, .int .i64 0], .agg #[.int .u32 0, .int .i64 0], errv 2] from if_pos h32]
          have HS := Lib.hid (show out ++ hereL C ⟨a, (k : Int)⟩ = out ++ subs C a k by subst h32; rw [subs_deep HT.out.srt (fun x hx => (HT.out.mem x hx).1)]; rfl)
          clear h32
          go_wp2
          go_end0
          exact WPost.mk rfl ((HW3.out.fr0 ((Fr.refl (fun _ => False) w3).alloc (.cells #[.int .u32 0, .int .i64 0] 37))).fr0 ((Fr.refl _ _).alloc (.cells #[.int .u32 0, .int .i64 0] 37))) HS.out ((HF3.out.alloc _).alloc _) HNX.out
        · have hk2 : k < 32 := by omega
          rw [show halvesV a k = .tuple #[.agg #[.int .u32 a, .int .i64 ((k : Int) + 1)], .agg #[.int .u32 (a + 2 ^ (31 - k)), .int .i64 ((k : Int) + 1)], .nilIface] from if_neg h32]
          have hsp := subs_split HT.out.srt (fun x hx => (HT.out.mem x hx).1) hk2 HCUT.out
          have hsl := congrArg List.length hsp
          rw [List.length_append, List.length_append] at hsl
          have HSP := Lib.hid hsp
          obtain ⟨W7, hW7⟩ : ∃ W, W = (w3.alloc (.cells #[.int .u32 a, .int .i64 ((k : Int) + 1)] 37)).alloc (.cells #[.int .u32 (a + 2 ^ (31 - k)), .int .i64 ((k : Int) + 1)] 37) := ⟨_, rfl⟩
          have hF7 : Fr (fun _ => False) w3 W7 := by rw [hW7]; exact ((Fr.refl _ _).alloc _).alloc _
          have q1 : Blk W7.heap w3.heap.size 37 [.int .u32 a, .int .i64 ((k : Int) + 1)] := by rw [hW7]; exact (Blk.made w3 37 [.int .u32 a, .int .i64 ((k : Int) + 1)]).alloc _
          have q2 : Blk W7.heap (w3.heap.size + 1) 37 [.int .u32 (a + 2 ^ (31 - k)), .int .i64 ((k : Int) + 1)] := by
            rw [hW7]
            have := Blk.made (w3.alloc (.cells #[.int .u32 a, .int .i64 ((k : Int) + 1)] 37)) 37 [.int .u32 (a + 2 ^ (31 - k)), .int .i64 ((k : Int) + 1)]
            rwa [show (w3.alloc (.cells #[.int .u32 a, .int .i64 ((k : Int) + 1)] 37)).heap.size = w3.heap.size + 1 by simp] at this
          have hW7s := HW3.out.fr0 hF7
          have hFw7 := HF3.out.trans (hF7.none _)
          have hT7 := HT.out.fr hFw7 (fun j hj hs => by
            have h1 := HB.out j hj
            rcases hs with hs | hs
            · omega
            · have := (hobl _ hs).1; omega)
          obtain ⟨-, -, d2, -, -, dl⟩ := hT7.cells HNN.out
          have dfn := hW7s.fn
          have dls := hW7s.lt
          have dB1 : B + 1 < W7.heap.size := dls.1
          have q10 := q1.cell 0
          have q11 := q1.cell 1
          have ql1 := q1.lt
          simp only [List.getElem?_cons_zero, List.getElem?_cons_succ] at q10 q11
          have hlo := HLEN.out
          have hcall1 := IH.out (k + 1) a (out ++ hereL C ⟨a, (k : Int)⟩) ob W7.drew (by omega) (by omega) ha (cut_low HCUT.out hk2) hT7 HB.out hW7s (by rw [List.length_append]; omega)
          rw [show ((k + 1 : Nat) : Int) = (k : Int) + 1 by omega] at hcall1
          obtain ⟨kd, hkd⟩ : ∃ v, v = ptrO (N a (k + 1)) := ⟨_, rfl⟩
          rw [← hkd] at d2 hcall1
          have HW7 := Lib.hid hW7s
          have HF7 := Lib.hid hFw7
          have HQ2 := Lib.hid q2
          have HL7 := Lib.hid (show B + 1 < w3.heap.size ∧ ∀ g, ob = some g → g < w3.heap.size from ⟨HW3.out.lt.1, fun g hg => (HW3.out.lt.2 g hg).2⟩)
          have HLS := Lib.hid hsl
          clear h32 hsp hsl hF7 q1 q2 hW7s hFw7 hT7 dls hlo hkd HW3 HF3
          go_wp2
          rw [← hW7]
          clear hW7
          (refine wp_region_mix (fun _ => True) 7 (by kernel_rfl) (by kernel_rfl) (trivial) ?_; simp only [List.take_succ_cons, List.take_zero, List.drop_succ_cons, List.drop_zero])
          (refine wpMix_earlyN 7 (by kernel_rfl) (by kernel_rfl) ?_; simp only [List.take_succ_cons, List.take_zero, List.drop_succ_cons, List.drop_zero]; (repeat (go_big_quiet_step (fail))); refine wpQuiet_nil ?_)
          refine wpMix_nil ?_
          go_wp2_with (fail)
          refine hcall1.mono ?_
          rintro e4 w8 ⟨rfl, ob2, hW8, hF8, hn8⟩
          have hF8 : Fr (fun i => i = B ∨ ob = some i) W7 w8 := (Fr.refl _ W7).drew.trans hF8
          have hFw8 := walk_trans HF7.out HNX.out hF8 hn8
          have hT8 := HT.out.fr hFw8.1 (fun j hj hs => by
            have h1 := HB.out j hj
            rcases hs with hs | hs
            · omega
            · have := (hobl _ hs).1; omega)
          obtain ⟨-, -, -, d3, -, dl8⟩ := hT8.cells HNN.out
          have dfn8 := hW8.fn
          have dB8 := hW8.lt.1
          have q8 := HQ2.out.fr hF8 (fun hs => by
            have h1 := HL7.out
            rcases hs with hs | hs
            · omega
            · have := h1.2 _ hs; omega)
          have q20 := q8.cell 0
          have q21 := q8.cell 1
          have ql2 := q8.lt
          simp only [List.getElem?_cons_zero, List.getElem?_cons_succ] at q20 q21
          have hhi := cut_high HCUT.out hk2
          have hsl := HLS.out
          have hlo := HLEN.out
          have hbd := high_bd ha hk2 HCUT.out
          have hcall2 := IH.out (k + 1) (a + 2 ^ (31 - k)) (out ++ hereL C ⟨a, (k : Int)⟩ ++ subs C a (k + 1)) ob2 w8.drew (by omega) (by omega) hbd hhi.1 hT8 HB.out hW8 (by rw [List.length_append, List.length_append]; omega)
          rw [show ((k + 1 : Nat) : Int) = (k : Int) + 1 by omega] at hcall2
          obtain ⟨kd, hkd⟩ : ∃ v, v = ptrO (N (a + 2 ^ (31 - k)) (k + 1)) := ⟨_, rfl⟩
          rw [← hkd] at d3 hcall2
          have HF8 := Lib.hid hFw8
          clear hcall1 hsl hlo hhi hbd hkd hT8 q8 hW8 hF8 hFw8 hn8 d2 dl dfn dB1 q10 q11 ql1
          go_wp2
          (refine wp_region_mix (fun _ => True) 7 (by kernel_rfl) (by kernel_rfl) (trivial) ?_; simp only [List.take_succ_cons, List.take_zero, List.drop_succ_cons, List.drop_zero])
          (refine wpMix_earlyN 7 (by kernel_rfl) (by kernel_rfl) ?_; simp only [List.take_succ_cons, List.take_zero, List.drop_succ_cons, List.drop_zero]; (repeat (go_big_quiet_step (fail))); refine wpQuiet_nil ?_)
          refine wpMix_nil ?_
          go_wp2_with (fail)
          refine hcall2.mono ?_
          rintro e9 w9 ⟨rfl, ob3, hW9, hF9, hn9⟩
          have hF9 : Fr (fun i => i = B ∨ ob2 = some i) w8 w9 := (Fr.refl _ w8).drew.trans hF9
          have hFw9 := walk_trans HF8.out.1 HF8.out.2 hF9 hn9
          have HW9 := Lib.hid hW9
          have HF9 := Lib.hid hFw9
          clear hcall2 hW9 hF9 hFw9 hn9
          go_wp2
          go_end0
          exact WPost.mk rfl HW9.out (by rw [HSP.out]; simp) HF9.out.1 HF9.out.2
set_option maxRecDepth 100000 in
set_option maxHeartbeats 8000000 in
theorem list_any {base bt : Nat} {N : Int → Nat → Option Nat} {C : List Nt} {V : Nt → Int} (w : World) (hT : IsTrie w.heap base bt N C V) :
    Calls Tryd.prog 64 #[.pointer (some ⟨bt, 0, none⟩)] w (RetNew w 37 2 C.length (C.flatMap Nt.cells) id) := by
  obtain ⟨W, hW⟩ : ∃ W, W = (w.alloc (.cells #[.slice none 0 0] 65)).alloc (.cells #[.func (.func 111) #[] #[.pointer (some ⟨w.heap.size, 0, none⟩), .pointer (some ⟨w.heap.size + 1, 0, none⟩)]] 193) := ⟨_, rfl⟩
  have hFW : Fr (fun _ => False) w W := by rw [hW]; exact ((Fr.refl _ _).alloc _).alloc _
  have k0 : Blk W.heap w.heap.size 65 [.slice none 0 0] := by rw [hW]; exact (Blk.made w 65 [.slice none 0 0]).alloc _
  have k1 : Blk W.heap (w.heap.size + 1) 193 [.func (.func 111) #[] #[.pointer (some ⟨w.heap.size, 0, none⟩), .pointer (some ⟨w.heap.size + 1, 0, none⟩)]] := by
    rw [hW]
    have := Blk.made (w.alloc (.cells #[.slice none 0 0] 65)) 193 [.func (.func 111) #[] #[.pointer (some ⟨w.heap.size, 0, none⟩), .pointer (some ⟨w.heap.size + 1, 0, none⟩)]]
    rwa [show (w.alloc (.cells #[.slice none 0 0] 65)).heap.size = w.heap.size + 1 by simp] at this
  have hWS : WSt W.heap w.heap.size [] none := ⟨none, 0, k0, k1, Ownd.nil _ _ _, fun _ h => nomatch h⟩
  have hok : ∀ x ∈ C, NtOk x := fun x hx => (hT.mem x hx).1
  have hlen := hT.len
  have hcall := walk_any w.heap.size 33 0 0 [] none W.drew (by omega) (by omega) (by omega) (cutA_zero (by omega)) (hT.fr0 hFW.drew) hT.lt hWS (by rw [subs_top hok]; simpa using hlen)
  rw [hT.top, subs_top hok, show ptrO (some bt) = .pointer (some ⟨bt, 0, none⟩) from rfl, List.nil_append] at hcall
  have hbt := hT.lt bt ⟨0, 0, hT.top⟩
  have d1 := k1.cell 0
  have dl1 := k1.lt
  simp only [List.getElem?_cons_zero] at d1
  clear hT hok hlen hWS k0 k1
  go_enter Tryd.func64, Tryd.ntmps64
  go_wp2
  rw [← hW]
  clear hW
  (refine wp_region_mix (fun _ => True) 5 (by kernel_rfl) (by kernel_rfl) (trivial) ?_; simp only [List.take_succ_cons, List.take_zero, List.drop_succ_cons, List.drop_zero])
  (refine wpMix_earlyN 5 (by kernel_rfl) (by kernel_rfl) ?_; simp only [List.take_succ_cons, List.take_zero, List.drop_succ_cons, List.drop_zero]; (repeat (go_big_quiet_step (fail))); refine wpQuiet_nil ?_)
  refine wpMix_nil ?_
  go_wp2_with (fail)
  refine hcall.mono ?_
  rintro e1 w1 ⟨rfl, ob, hWS, hF, hN⟩
  have hF1 : Fr (fun _ => False) w w1 := hFW.drew.trans' hF (fun i hi h => by rcases h with h | h; omega; cases h)
  obtain ⟨ao, co, k1, k2, k3, k4⟩ := hWS
  have b0 := k1.cell 0
  simp only [List.getElem?_cons_zero] at b0
  clear hcall hF hFW d1 k1 k2
  go_wp2
  go_ret
  exact ⟨ao, co, ob, rfl, k3, hF1, fun g hg => by have := k4 g hg; omega⟩
end Go.Proofs.YtfjempfffdeklaaDoor
