import Derived.Test.YtbmeeglehbaggaaGaoChk
namespace Go.Proofs.Ytbmeeglehbaggaa
open Go.RowKit

theorem any_upto {n : Nat} (p : Nat → Bool) {k : Nat} (hk : k < n) (h : p k = true) : (List.range n).any p = true := List.any_eq_true.2 ⟨k, List.mem_range.2 hk, h⟩
theorem any_none {n : Nat} (p : Nat → Bool) (h : ∀ k, k < n → p k = false) : (List.range n).any p = false := by
  rw [List.any_eq_false]; intro k hk; rw [h k (List.mem_range.1 hk)]; simp
/-- Is there one? -/
def AnyPost (w : World) (b : Bool) (e : Ending) (w' : World) : Prop := ∃ i : Int, e = .returned (.int .i64 i) ∧ w' = w ∧ decide (i ≥ 0) = b
set_option maxRecDepth 100000 in
set_option maxHeartbeats 1000000 in
theorem idxOpen_any {n : Nat} (p : Nat → Bool) (a : Option Addr) (c bw bi bd : Nat) (w : World) (hL : Ints w.heap a (iotaL n)) (hn : n ≤ 8)
    (hp : ∀ k : Nat, k < n → Calls Try.prog 69 #[.int .i64 k, .pointer (some ⟨bw, 0, none⟩), .pointer (some ⟨bi, 0, none⟩), .pointer (some ⟨bd, 0, none⟩)] w (RetS w (.bool (p k)))) :
    Calls Try.prog 87 #[.slice a n c, .func (.func 69) #[] #[.pointer (some ⟨bw, 0, none⟩), .pointer (some ⟨bi, 0, none⟩), .pointer (some ⟨bd, 0, none⟩)]] w (AnyPost w ((List.range n).any p)) := by
  have HP := Lib.hid hp
  obtain ⟨B, hB⟩ : ∃ B, B = (List.range n).any p := ⟨_, rfl⟩
  rw [← hB]
  have HB := Lib.hid hB
  clear hp hB
  go_enter Try.func87, Try.ntmps87
  go_wp2
  go_loopw [8] (fun s8 wr => ∃ (k : Nat), k ≤ n ∧ s8 = .int .i64 k ∧ wr = w ∧ Hid (∀ j, j < k → p j = false)) (fun s _ => n - (intOf s).toNat)
  case atStart => exact ⟨0, by omega, rfl, rfl, Lib.hid (fun j hj => absurd hj (Nat.not_lt_zero _))⟩
  case round =>
    obtain ⟨k, hk, rfl, rfl, hE⟩ := hrel
    by_cases hkl : k < n
    · obtain ⟨b, off, rfl, hbb, hc⟩ := Ints.pos hL (by rw [iotaL_len]; omega)
      have d0 := hc wr rfl k (by rw [iotaL_len]; exact hkl)
      rw [iotaL_nth hkl] at d0
      have hcc := HP.out k hkl
      clear hc
      go_wp2_with (fail)
      refine hcc.mono ?_
      rintro e1 w1 ⟨rfl, rfl⟩
      clear hcc
      cases hpx : p k with
      | false =>
        have HPX := Lib.hid hpx
        clear hpx
        go_wp2
        go_roundw
        case rel => exact ⟨k + 1, by omega, by go_num, by first | trivial | rfl, Lib.hid (fun j hj => by
          rcases Nat.lt_succ_iff_lt_or_eq.1 hj with h | h
          · exact hE.out j h
          · subst h; exact HPX.out)⟩
        case measure => simp [intOf]; omega
      | true =>
        have HPX := Lib.hid (show B = true by rw [HB.out]; exact any_upto p hkl hpx)
        clear hpx
        go_wp2
        go_ret
        exact ⟨k, rfl, rfl, by rw [HPX.out]; simp⟩
    · obtain rfl : k = n := by omega
      have HPX := Lib.hid (show B = false by rw [HB.out]; exact any_none p hE.out)
      go_wp2
      go_ret
      exact ⟨-1, rfl, rfl, by rw [HPX.out]; simp⟩
set_option maxHeartbeats 1000000 in
theorem conOpen_any {n : Nat} (p : Nat → Bool) (a : Option Addr) (c bw bi bd : Nat) (w : World) (hL : Ints w.heap a (iotaL n)) (hn : n ≤ 8)
    (hp : ∀ k : Nat, k < n → Calls Try.prog 69 #[.int .i64 k, .pointer (some ⟨bw, 0, none⟩), .pointer (some ⟨bi, 0, none⟩), .pointer (some ⟨bd, 0, none⟩)] w (RetS w (.bool (p k)))) :
    Calls Try.prog 70 #[.slice a n c, .func (.func 69) #[] #[.pointer (some ⟨bw, 0, none⟩), .pointer (some ⟨bi, 0, none⟩), .pointer (some ⟨bd, 0, none⟩)]] w (RetS w (.bool ((List.range n).any p))) := by
  have hf := idxOpen_any p a c bw bi bd w hL hn hp
  generalize (List.range n).any p = B at *
  clear hL hp
  go_enter Try.func70, Try.ntmps70
  go_wp2_with (fail)
  refine hf.mono ?_
  rintro e1 w1 ⟨i, rfl, rfl, hi⟩
  have HI := Lib.hid hi
  clear hf hi
  go_wp2
  go_ret
  exact RetS.mk (x := .bool (decide (i ≥ 0))) (by rw [HI.out]) rfl rfl
set_option maxHeartbeats 1000000 in
/-- Is one of these of the same two nodes? -/
theorem conTwin_any {n : Nat} (x : Lk) (l : List Lk) (a : Option Addr) (c b6 : Nat) (w : World) (hL : Links w.heap a l) (hn : l.length = n) (hl : n ≤ 9223372036854775806) (hB : Blk w.heap b6 132 (Lk.cells x)) :
    Calls Try.prog 67 #[.slice a n c, .func (.func 68) #[] #[.pointer (some ⟨b6, 0, none⟩)]] w (RetV w (.bool (decide (∃ y ∈ l, twinB x y = true)))) := by
  have hf := ddeal_idx l (twinB x) a c b6 w hL hn hl (fun y _ w' hF => chk1_any x y b6 w' (hB.fr hF (fun h => h)))
  have HN := Lib.hid hn
  clear hL hB hn
  go_enter Try.func67, Try.ntmps67
  go_wp2_with (fail)
  refine hf.mono ?_
  rintro e1 w1 ⟨i, rfl, hF1, hi⟩
  have HI : Hid (decide (i ≥ 0) = decide (∃ y ∈ l, twinB x y = true)) := Lib.hid (by
    rcases hi with ⟨k, hk, rfl, h1, -⟩ | ⟨rfl, h1⟩
    · rw [decide_eq_true (by omega), decide_eq_true ⟨_, nth_mem l k hk, h1⟩]
    · rw [decide_eq_false (by omega), decide_eq_false]
      rintro ⟨y, hy, h2⟩
      obtain ⟨j, hj, rfl⟩ := List.mem_iff_getElem.1 hy
      rw [← nth_eq l j hj, h1 j hj] at h2
      cases h2)
  clear hf hi
  go_wp2
  go_ret
  exact RetV.mk (x := .bool (decide (i ≥ 0))) (by rw [HI.out]) rfl hF1
set_option maxRecDepth 100000 in
set_option maxHeartbeats 1000000 in
theorem idxFalse_any {n : Nat} (D : List Bool) (g c : Nat) (w : World) (hD : Blk w.heap g 4 (bvals D)) (hn : D.length = n) (hl : n ≤ 8) :
    Calls Try.prog 88 #[.slice (some ⟨g, 0, none⟩) n c, .bool false] w (AnyPost w (decide (false ∈ D))) := by
  obtain ⟨B, hB⟩ : ∃ B, B = decide (false ∈ D) := ⟨_, rfl⟩
  rw [← hB]
  have HB := Lib.hid hB
  have HN := Lib.hid hn
  have hlt := hD.lt
  clear hB hn
  go_enter Try.func88, Try.ntmps88
  go_wp2
  go_loopw [8] (fun s8 wr => ∃ (k : Nat), k ≤ n ∧ s8 = .int .i64 k ∧ wr = w ∧ Hid (∀ j, j < k → nth D j = true)) (fun s _ => n - (intOf s).toNat)
  case atStart => exact ⟨0, by omega, rfl, rfl, Lib.hid (fun j hj => absurd hj (Nat.not_lt_zero _))⟩
  case round =>
    obtain ⟨k, hk, rfl, rfl, hE⟩ := hrel
    by_cases hkl : k < n
    · have d0 := (hD.cell k).trans (bvals_get D k (by rw [HN.out]; exact hkl))
      cases hpx : nth D k with
      | true =>
        rw [hpx] at d0
        have HPX := Lib.hid hpx
        clear hpx
        go_wp2
        go_roundw
        case rel => exact ⟨k + 1, by omega, by go_num, by first | trivial | rfl, Lib.hid (fun j hj => by
          rcases Nat.lt_succ_iff_lt_or_eq.1 hj with h | h
          · exact hE.out j h
          · subst h; exact HPX.out)⟩
        case measure => simp [intOf]; omega
      | false =>
        rw [hpx] at d0
        have HPX := Lib.hid (show B = true by rw [HB.out]; exact decide_eq_true (hpx ▸ nth_mem D k (by rw [HN.out]; exact hkl)))
        clear hpx
        go_wp2
        go_ret
        exact ⟨k, rfl, rfl, by rw [HPX.out]; simp⟩
    · obtain rfl : k = n := by omega
      have HPX := Lib.hid (show B = false by
        rw [HB.out]; refine decide_eq_false (fun hm => ?_)
        obtain ⟨j, hj, h2⟩ := List.mem_iff_getElem.1 hm
        have h3 := hE.out j (by have := HN.out; omega)
        rw [nth_eq D j hj, h2] at h3
        cases h3)
      go_wp2
      go_ret
      exact ⟨-1, rfl, rfl, by rw [HPX.out]; simp⟩
set_option maxHeartbeats 1000000 in
theorem conFalse_any {n : Nat} (D : List Bool) (g c : Nat) (w : World) (hD : Blk w.heap g 4 (bvals D)) (hn : D.length = n) (hl : n ≤ 8) :
    Calls Try.prog 72 #[.slice (some ⟨g, 0, none⟩) n c, .bool false] w (RetS w (.bool (decide (false ∈ D)))) := by
  have hf := idxFalse_any D g c w hD hn hl
  generalize decide (false ∈ D) = B at *
  clear hD
  go_enter Try.func72, Try.ntmps72
  go_wp2_with (fail)
  refine hf.mono ?_
  rintro e1 w1 ⟨i, rfl, rfl, hi⟩
  have HI := Lib.hid hi
  clear hf hi
  go_wp2
  go_ret
  exact RetS.mk (x := .bool (decide (i ≥ 0))) (by rw [HI.out]) rfl rfl
end Go.Proofs.Ytbmeeglehbaggaa
