import Derived.Test.YtfjempfffdeklaaDoorLineMath
import Derived.Test.YtfjempfffdeklaaDoorSl
import Derived.Test.YtfjempfffdeklaaDoorInsLib
namespace Go.Proofs.YtfjempfffdeklaaDoor
open Go.RowKit

theorem infoTh : (Tryd.prog.info? 154).map (fun i => (i.zero, i.size, i.bytes)) = some (some (.agg #[.int .i64 0, .int .i64 0]), 2, 16) := by kernel_rfl
theorem th_one (l : List Th) : ∀ u ∈ l.flatMap Th.cells, u.oneCell' = true := fun u hu => by
  obtain ⟨x, _, hx⟩ := List.mem_flatMap.1 hu
  simp at hx
  rcases hx with rfl | rfl <;> rfl
theorem th_splice (L K : List Th) (m : Nat) (_h : m + K.length ≤ L.length) : splice (L.flatMap Th.cells) (m * 2) (K.flatMap Th.cells) = (L.take m ++ K ++ L.drop (m + K.length)).flatMap Th.cells := by
  unfold splice
  rw [flat_take Th.cells 2 Th.cells_len, flat_len Th.cells 2 Th.cells_len, ← Nat.add_mul, flat_drop Th.cells 2 Th.cells_len, List.flatMap_append, List.flatMap_append, List.append_assoc]
set_option maxRecDepth 100000 in
set_option maxHeartbeats 1000000 in
/-- slices.Repeat of one thought. -/
theorem repeat_th (x : Th) (ax : Option Addr) (cx n : Nat) (w : World) (hr : Rd w.heap ax 1 2 (Th.cells x)) (hn : 1 ≤ n) (hn2 : n ≤ 65535) :
    Calls Tryd.prog 88 #[.slice ax 1 cx, .int .i64 n] w (RetNew w 154 2 n ((List.replicate n x).flatMap Th.cells) id) := by
  obtain ⟨b, off, rfl, hb, hc⟩ := hr.pos (by omega)
  have hc0 : ∀ w' : World, w'.heap = w.heap → w'.cell? ⟨b, off, none⟩ = some (.int .i64 x.f) := fun w' h => (hc w' h 0 (by omega)).trans rfl
  have hc1 : ∀ w' : World, w'.heap = w.heap → w'.cell? ⟨b, off + 1, none⟩ = some (.int .i64 x.x) := fun w' h => (hc w' h 1 (by omega)).trans rfl
  clear hc
  go_enter Tryd.func88, Tryd.ntmps88
  go_wp2_with (first | (go_at_call 120; refine (mul_any _ _ _ (by omega) (by omega) (by omega) (by omega)).mono ?_; rintro e w' ⟨rfl, rfl⟩) | (at_make; refine wpList_mk rfl _ _ 151 rfl Tryd.underlying151 infoTh rfl n rfl rfl (by omega) (by omega) (by omega) (by omega) ?_))
  intro w1 hB F1 hlt
  have hB : Blk w1.heap w.heap.size 154 ((List.replicate n (⟨0, 0⟩ : Th)).flatMap Th.cells) := by
    refine hB.eq ?_
    simp [List.flatMap]
  have k0 : w1.cell? ⟨b, off, none⟩ = some (.int .i64 x.f) := by rw [F1.cell (p := ⟨b, off, none⟩) hb (by simp)]; exact hc0 w rfl
  have k1 : w1.cell? ⟨b, off + 1, none⟩ = some (.int .i64 x.x) := by rw [F1.cell (p := ⟨b, off + 1, none⟩) hb (by simp)]; exact hc1 w rfl
  go_wp2_with (with_reducible refine wpList_cpy rfl (.tmp 31) (.tmp 32) 151 151 rfl Tryd.underlying151 infoTh rfl rfl (g := w.heap.size) (off := 0) hB (cs := Th.cells x) ?a1 ?a5)
  case a1 =>
    unfold CpySide
    refine And.intro ?_ (And.intro ?_ (And.intro ?_ ?_))
    · simp; omega
    · intro _
      refine ⟨rfl, _, rfl, ?_⟩
      intro j v hj
      match j, hj with
      | 0, hj => simp at hj; subst hj; simpa [Addr.add] using k0
      | 1, hj => simp at hj; subst hj; simpa [Addr.add] using k1
    · rw [flat_len Th.cells 2 Th.cells_len]; simp; omega
    · intro v hv; simp at hv; rcases hv with rfl | rfl <;> rfl
  case a5 =>
    intro w2 hB2 F2 hs2
    have hs0 : splice ((List.replicate n (⟨0, 0⟩ : Th)).flatMap Th.cells) 0 (Th.cells x) = (List.replicate 1 x ++ List.replicate (n - 1) (⟨0, 0⟩ : Th)).flatMap Th.cells := by
      have := th_splice (List.replicate n (⟨0, 0⟩ : Th)) [x] 0 (by simp; omega)
      simpa using this
    rw [hs0] at hB2
    have F12 : Fr (fun _ => False) w w2 := F1.trans' F2 (fun i hi h => by omega)
    clear hs0 F1 F2 hB k0 k1 hc0 hc1 hs2 hlt
    go_wp2
    go_loopw [8] (fun t wr => ∃ m : Nat, 1 ≤ m ∧ m ≤ n ∧ t = .int .i64 m ∧ Blk wr.heap w.heap.size 154 ((List.replicate m x ++ List.replicate (n - m) (⟨0, 0⟩ : Th)).flatMap Th.cells) ∧ Fr (fun _ => False) w wr) (fun t _ => n - (intOf t).toNat)
    case atStart => exact ⟨1, by omega, by omega, rfl, hB2, F12⟩
    case round =>
      obtain ⟨m, hm1, hm2, rfl, hBr, hFr⟩ := hrel
      by_cases hlt : m < n
      · go_wp2
        (refine wp_region_mix (fun _ => True) 8 (by kernel_rfl) (by kernel_rfl) (trivial) ?_; simp only [List.take_succ_cons, List.take_zero, List.drop_succ_cons, List.drop_zero])
        (refine wpMix_lateN 7 (trivial) (by kernel_rfl) ?_; simp only [List.take_succ_cons, List.take_zero, List.drop_succ_cons, List.drop_zero]; (repeat (go_big_quiet_step (fail))); refine wpQuiet_nil ?_)
        refine wpMix_eff (by kernel_rfl) ?_
        have hBd : Blk wr.drew.heap w.heap.size 154 ((List.replicate m x ++ List.replicate (n - m) (⟨0, 0⟩ : Th)).flatMap Th.cells) := hBr
        have hlen : ((List.replicate (min m (n - m)) x).flatMap Th.cells).length = min m (n - m) * 2 := by rw [flat_len Th.cells 2 Th.cells_len]; simp
        with_reducible refine wpList_cpy rfl (.tmp 41) (.tmp 44) 151 151 rfl Tryd.underlying151 infoTh rfl rfl (g := w.heap.size) (off := m * 2) hBd (cs := (List.replicate (min m (n - m)) x).flatMap Th.cells) ?b1 ?b5
        case b1 =>
          unfold CpySide
          refine And.intro ?_ (And.intro ?_ (And.intro ?_ ?_))
          · exact hlen
          · intro h0
            rw [hlen] at h0
            refine ⟨rfl, _, rfl, ?_⟩
            intro j v hj
            rw [Addr.add_lit, hBd.cell]
            have hj' := (List.getElem?_eq_some_iff.1 hj).1
            rw [hlen] at hj'
            have e : (List.replicate (min m (n - m)) x).flatMap Th.cells = (((List.replicate m x ++ List.replicate (n - m) (⟨0, 0⟩ : Th)).flatMap Th.cells)).take (min m (n - m) * 2) := by
              rw [flat_take Th.cells 2 Th.cells_len, List.take_append_of_le_length (by simp; omega), List.take_replicate, show min (min m (n - m)) m = min m (n - m) by omega]
            rw [e, List.getElem?_take, if_pos (by omega)] at hj
            rw [Nat.zero_add]
            exact hj
          · rw [hlen, flat_len Th.cells 2 Th.cells_len]; simp; omega
          · exact th_one _
        case b5 =>
          intro w3 hB3 F3 hs3
          refine wpList_nil ?_
          refine ⟨rfl, rfl, trivial, ?_⟩
          refine wpMix_nil ?_
          rw [th_splice _ _ m (by simp; omega)] at hB3
          have hsp : List.take m (List.replicate m x ++ List.replicate (n - m) (⟨0, 0⟩ : Th)) ++ List.replicate (min m (n - m)) x ++ List.drop (m + (List.replicate (min m (n - m)) x).length) (List.replicate m x ++ List.replicate (n - m) (⟨0, 0⟩ : Th)) = List.replicate (m + min m (n - m)) x ++ List.replicate (n - (m + min m (n - m))) (⟨0, 0⟩ : Th) := by
            have e1 : List.take m (List.replicate m x ++ List.replicate (n - m) (⟨0, 0⟩ : Th)) = List.replicate m x := by simp
            have e2 : List.drop (m + min m (n - m)) (List.replicate m x ++ List.replicate (n - m) (⟨0, 0⟩ : Th)) = List.replicate (n - (m + min m (n - m))) (⟨0, 0⟩ : Th) := by
              rw [List.drop_append]; simp; omega
            rw [List.length_replicate, e1, e2, List.replicate_append_replicate]
          rw [hsp] at hB3
          have F4 : Fr (fun _ => False) w w3 := (hFr.drew).trans' F3 (fun i hi h => by omega)
          clear hsp F3 hs3 hBd hBr hFr hr hlen
          go_wp2
          go_roundw
          case rel => exact ⟨m + min m (n - m), by omega, by omega, by go_num, hB3, F4⟩
          case measure => simp [intOf]; omega
      · obtain rfl : m = n := by omega
        have hO := hBr.own (sz := 2) (n := m) (cap := m) (Nat.le_refl _) (by unfold maxLen; omega) (by rw [flat_len Th.cells 2 Th.cells_len]; simp)
        have e : (List.take (m * 2) ((List.replicate m x ++ List.replicate (m - m) (⟨0, 0⟩ : Th)).flatMap Th.cells)) = (List.replicate m x).flatMap Th.cells := by rw [flat_take Th.cells 2 Th.cells_len]; simp
        rw [e] at hO
        clear e hBr
        go_wp2
        go_ret
        exact ⟨_, m, _, rfl, hO, hFr, fun g h => by cases h; exact Nat.le_refl _⟩
end Go.Proofs.YtfjempfffdeklaaDoor
