import Derived.Test.YtgfbkebbnfcgkaaErr
section
namespace Go.Proofs.Ytgfbkebbnfcgkaa
open Go.RowKit

theorem infoInt : (Try.prog.info? 3).map (fun i => (i.zero, i.size, i.bytes)) = some (some (.int .i64 0), 1, 8) := by kernel_rfl

theorem mask_small (a : Int) (h0 : 0 ≤ a) (h1 : a < 4294967296) : bits .and .u64 a 4294967295 = a := by
  rw [u64_and a _ h0 (by omega) (by decide) (by decide)]
  have : a.toNat &&& (4294967295 : Int).toNat = a.toNat % 4294967296 := nat_mask32 a.toNat
  rw [this]
  omega

set_option maxHeartbeats 400000 in
theorem mul_any (a b : Int) (w : World) (h0 : 0 ≤ a) (h1 : a ≤ 65535) (h2 : 0 ≤ b) (h3 : b ≤ 65535) :
    Calls Try.prog 33 #[.int .u64 a, .int .u64 b] w fun e w' => e = .returned (.tuple #[.int .u64 0, .int .u64 (a * b)]) ∧ w = w' := by
  have p1 : 0 ≤ a * b := Int.mul_nonneg h0 h2
  have p2 : a * b ≤ 65535 * 65535 := Int.mul_le_mul h1 h3 h2 (by decide)
  have e1 := mask_small a h0 (by omega)
  have e2 := mask_small b h2 (by omega)
  have e3 : a / 4294967296 = 0 := by omega
  have e4 : b / 4294967296 = 0 := by omega
  have e5 : a * b / 4294967296 = 0 := by omega
  have e6 : bits .and .u64 0 4294967295 = 0 := by decide
  go_enter Try.func33, Try.ntmps33
  go_wp2
  go_ret2
  simp


set_option maxHeartbeats 400000 in
theorem clone_int (a : Option Addr) (l : List Int) (c : Nat) (w : World) (hl : l.length * 8 ≤ 140737488351232) (hr : Ints w.heap a l) (hnil : a = none → l = []) :
    Calls Try.prog 18 #[.slice a l.length c] w (RetNew w 3 1 l.length (ivals .i64 l) id) := by
  have he := fun n c w => Lib.run_eql_slice_nil (P := Try.prog) w 31 3 a n c 0 0 Try.underlying31
  cases a with
  | none =>
    obtain rfl := hnil rfl
    go_enter Try.func18, Try.ntmps18
    go_wp2
    go_ret
    exact ⟨none, 0, none, rfl, Ownd.nil _ _ _, Fr.refl _ _, fun g h => by cases h⟩
  | some a =>
    go_enter Try.func18, Try.ntmps18
    go_wp2_with (at_builtin; refine wpList_app rfl _ _ 31 rfl Try.underlying31 infoInt rfl (by decide) rfl rfl (Ownd.made w 3 1 0 [] rfl (by decide)) (hr.fr (S := fun _ => False) ((Fr.refl _ _).alloc _) (fun _ _ _ h => h)) (ivals_one _ _) (by omega) (by omega) ?_)
    intro a' c' w' ob' h1 h2 h3
    go_wp2
    go_ret
    refine ⟨a', c', ob', by simp, by simpa using h1, ?_, ?_⟩
    · exact ((Fr.refl _ _).alloc _).trans' h2 (fun i hi h => by cases h; omega)
    · intro g hg
      rcases h3 with h3 | ⟨g', h3, h4⟩
      · rw [h3] at hg; cases hg; exact Nat.le_refl _
      · rw [h3] at hg; cases hg; exact Nat.le_trans (by simp) h4


set_option maxRecDepth 100000 in
set_option maxHeartbeats 1000000 in
theorem repeat_int (x : Int) (ax : Option Addr) (cx n : Nat) (w : World) (hr : Rd w.heap ax 1 1 (ivals .i64 [x])) (hn : 1 ≤ n) (hn2 : n ≤ 65535) :
    Calls Try.prog 13 #[.slice ax 1 cx, .int .i64 n] w (RetNew w 3 1 n (ivals .i64 (List.replicate n x)) id) := by
  obtain ⟨b, off, rfl, hb, hc⟩ := Ints.pos hr (by omega)
  have hc0 : ∀ w' : World, w'.heap = w.heap → w'.cell? ⟨b, off, none⟩ = some (.int .i64 x) := fun w' h => hc w' h 0 (by omega)
  clear hc
  go_enter Try.func13, Try.ntmps13
  go_wp2_with (first | (go_at_call 33; refine (mul_any _ _ _ (by omega) (by omega) (by omega) (by omega)).mono ?_; rintro e w' ⟨rfl, rfl⟩) | (at_make; refine wpList_mk rfl _ _ 31 rfl Try.underlying31 infoInt rfl n rfl rfl (by omega) (by omega) (by omega) (by omega) ?_))
  intro w1 hB hF hlt
  have hc1 := hc0 
  have hcell : w1.cell? ⟨b, off, none⟩ = some (.int .i64 x) := by rw [hF.cell (p := ⟨b, off, none⟩) hb (by simp)]; exact hc0 w rfl
  go_wp2_with (with_reducible refine wpList_cpy rfl (.tmp 31) (.tmp 32) 31 31 rfl Try.underlying31 infoInt rfl rfl (g := w.heap.size) (off := 0) hB (cs := [.int .i64 x]) ?a1 ?a5)
  case a1 =>
    unfold CpySide
    refine And.intro ?_ (And.intro ?_ (And.intro ?_ ?_))
    · simp; omega
    · intro _
      refine ⟨rfl, _, rfl, ?_⟩
      intro j v hj
      match j, hj with
      | 0, hj => simp at hj; subst hj; simpa [Addr.add] using hcell
    · simp; omega
    · intro v hv; simp at hv; subst hv; rfl
  case a5 =>
    intro w2 hB2 hF2 hs2
    have hs0 : splice (List.replicate n (Value.int .i64 0)) 0 [.int .i64 x] = List.replicate 1 (.int .i64 x) ++ List.replicate (n - 1) (.int .i64 0) := by
      simp [splice]
    rw [hs0] at hB2
    have hF12 : Fr (fun _ => False) w w2 := hF.trans' hF2 (fun i hi h => by omega)
    clear hs0 hF hF2 hB hcell hc0 hc1 hs2 hlt
    go_wp2
    go_loopw [8] (fun t wr => ∃ m : Nat, 1 ≤ m ∧ m ≤ n ∧ t = .int .i64 m ∧ Blk wr.heap w.heap.size 3 (List.replicate m (.int .i64 x) ++ List.replicate (n - m) (.int .i64 0)) ∧ Fr (fun _ => False) w wr) (fun t _ => n - (intOf t).toNat)
    case atStart => exact ⟨1, by omega, by omega, rfl, hB2, hF12⟩
    case round =>
      obtain ⟨m, hm1, hm2, rfl, hBr, hFr⟩ := hrel
      by_cases hlt : m < n
      · go_wp2
        (refine wp_region_mix (fun _ => True) 8 (by kernel_rfl) (by kernel_rfl) (trivial) ?_; simp only [List.take_succ_cons, List.take_zero, List.drop_succ_cons, List.drop_zero])
        (refine wpMix_lateN 7 (trivial) (by kernel_rfl) ?_; simp only [List.take_succ_cons, List.take_zero, List.drop_succ_cons, List.drop_zero]; (repeat (go_big_quiet_step (fail))); refine wpQuiet_nil ?_)
        refine wpMix_eff (by kernel_rfl) ?_
        have hBd : Blk wr.drew.heap w.heap.size 3 (List.replicate m (.int .i64 x) ++ List.replicate (n - m) (.int .i64 0)) := hBr
        with_reducible refine wpList_cpy rfl (.tmp 41) (.tmp 44) 31 31 rfl Try.underlying31 infoInt rfl rfl (g := w.heap.size) (off := m) hBd (cs := List.replicate (min m (n - m)) (.int .i64 x)) ?b1 ?b5
        case b1 =>
          unfold CpySide
          refine And.intro ?_ (And.intro ?_ (And.intro ?_ ?_))
          · simp
          · intro h0
            have h0' : 0 < min m (n - m) := by simpa using h0
            refine ⟨rfl, _, rfl, ?_⟩
            intro j v hj
            rw [Addr.add_lit, hBd.cell]
            have hj' := (List.getElem?_eq_some_iff.1 hj).1
            simp only [List.length_replicate] at hj'
            rw [List.getElem?_append_left (by simp; omega)]
            simp only [List.getElem?_replicate] at hj ⊢
            rw [if_pos (by omega)] at hj
            rw [if_pos (by omega)]
            exact hj
          · simp; omega
          · intro v hv; rw [List.eq_of_mem_replicate hv]; rfl
        case b5 =>
          intro w3 hB3 hF3 hs3
          refine wpList_nil ?_
          refine ⟨rfl, rfl, trivial, ?_⟩
          refine wpMix_nil ?_
          have hsp : splice (List.replicate m (Value.int .i64 x) ++ List.replicate (n - m) (.int .i64 0)) m (List.replicate (min m (n - m)) (.int .i64 x)) = List.replicate (m + min m (n - m)) (.int .i64 x) ++ List.replicate (n - (m + min m (n - m))) (.int .i64 0) := by
            have e1 : List.take m (List.replicate m (Value.int .i64 x) ++ List.replicate (n - m) (.int .i64 0)) = List.replicate m (.int .i64 x) := by simp
            have e2 : List.drop (m + min m (n - m)) (List.replicate m (Value.int .i64 x) ++ List.replicate (n - m) (.int .i64 0)) = List.replicate (n - (m + min m (n - m))) (.int .i64 0) := by
              rw [List.drop_append]; simp; omega
            rw [splice, List.length_replicate, e1, e2, ← List.append_assoc, List.replicate_append_replicate]
          rw [hsp] at hB3
          have hF4 : Fr (fun _ => False) w w3 := (hFr.drew).trans' hF3 (fun i hi h => by omega)
          clear hsp hF3 hs3 hBd hBr hFr hr
          go_wp2
          go_roundw
          case rel => exact ⟨m + min m (n - m), by omega, by omega, by go_num, hB3, hF4⟩
          case measure => simp [intOf]; omega
      · obtain rfl : m = n := by omega
        have hO := hBr.own (sz := 1) (n := m) (cap := m) (Nat.le_refl _) (by unfold maxLen; omega) (by simp)
        have e : (List.take (m * 1) (List.replicate m (Value.int .i64 x) ++ List.replicate (m - m) (Value.int .i64 0))) = ivals .i64 (List.replicate m x) := by simp
        rw [e] at hO
        clear e hBr
        go_wp2
        go_ret
        exact ⟨_, m, _, rfl, hO, hFr, fun g h => by cases h; exact Nat.le_refl _⟩
end Go.Proofs.Ytgfbkebbnfcgkaa
end
