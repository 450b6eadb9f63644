import Derived.Test.YtakkljdeencfbaaWaysLaw
namespace Go.Proofs.Ytakkljdeencfbaa
open Go.RowKit

theorem len_fact : lengthE 2 [⟨0, 1, 3⟩] [0, 1, 0] = .ok 6 := by kernel_rfl
theorem nth_reverse {α : Type} [Inhabited α] (l : List α) (k : Nat) (h : k < l.length) : nth l.reverse k = nth l (l.length - 1 - k) := by
  rw [nth_eq _ _ (by simpa using h), nth_eq l _ (by omega), List.getElem_reverse]
theorem Ints.take {H : Array Obj} {a : Option Addr} {l : List Int} (h : Ints H a l) (k : Nat) : Ints H a (l.take k) := by
  refine ⟨by simp [ivals], ?_⟩
  rcases h.at' with h1 | ⟨b', off', h1, h2, h3⟩
  · left; simp only [ivals, List.map_eq_nil_iff] at h1; subst h1; simp
  · right
    refine ⟨b', off', h1, h2, fun w hw i hi => ?_⟩
    have hi' : i < (l.take k).length := by simpa using hi
    have hi2 : i < l.length := by rw [List.length_take] at hi'; omega
    have hi3 : i < k := by rw [List.length_take] at hi'; omega
    rw [h3 w hw i (by simpa using hi2), ivals_get .i64 l i hi2, ivals_get .i64 _ i hi', nth_take _ _ _ hi3]

theorem length_any' {m : Nat} {v : List Int} (hm : v.length = m) (n : Int) (l : List Lk) (a : Option Addr) (c : Nat) (av : Option Addr) (cv : Nat) (w : World) (hL : Links w.heap a l) (hl : l.length ≤ 9223372036854775807) (hw : ∀ x ∈ l, (Lit.int .i64 x.a).wf = true ∧ (Lit.int .i64 x.b).wf = true ∧ (Lit.int .i64 x.c).wf = true)
    (hV : Ints w.heap av v) (hv : m ≤ 35184372088832) :
    Calls Try.prog 10 #[.int .i64 n, .slice a l.length c, .slice av m cv] w (RetInt w (lengthE n l v)) := by
  subst hm; exact length_any n l a c v av cv w hL hl hw hV hv
set_option maxRecDepth 100000 in
set_option maxHeartbeats 2000000 in
theorem wjoin_any (n : Int) (l : List Lk) (a : Option Addr) (c : Nat) (v u : List Int) (av au : Option Addr) (cv cu : Nat) (w : World) (hL : Links w.heap a l) (hl : l.length ≤ 9223372036854775807) (hw : ∀ x ∈ l, (Lit.int .i64 x.a).wf = true ∧ (Lit.int .i64 x.b).wf = true ∧ (Lit.int .i64 x.c).wf = true)
    (hV : Ints w.heap av v) (hv : v.length ≤ 1048576) (hU : Ints w.heap au u) (hu : u.length ≤ 1048576) (hcv : v.length ≤ cv) (hcu : u.length ≤ cu) :
    Calls Try.prog 3 #[.int .i64 n, .slice a l.length c, .slice av v.length cv, .slice au u.length cu] w (RetV w (.bool true)) := by
  have k1 : Links ((w.alloc (.cells #[.int .i64 0, .int .i64 1, .int .i64 3] 29)).alloc (.cells #[.int .i64 0, .int .i64 1, .int .i64 0] 3)).heap (some ⟨w.heap.size, 0, none⟩) [⟨0, 1, 3⟩] :=
    ((Own.made w 29 3 1 [.int .i64 0, .int .i64 1, .int .i64 3] rfl (by decide)).alloc _).rd
  have k2 : Ints ((w.alloc (.cells #[.int .i64 0, .int .i64 1, .int .i64 3] 29)).alloc (.cells #[.int .i64 0, .int .i64 1, .int .i64 0] 3)).heap (some ⟨w.heap.size + 1, 0, none⟩) [0, 1, 0] := by
    have := (Own.made (w.alloc (.cells #[.int .i64 0, .int .i64 1, .int .i64 3] 29)) 3 1 3 [.int .i64 0, .int .i64 1, .int .i64 0] rfl (by decide)).rd
    rw [show (w.alloc (.cells #[.int .i64 0, .int .i64 1, .int .i64 3] 29)).heap.size = w.heap.size + 1 by simp] at this
    exact this
  go_enter Try.func3, Try.ntmps3
  go_wp2_with (go_at_call 10; refine (length_any 2 [⟨0, 1, 3⟩] _ 1 [0, 1, 0] _ 3 _ k1 (by decide) (by decide) k2 (by decide)).mono ?_)
  intro e1 w1 R1
  rw [len_fact] at R1
  obtain ⟨rfl, hF1⟩ := R1
  have hFw1 : Fr (fun _ => False) w w1 := (((Fr.refl _ w).alloc _).alloc _).trans hF1
  clear k1 k2 hF1
  go_wp2_with (go_at_call 10; refine (length_any n l a c v av cv _ (hL.fr0 hFw1 (fun _ _ h => h)) hl hw (hV.fr0 hFw1 (fun _ _ h => h)) (by omega)).mono ?_)
  intro e2 w2 R2
  cases hx : lengthE n l v with
  | error k =>
    rw [hx] at R2
    obtain ⟨rfl, hF2⟩ := R2
    have hFw2 := hFw1.trans hF2
    clear hx
    go_wp2_with (go_at_call 10; refine (length_any n l a c u au cu _ (hL.fr0 hFw2 (fun _ _ h => h)) hl hw (hU.fr0 hFw2 (fun _ _ h => h)) (by omega)).mono ?_)
    intro e3 w3 R3
    cases hy : lengthE n l u with
    | error k =>
      rw [hy] at R3
      obtain ⟨rfl, hF3⟩ := R3
      clear hy
      go_wp2
      go_ret
      exact RetV.mk rfl rfl (hFw2.trans hF3)
    | ok y =>
      rw [hy] at R3
      obtain ⟨rfl, hF3⟩ := R3
      clear hy
      go_wp2
      go_ret
      exact RetV.mk rfl rfl (hFw2.trans hF3)
  | ok x =>
    rw [hx] at R2
    obtain ⟨rfl, hF2⟩ := R2
    have hFw2 := hFw1.trans hF2
    have HX := Lib.hid hx
    have hvn := length_ne hx
    obtain ⟨x0, x1⟩ := length_bd hx
    clear hx
    go_wp2_with (go_at_call 10; refine (length_any n l a c u au cu _ (hL.fr0 hFw2 (fun _ _ h => h)) hl hw (hU.fr0 hFw2 (fun _ _ h => h)) (by omega)).mono ?_)
    intro e3 w3 R3
    cases hy : lengthE n l u with
    | error k =>
      rw [hy] at R3
      obtain ⟨rfl, hF3⟩ := R3
      clear hy
      go_wp2
      go_ret
      exact RetV.mk rfl rfl (hFw2.trans hF3)
    | ok y =>
      rw [hy] at R3
      obtain ⟨rfl, hF3⟩ := R3
      have hFw3 := hFw2.trans hF3
      have HY := Lib.hid hy
      have hun := length_ne hy
      obtain ⟨y0, y1⟩ := length_bd hy
      clear hy
      obtain ⟨bv, ov, rfl, hbv, hcv'⟩ := Ints.pos hV (by omega)
      obtain ⟨bu, ou, rfl, hbu, hcu'⟩ := Ints.pos hU (by omega)
      obtain ⟨B, hB⟩ : ∃ B, B = v.reverse := ⟨_, rfl⟩
      have hBl : B.length ≤ v.length ∧ v.length ≤ B.length := by rw [hB]; simp
      have HB := Lib.hid hB
      clear hB
      go_wp2
      go_loopw [16, 15] (fun s16 s15 wr => ∃ (i j : Nat) (ab : Option Addr) (cb : Nat) (ob : Option Nat), i + j = v.length ∧ s16 = .int .i64 ((i : Int) - 1) ∧ s15 = .slice ab j cb ∧ Own wr.heap 3 1 ab j cb (ivals .i64 (B.take j)) ob ∧ Fr (fun _ => False) w wr ∧ (∀ g, ob = some g → w.heap.size ≤ g)) (fun s _ _ => (intOf s + 1).toNat)
      case atStart => exact ⟨v.length, 0, none, 0, none, rfl, rfl, rfl, Own.nil _ _ _, hFw3, fun g h => nomatch h⟩
      case round =>
        obtain ⟨i, j, ab, cb, ob, hij, rfl, rfl, hO, hF, hN⟩ := hrel
        by_cases hi0 : i = 0
        · subst hi0
          obtain rfl : j = v.length := by omega
          rw [List.take_of_length_le (by omega)] at hO
          have hbn : B.length = v.length := by omega
          have HBN := Lib.hid hbn
          have k3 := hO.rd
          rw [← hbn] at k3
          clear hbn
          go_wp2_with (go_at_call 10; refine (length_any' HBN.out n l a c ab cb _ (hL.fr0 hF (fun _ _ h => h)) hl hw k3 (by omega)).mono ?_)
          intro e4 w4 R4
          rw [HB.out, length_rev HX.out] at R4
          obtain ⟨rfl, hF4⟩ := R4
          have hF5 := hF.trans hF4
          have hv1 : (v.take 1).length = 1 := by rw [List.length_take]; omega
          have HV1 := Lib.hid hv1
          have k4 := Ints.take (hV.fr0 hF5 (fun _ _ h => h)) 1
          clear hv1 k3 hO hN
          go_wp2_with (go_at_call 10; refine (length_any' HV1.out n l a c (some ⟨bv, ov, none⟩) cv _ (hL.fr0 hF5 (fun _ _ h => h)) hl hw k4 (by omega)).mono ?_)
          intro e5 w5 R5
          rw [length_one HX.out] at R5
          obtain ⟨rfl, hF6⟩ := R5
          have hF7 := hF5.trans hF6
          have hxx : (x != x) = false := by simp
          go_wp2
          have hO0 := (Own.made w5 3 1 0 [] rfl (by decide))
          have hrv := hV.fr0 (hF7.alloc (.cells #[] 3)) (fun _ _ h => h)
          (refine wp_region_mix (fun _ => True) 13 (by kernel_rfl) (by kernel_rfl) (trivial) ?_; simp only [List.take_succ_cons, List.take_zero, List.drop_succ_cons, List.drop_zero])
          (refine wpMix_lateN 2 (trivial) (by kernel_rfl) ?_; simp only [List.take_succ_cons, List.take_zero, List.drop_succ_cons, List.drop_zero]; (repeat (go_big_quiet_step (fail))); refine wpQuiet_nil ?_)
          refine wpMix_eff (by kernel_rfl) ?_
          go_wp2
          (refine wpMix_lateN 1 (trivial) (by kernel_rfl) ?_; simp only [List.take_succ_cons, List.take_zero, List.drop_succ_cons, List.drop_zero]; (repeat (go_big_quiet_step (fail))); refine wpQuiet_nil ?_)
          refine wpMix_eff (by kernel_rfl) ?_
          refine wpList_app rfl _ _ 23 rfl Try.underlying23 infoInt rfl (by decide) rfl rfl hO0 hrv (ivals_one .i64 v) (by omega) (by omega) ?_
          intro a6 c6 w6 ob6 z1 z2 z3
          rw [List.nil_append] at z1
          simp only [Nat.zero_add] at z1 ⊢
          have hF8 := (hF7.alloc (.cells #[] 3)).drew.trans' z2 (fun q hq h => by cases h; have := hF7.size; omega)
          have hU8 := hU.fr0 hF8 (fun _ _ h => h)
          have hdl : (u.drop 1).length = u.length - 1 := List.length_drop
          have hrd1 : Rd w6.heap (some ⟨bu, ou + 1, none⟩) (u.length - 1) 1 (ivals .i64 (u.drop 1)) := by rw [← hdl]; exact Ints.drop hU8 1
          have hrd2 : cu = 1 → Rd w6.heap (some ⟨bu, ou, none⟩) (u.length - 1) 1 (ivals .i64 (u.drop 1)) := fun h => by
            rw [show u.length - 1 = 0 by omega, List.drop_of_length_le (by omega)]; exact Rd.nil _ _ _
          have hjl : (v ++ u.drop 1).length = v.length + (u.length - 1) := by rw [List.length_append, hdl]
          have hz6 : ivals .i64 v ++ ivals .i64 (u.drop 1) = ivals .i64 (v ++ u.drop 1) := by simp [ivals]
          have HD := Lib.hid hdl
          have HJ := Lib.hid hjl
          have H6 := Lib.hid hz6
          have HR1 := Lib.hid hrd1
          have HR2 := Lib.hid hrd2
          have hu1 : 1 ≤ u.length := hun
          have hN6 : ∀ g, ob6 = some g → w.heap.size ≤ g := fun g hg => by
            have := hF7.size
            rcases z3 with h | ⟨g', h, h'⟩
            · rw [h] at hg; cases hg; omega
            · rw [hg] at h; cases h; simp at h'; omega
          have HN6 := Lib.hid hN6
          clear hdl hjl hz6 hrd1 hrd2 hun hN6 z3 z2 hrv hO0 k4
          generalize hUU : u.drop 1 = U at *
          have HUU := Lib.hid hUU
          clear hUU
          by_cases hc1 : cu = 1
          all_goals
            go_wp2
            (refine wpMix_lateN 2 (trivial) (by kernel_rfl) ?_; simp only [List.take_succ_cons, List.take_zero, List.drop_succ_cons, List.drop_zero]; (repeat (go_big_quiet_step (fail))); refine wpQuiet_nil ?_)
            refine wpMix_eff (by kernel_rfl) ?_
            refine wpList_app rfl _ _ 23 rfl Try.underlying23 infoInt rfl (by decide) rfl rfl z1 (by first | exact HR1.out | exact HR2.out hc1) (ivals_one .i64 U) (by omega) (by omega) ?_
            intro a7 c7 w7 ob7 y1' y2' y3'
            rw [H6.out] at y1'
            have hF9 := Fr.app hF8 y2' HN6.out
            have k7 := y1'.rd
            rw [← HJ.out] at k7
            go_wp2
            refine wpMix_eff (by kernel_rfl) ?_
            go_wp2_with (go_at_call 10; refine (length_any' HJ.out n l a c a7 c7 _ (hL.fr0 hF9 (fun _ _ h => h)) hl hw k7 (by omega)).mono ?_)
            intro e9 w9 R9
            have hlv9 : ∀ q, Fr (fun _ => False) w q → q.cell? ⟨bv, ov + (v.length - 1), none⟩ = some (.int .i64 (nth v (v.length - 1))) := fun q hq => (hq.cell (p := ⟨bv, ov + (v.length - 1), none⟩) hbv (fun h => h)).trans (hcv' w rfl (v.length - 1) (by omega))
            have hlu9 : ∀ q, Fr (fun _ => False) w q → q.cell? ⟨bu, ou, none⟩ = some (.int .i64 (nth u 0)) := fun q hq => (hq.cell (p := ⟨bu, ou, none⟩) hbu (fun h => h)).trans (hcu' w rfl 0 (by omega))
            have HV9 := Lib.hid hlv9
            have HU9 := Lib.hid hlu9
            clear hlv9 hlu9
            by_cases hne : nth v (v.length - 1) = nth u 0
            · rw [← HUU.out, length_join HX.out HY.out hne] at R9
              obtain ⟨rfl, hF10⟩ := R9
              have hF11 := hF9.trans hF10
              have e1 := HV9.out _ hF11
              have e2 := HU9.out _ hF11
              generalize nth v (v.length - 1) = p1 at *
              generalize nth u 0 = p2 at *
              subst hne
              have hb : (p1 != p1) = false := by simp
              go_wp2
              (refine wpMix_lateN 4 (trivial) (by kernel_rfl) ?_; simp only [List.take_succ_cons, List.take_zero, List.drop_succ_cons, List.drop_zero]; (repeat (go_big_quiet_step (fail))); refine wpQuiet_nil ?_)
              refine wpMix_nil ?_
              go_wp2
              go_quiet (fail)
              go_wp2
              go_ret
              exact RetV.mk rfl rfl (hF11.drewN nq)
            · have hb : (nth v (v.length - 1) != nth u 0) = true := by simp [hne]
              cases hr : lengthE n l (v ++ U) with
              | error k =>
                rw [hr] at R9
                obtain ⟨rfl, hF10⟩ := R9
                have hF11 := hF9.trans hF10
                have e1 := HV9.out _ hF11
                have e2 := HU9.out _ hF11
                clear hr hne
                go_wp2
                (refine wpMix_lateN 4 (trivial) (by kernel_rfl) ?_; simp only [List.take_succ_cons, List.take_zero, List.drop_succ_cons, List.drop_zero]; (repeat (go_big_quiet_step (fail))); refine wpQuiet_nil ?_)
                refine wpMix_nil ?_
                go_wp2
                go_quiet (fail)
                go_wp2
                go_ret
                exact RetV.mk rfl rfl (hF11.drewN nq)
              | ok s =>
                rw [hr] at R9
                obtain ⟨rfl, hF10⟩ := R9
                have hF11 := hF9.trans hF10
                have e1 := HV9.out _ hF11
                have e2 := HU9.out _ hF11
                clear hr hne
                go_wp2
                (refine wpMix_lateN 4 (trivial) (by kernel_rfl) ?_; simp only [List.take_succ_cons, List.take_zero, List.drop_succ_cons, List.drop_zero]; (repeat (go_big_quiet_step (fail))); refine wpQuiet_nil ?_)
                refine wpMix_nil ?_
                go_wp2
                go_quiet (fail)
                go_wp2
                go_ret
                exact RetV.mk rfl rfl (hF11.drewN nq)
        · obtain ⟨i, rfl⟩ : ∃ q, i = q + 1 := ⟨i - 1, by omega⟩
          rw [show ((i + 1 : Nat) : Int) - 1 = i by omega]
          have hck := (hF.cell (p := ⟨bv, ov + i, none⟩) hbv (fun h => h)).trans (hcv' w rfl i (by omega))
          have hrd := (Own.made wr 3 1 1 [.int .i64 (nth v i)] rfl (by decide)).rd
          clear hcv' hcu' hi0
          have hcl := hO.le
          go_wp2_with (at_builtin; refine wpList_app rfl _ _ 23 rfl Try.underlying23 infoInt rfl (by decide) rfl rfl (hO.alloc _) hrd (ivals_one .i64 [nth v i]) (by omega) (by omega) ?_)
          intro a' c' w6 ob' z1 z2 z3
          have e : ivals .i64 (B.take j) ++ [.int .i64 (nth v i)] = ivals .i64 (B.take (j + 1)) := by
            rw [take_succ_nth _ _ (by omega), HB.out, nth_reverse _ _ (by omega), show v.length - 1 - j = i by omega]; simp [ivals]
          have z1 : Own w6.heap 3 1 a' (j + 1) c' (ivals .i64 (B.take (j + 1))) ob' := by rw [← e]; simpa [ivals] using z1
          have hF6 := Fr.app (hF.alloc _) z2 hN
          have hN6 := app_new hN z3 (by have := hF.size; simp; omega)
          clear e z2 z3 hO
          go_wp2
          go_roundw
          case rel => exact ⟨i, j + 1, a', c', ob', by omega, by go_num, rfl, z1, hF6, hN6⟩
          case measure => simp [intOf]
end Go.Proofs.Ytakkljdeencfbaa
