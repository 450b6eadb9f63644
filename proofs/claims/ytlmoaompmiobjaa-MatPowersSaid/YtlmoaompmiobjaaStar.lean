import Derived.Test.YtlmoaompmiobjaaRises
namespace Go.Proofs.Ytlmoaompmiobjaa
open Go.RowKit

def stepL (j i k : Nat) (rs : List (List Int)) : List (List Int) := rs.set i ((nth rs i).set k (imin (at2 rs i k) (at2 rs i j + at2 rs j k)))
def starK (j i : Nat) : Nat → List (List Int) → List (List Int)
  | 0, rs => rs
  | k + 1, rs => stepL j i k (starK j i k rs)
def starI (n j : Nat) : Nat → List (List Int) → List (List Int)
  | 0, rs => rs
  | i + 1, rs => starK j i n (starI n j i rs)
def starJ (n : Nat) : Nat → List (List Int) → List (List Int)
  | 0, rs => rs
  | j + 1, rs => starI n j n (starJ n j rs)
def diag (n : Nat) (a : List (List Int)) : List (List Int) := ran n fun i => (nth a i).set i 0
def starM (n : Nat) (a : List (List Int)) : List (List Int) := starJ n n (diag n a)
noncomputable def starE (a : List (List Int)) : Except Int (List (List Int)) :=
  match matErr a with
  | some k => .error k
  | none => .ok (starM a.length a)

theorem step_tab {n : Nat} {rs : List (List Int)} (h : Tab n rs) (j i k : Nat) (hj : j < n) (hi : i < n) (hk : k < n) : Tab n (stepL j i k rs) := by
  have hl : i < rs.length := by rw [h.len]; exact hi
  have e : ∀ x, nth (stepL j i k rs) x = if x = i then (nth rs i).set k (imin (at2 rs i k) (at2 rs i j + at2 rs j k)) else nth rs x := fun x => nth_set rs i x _ hl
  refine ⟨by unfold stepL; rw [List.length_set, h.len], h.n1, h.n8, fun x hx => ?_, fun x y hx hy => ?_⟩
  · rw [e]; split
    · rename_i h0; rw [List.length_set]; exact h.rows i hi
    · exact h.rows x hx
  · rw [e]; split
    · rw [nth_set _ _ _ _ (by rw [h.rows i hi]; exact hk)]
      split
      · have h1 := h.dist i k hi hk
        have h2 := h.dist i j hi hj
        have h3 := h.dist j k hj hk
        exact ⟨imin_ge h1.1 (by unfold at2; omega), Int.le_trans (imin_le_left _ _) h1.2⟩
      · exact h.dist i y hi hy
    · exact h.dist x y hx hy
theorem starK_tab {n : Nat} {rs : List (List Int)} (h : Tab n rs) (j i : Nat) (hj : j < n) (hi : i < n) : ∀ k, k ≤ n → Tab n (starK j i k rs) := by
  intro k
  induction k with
  | zero => intro _; exact h
  | succ k ih => intro hk; exact step_tab (ih (by omega)) j i k hj hi (by omega)
theorem starI_tab {n : Nat} {rs : List (List Int)} (h : Tab n rs) (j : Nat) (hj : j < n) : ∀ i, i ≤ n → Tab n (starI n j i rs) := by
  intro i
  induction i with
  | zero => intro _; exact h
  | succ i ih => intro hi; exact starK_tab (ih (by omega)) j i hj (by omega) n (Nat.le_refl _)
theorem starJ_tab {n : Nat} {rs : List (List Int)} (h : Tab n rs) : ∀ j, j ≤ n → Tab n (starJ n j rs) := by
  intro j
  induction j with
  | zero => intro _; exact h
  | succ j ih => intro hj; exact starI_tab (ih (by omega)) j (by omega) n (Nat.le_refl _)
theorem diag_tab {n : Nat} {a : List (List Int)} (h : Tab n a) : Tab n (diag n a) := by
  refine ⟨ran_len _ _, h.n1, h.n8, fun i hi => ?_, fun i k hi hk => ?_⟩
  · unfold diag; rw [nth_ran n _ i hi, List.length_set]; exact h.rows i hi
  · unfold diag
    rw [nth_ran n _ i hi, nth_set _ _ _ _ (by rw [h.rows i hi]; exact hi)]
    split
    · omega
    · exact h.dist i k hi hk
theorem star_tab {n : Nat} {a : List (List Int)} (h : Tab n a) : Tab n (starM n a) := starJ_tab (diag_tab h) n (Nat.le_refl _)
theorem starE_ok {n : Nat} {a : List (List Int)} (h : Tab n a) : starE a = .ok (starM n a) := by
  have l := h.len
  unfold starE
  rw [matErr_none.2 (by rw [l]; exact h), l]

set_option maxRecDepth 100000 in
set_option maxHeartbeats 2000000 in
theorem star_any (a : List (List Int)) (aa : Option Addr) (ca : Nat) (A : Nat → Option Addr) (CA : Nat → Nat) (w : World) (hA : Mat w.heap aa a A CA) (la : a.length ≤ 9223372036854775807) :
    Calls Try.prog 20 #[.slice aa a.length ca] w (RetMat w (starE a)) := by
  go_enter Try.func20, Try.ntmps20
  go_wp2_with (go_at_call 18; refine (check_any a aa ca A CA _ hA la).mono ?_)
  intro e1 w1 R1
  obtain ⟨rfl, hF1⟩ := R1
  cases ha : matErr a with
  | some k =>
    have hX := Lib.hid (show starE a = .error k by unfold starE; rw [ha])
    clear ha
    rw [errOpt_some]
    go_wp2
    go_ret2
    exact RetMat.err hX.out rfl hF1
  | none =>
    have hTa := matErr_none.1 ha
    have hX := Lib.hid (starE_ok hTa)
    clear ha
    rw [errOpt_none]
    have n1 := hTa.n1
    have n8 := hTa.n8
    generalize hn : a.length = n at *
    go_wp2
    go_loopw [19, 5] (fun s19 s5 wr => ∃ (i : Nat) (ao : Option Addr) (co : Nat) (ob : Option Nat) (G C : Nat → Nat), i ≤ n ∧ s19 = .int .i64 i ∧ s5 = .slice ao i co ∧ OMat wr.heap w.heap.size 28 3 ao co ob (ran i fun i => (nth a i).set i 0) G C ∧ Fr (fun _ => False) w wr) (fun s _ _ => n - (intOf s).toNat)
    case atStart => exact ⟨0, none, 0, none, fun _ => 0, fun _ => 0, by omega, rfl, rfl, OMat.nil _ _ _ _ _ _, hF1⟩
    case round =>
      obtain ⟨i, ao, co, ob, G, C, hi, rfl, rfl, hM, hF⟩ := hrel
      by_cases hlt : i < n
      · have hAr := hA.fr hF (fun _ _ h => h)
        have hrow := hAr.row i (by omega)
        have hrn := hTa.rows i hlt
        obtain ⟨b, off, rfl, -, hcA⟩ := hAr.pos (by omega)
        have hck := hcA wr rfl i (by omega)
        rw [hrn] at hck
        obtain ⟨b2, o2, hAi, -, -⟩ := Ints.pos hrow (by rw [hrn]; omega)
        have hcl := clone_int (A i) (nth a i) (CA i) wr (by rw [hrn]; omega) hrow (fun h => by rw [hAi] at h; cases h)
        rw [hrn, hAi] at hcl
        rw [hAi] at hck
        clear hcA hAi
        go_wp2_with (go_at_call 29; refine hcl.mono ?_)
        intro e3 w3 R3
        obtain ⟨a3, c3, ob3, rfl, hO3, hF3, hN3⟩ := R3
        have hFw3 : Fr (fun _ => False) w w3 := hF.trans hF3
        have hM3 := hM.fr hF3 (fun _ _ _ h => h)
        obtain ⟨g, rfl, rfl, hg, hc3, hfz⟩ := hO3.pos (by omega)
        have hgn : wr.heap.size ≤ g := hN3 g rfl
        have hgw : w.heap.size ≤ g := by have := hF.size; omega
        have hci := (hc3 i (by omega)).trans (ivals_get .i64 (nth a i) i (by rw [hrn]; exact hlt))
        have hfi := hfz i
        have hrl : ((nth a i).set i 0).length = n := by rw [List.length_set, hrn]
        have hO4 : Own (w3.setCell ⟨g, i, none⟩ (.int .i64 0)).heap 3 1 (some ⟨g, 0, none⟩) n c3 (ivals .i64 ((nth a i).set i 0)) (some g) := by
          have := hO3.set rfl i (.int .i64 0)
          have e : (ivals .i64 (nth a i)).set i (.int .i64 0) = ivals .i64 ((nth a i).set i 0) := by simp [ivals, List.map_set]
          rw [e] at this
          exact this
        have hlen : (ran i fun i => (nth a i).set i 0).length = i := ran_len _ _
        have hob : ob ≠ some g := fun h => by have := (hM.top.lt g h); omega
        have hGg : ∀ q, q < i → G q ≠ g := fun q hq h => by have := (hM.row q (by rw [hlen]; exact hq)).lt _ rfl; omega
        have hM4 := hM3.fr' (w' := w3.setCell ⟨g, i, none⟩ (.int .i64 0)) (S := fun k => k = g) ((Fr.refl _ _).at1 i _) (fun k hk => by subst hk; exact ⟨fun q hq => hGg q (by rw [hlen] at hq; exact hq), hob⟩)
        have hFx : Fr (fun _ => False) w (w3.setCell ⟨g, i, none⟩ (.int .i64 0)) := hFw3.setCell (fun h => by simp only at h; omega) _
        have htop := (hM4.alloc (.cells #[.slice (some ⟨g, 0, none⟩) n c3] 28)).top
        rw [hlen] at htop
        have hrd := (Own.made (w3.setCell ⟨g, i, none⟩ (.int .i64 0)) 28 1 1 [.slice (some ⟨g, 0, none⟩) n c3] rfl (by decide)).rd
        rw [World.size_setCell] at hrd
        clear hc3 hfz hO3 hM3
        go_wp2_with (at_builtin; refine wpList_app rfl _ _ 27 rfl Try.underlying27 infoInts rfl (by decide) rfl rfl htop hrd (by simp [Value.oneCell']) (by omega) (by omega) ?_)
        intro a' c' w6 ob' z1 z2 z3
        go_wp2
        have hP := OMat.push (r := (nth a i).set i 0) (cr := c3) (hM4.alloc (.cells #[.slice (some ⟨g, 0, none⟩) n c3] 28)) (by rw [hrl]; exact hO4.alloc _) hgw hob (fun q hq => hGg q (by rw [hlen] at hq; exact hq)) (by have := (hFx.alloc (.cells #[.slice (some ⟨g, 0, none⟩) n c3] 28)).size; exact this) (by rw [hlen, hrl]) (by rw [hlen]; exact z1) z2 (by simpa using z3)
        have hF6 := Fr.app (hFx.alloc _) z2 (fun k hk => (hM4.obn k hk).1)
        have e : (ran i fun i => (nth a i).set i 0) ++ [(nth a i).set i 0] = ran (i + 1) fun i => (nth a i).set i 0 := by simp [ran, List.range_succ]
        rw [e] at hP
        clear e htop hrd hO4 z1 z2 z3 hM4 hM
        go_roundw
        case rel => exact ⟨i + 1, a', c', ob', _, _, by omega, by go_num, rfl, hP, hF6⟩
        case measure => simp [intOf]; omega
      · obtain rfl : i = n := by omega
        have hM0 : OMat wr.heap w.heap.size 28 3 ao co ob (starJ i 0 (diag i a)) G C := hM
        have hT0 := diag_tab hTa
        clear hM
        go_wp2
        go_loopw [36] (fun s wx => ∃ j : Nat, j ≤ i ∧ s = .int .i64 j ∧ OMat wx.heap w.heap.size 28 3 ao co ob (starJ i j (diag i a)) G C ∧ Fr (fun _ => False) w wx) (fun s _ => i - (intOf s).toNat)
        case atStart => exact ⟨0, by omega, rfl, hM0, hF⟩
        case round =>
          clear hM0 hF
          obtain ⟨j, hj, rfl, hM, hF⟩ := hrel
          by_cases hjl : j < i
          · have hTj := starJ_tab hT0 j (by omega)
            generalize hRj : starJ i j (diag i a) = Rj at *
            have HRj := Lib.hid hRj
            clear hRj
            have hM1 : OMat wr.heap w.heap.size 28 3 ao co ob (starI i j 0 Rj) G C := hM
            clear hM
            go_wp2
            go_loopw [41] (fun s wx => ∃ q : Nat, q ≤ i ∧ s = .int .i64 q ∧ OMat wx.heap w.heap.size 28 3 ao co ob (starI i j q Rj) G C ∧ Fr (fun _ => False) w wx) (fun s _ => i - (intOf s).toNat)
            case atStart => exact ⟨0, by omega, rfl, hM1, hF⟩
            case round =>
              clear hM1 hF
              obtain ⟨q, hq, rfl, hM, hF⟩ := hrel
              by_cases hql : q < i
              · have hTq := starI_tab hTj j hjl q (by omega)
                generalize hRq : starI i j q Rj = Rq at *
                have HRq := Lib.hid hRq
                clear hRq
                have hM2 : OMat wr.heap w.heap.size 28 3 ao co ob (starK j q 0 Rq) G C := hM
                clear hM
                go_wp2
                go_loopw [46] (fun s wx => ∃ k : Nat, k ≤ i ∧ s = .int .i64 k ∧ OMat wx.heap w.heap.size 28 3 ao co ob (starK j q k Rq) G C ∧ Fr (fun _ => False) w wx) (fun s _ => i - (intOf s).toNat)
                case atStart => exact ⟨0, by omega, rfl, hM2, hF⟩
                case round =>
                  clear hM2 hF
                  obtain ⟨k, hk, rfl, hM, hF⟩ := hrel
                  by_cases hkl : k < i
                  · have hTk := starK_tab hTq j q hjl hql k (by omega)
                    have HS := Lib.hid (show starK j q (k + 1) Rq = stepL j q k (starK j q k Rq) from rfl)
                    generalize starK j q k Rq = R at *
                    obtain ⟨b, off, rfl, x1, x2⟩ := OMat.cells hM hTk.len hTk.rows q k hql hkl
                    obtain ⟨_, _, hh, -, x3⟩ := OMat.cells hM hTk.len hTk.rows q j hql hjl
                    cases hh
                    obtain ⟨_, _, hh, x4, x5⟩ := OMat.cells hM hTk.len hTk.rows j k hjl hkl
                    cases hh
                    obtain ⟨d1, d2⟩ := hTk.dist q k hql hkl
                    obtain ⟨d3, d4⟩ := hTk.dist q j hql hjl
                    obtain ⟨d5, d6⟩ := hTk.dist j k hjl hkl
                    have hfz : wr.frozen? ⟨G q, k, none⟩ = false := by
                      obtain ⟨g, h4, _, _, _, h7⟩ := (hM.row q (by rw [hTk.len]; exact hql)).pos (by rw [hTk.rows q hql]; omega)
                      cases h4
                      exact h7 k
                    have hgq := hM.gn q (by rw [hTk.len]; exact hql)
                    have hset := hM.set q k (imin (nth (nth R q) k) (nth (nth R q) j + nth (nth R j) k)) (by rw [hTk.len]; exact hql)
                    have HSet := Lib.hid hset
                    clear hset
                    by_cases hmn : nth (nth R q) j + nth (nth R j) k < nth (nth R q) k
                    · have HI := Lib.hid (show imin (nth (nth R q) k) (nth (nth R q) j + nth (nth R j) k) = nth (nth R q) j + nth (nth R j) k from if_pos hmn)
                      go_wp2
                      (refine wp_region_mix (fun _ => True) 28 (by kernel_rfl) (by kernel_rfl) (trivial) ?_; simp only [List.take_succ_cons, List.take_zero, List.drop_succ_cons, List.drop_zero])
                      (refine wpMix_earlyN 28 (by kernel_rfl) (by kernel_rfl) ?_; simp only [List.take_succ_cons, List.take_zero, List.drop_succ_cons, List.drop_zero]; (repeat (go_big_quiet_step (fail))); refine wpQuiet_nil ?_)
                      refine wpMix_nil ?_
                      go_wp2
                      go_roundw
                      case rel => exact ⟨k + 1, by omega, by go_num, by rw [HS.out, ← HI.out]; exact HSet.out, hF.drew.setCell (fun h => by simp only at h; omega) _⟩
                      case measure => simp [intOf]; omega
                    · have HI := Lib.hid (show imin (nth (nth R q) k) (nth (nth R q) j + nth (nth R j) k) = nth (nth R q) k from if_neg hmn)
                      go_wp2
                      (refine wp_region_mix (fun _ => True) 28 (by kernel_rfl) (by kernel_rfl) (trivial) ?_; simp only [List.take_succ_cons, List.take_zero, List.drop_succ_cons, List.drop_zero])
                      (refine wpMix_earlyN 28 (by kernel_rfl) (by kernel_rfl) ?_; simp only [List.take_succ_cons, List.take_zero, List.drop_succ_cons, List.drop_zero]; (repeat (go_big_quiet_step (fail))); refine wpQuiet_nil ?_)
                      refine wpMix_nil ?_
                      go_wp2
                      go_roundw
                      case rel => exact ⟨k + 1, by omega, by go_num, by rw [HS.out, ← HI.out]; exact HSet.out, hF.drew.setCell (fun h => by simp only at h; omega) _⟩
                      case measure => simp [intOf]; omega
                  · obtain rfl : k = i := by omega
                    have hM3 : OMat wr.heap w.heap.size 28 3 ao co ob (starI k j (q + 1) Rj) G C := by
                      show OMat _ _ _ _ _ _ _ (starK j q k (starI k j q Rj)) G C
                      rw [HRq.out]; exact hM
                    clear hM
                    go_wp2
                    go_roundw
                    case rel => exact ⟨q + 1, by omega, by go_num, hM3, hF⟩
                    case measure => simp [intOf]; omega
              · obtain rfl : q = i := by omega
                have hM3 : OMat wr.heap w.heap.size 28 3 ao co ob (starJ q (j + 1) (diag q a)) G C := by
                  show OMat _ _ _ _ _ _ _ (starI q j q (starJ q j (diag q a))) G C
                  rw [HRj.out]; exact hM
                clear hM
                go_wp2
                go_roundw
                case rel => exact ⟨j + 1, by omega, by go_num, hM3, hF⟩
                case measure => simp [intOf]; omega
          · obtain rfl : j = i := by omega
            have hl : (starM j a).length = j := (star_tab hTa).len
            go_wp2
            go_ret2
            exact RetMat.ok hX.out (by rw [hl]; rfl) hM hF
end Go.Proofs.Ytlmoaompmiobjaa
