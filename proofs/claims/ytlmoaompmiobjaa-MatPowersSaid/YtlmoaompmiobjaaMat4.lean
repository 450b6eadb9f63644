import Derived.Test.YtlmoaompmiobjaaMat3
namespace Go.Proofs.Ytlmoaompmiobjaa
open Go.RowKit

def RetM (w : World) (rs : List (List Int)) (e : Ending) (w' : World) : Prop :=
  ∃ a c ob G C, e = .returned (.slice a rs.length c) ∧ OMat w'.heap w.heap.size 28 3 a c ob rs G C ∧ Fr (fun _ => False) w w'
def leastM (n : Nat) (a b : List (List Int)) : List (List Int) := tab n fun i k => imin (at2 a i k) (at2 b i k)

set_option maxRecDepth 100000 in
set_option maxHeartbeats 2000000 in
theorem least_any (n : Nat) (a b : List (List Int)) (aa ab : Option Addr) (ca cb : Nat) (A B : Nat → Option Addr) (CA CB : Nat → Nat) (w : World) (hA : Mat w.heap aa a A CA) (hB : Mat w.heap ab b B CB) (hTa : Tab n a) (hTb : Tab n b) :
    Calls Try.prog 19 #[.slice aa n ca, .slice ab n cb] w (RetM w (leastM n a b)) := by
  have n1 := hTa.n1
  have n8 := hTa.n8
  have lA := hTa.len
  have lB := hTb.len
  obtain ⟨E, hE⟩ : ∃ E : Nat → Nat → Int, E = fun i k => imin (at2 a i k) (at2 b i k) := ⟨_, rfl⟩
  have hX := Lib.hid (show leastM n a b = tab n E by rw [hE]; rfl)
  have hES : ∀ i k, E i k = if nth (nth b i) k < nth (nth a i) k then nth (nth b i) k else nth (nth a i) k := fun i k => by rw [hE]; rfl
  clear hE
  go_enter Try.func19, Try.ntmps19
  go_wp2
  go_loopw [6, 5] (fun s6 s5 wr => ∃ (i : Nat) (ao : Option Addr) (co : Nat) (ob : Option Nat) (G C : Nat → Nat), i ≤ n ∧ s6 = .int .i64 i ∧ s5 = .slice ao i co ∧ OMat wr.heap w.heap.size 28 3 ao co ob (ran i fun i => ran n (E i)) G C ∧ Fr (fun _ => False) w wr) (fun s _ _ => n - (intOf s).toNat)
  case atStart => exact ⟨0, none, 0, none, fun _ => 0, fun _ => 0, by omega, rfl, rfl, OMat.nil _ _ _ _ _ _, Fr.refl _ _⟩
  case round =>
    obtain ⟨i, ao, co, ob, G, C, hi, rfl, rfl, hM, hF⟩ := hrel
    by_cases hlt : i < n
    · obtain ⟨wx, hwx⟩ : ∃ wx, wx = wr := ⟨_, rfl⟩
      subst hwx
      obtain ⟨bA, oA, rfl, hbA, hcA⟩ := hA.pos (by omega)
      have hAi := hcA w rfl i (by omega)
      obtain ⟨bB, oB, rfl, hbB, hcB⟩ := hB.pos (by omega)
      have hBi := hcB w rfl i (by omega)
      rw [hTa.rows i hlt] at hAi
      rw [hTb.rows i hlt] at hBi
      obtain ⟨bR, oR, hAA, hbR, hcR⟩ := Ints.pos (hA.row i (by omega)) (by rw [hTa.rows i hlt]; omega)
      obtain ⟨bS, oS, hBB, hbS, hcS⟩ := Ints.pos (hB.row i (by omega)) (by rw [hTb.rows i hlt]; omega)
      rw [hAA] at hAi
      rw [hBB] at hBi
      have hR : ∀ k, k < n → w.cell? ⟨bR, oR + k, none⟩ = some (.int .i64 (nth (nth a i) k)) := fun k hk => hcR w rfl k (by rw [hTa.rows i hlt]; exact hk)
      have hS : ∀ k, k < n → w.cell? ⟨bS, oS + k, none⟩ = some (.int .i64 (nth (nth b i) k)) := fun k hk => hcS w rfl k (by rw [hTb.rows i hlt]; exact hk)
      clear hcA hcB hcR hcS
      go_wp2
      go_loopw [8, 7] (fun s8 s7 wy => ∃ (k : Nat) (ar : Option Addr) (cr : Nat) (obr : Option Nat), k ≤ n ∧ s8 = .int .i64 k ∧ s7 = .slice ar k cr ∧ Own wy.heap 3 1 ar k cr (ivals .i64 (ran k (E i))) obr ∧ Fr (fun _ => False) wx wy ∧ (∀ g, obr = some g → wx.heap.size ≤ g)) (fun s _ _ => n - (intOf s).toNat)
      case atStart => exact ⟨0, none, 0, none, by omega, rfl, rfl, Own.nil _ _ _, Fr.refl _ _, fun g h => nomatch h⟩
      case round =>
        obtain ⟨k, ar, cr, obr, hk, rfl, rfl, hO, hF2, hN⟩ := hrel
        have hFw := hF.trans hF2
        by_cases hkl : k < n
        · have f1 := (hFw.cell (p := ⟨bA, oA + i, none⟩) hbA (fun x => x)).trans hAi
          have f2 := (hFw.cell (p := ⟨bB, oB + i, none⟩) hbB (fun x => x)).trans hBi
          have f3 := (hFw.cell (p := ⟨bR, oR + k, none⟩) hbR (fun x => x)).trans (hR k hkl)
          have f4 := (hFw.cell (p := ⟨bS, oS + k, none⟩) hbS (fun x => x)).trans (hS k hkl)
          by_cases hmn : nth (nth b i) k < nth (nth a i) k
          · have hek : E i k = nth (nth b i) k := by rw [hES, if_pos hmn]
            have HEK := Lib.hid hek
            have hrd := (Own.made wr 3 1 1 [.int .i64 (nth (nth b i) k)] rfl (by decide)).rd
            clear hek
            go_wp2
            (refine wp_region_mix (fun _ => True) 17 (by kernel_rfl) (by kernel_rfl) (trivial) ?_; simp only [List.take_succ_cons, List.take_zero, List.drop_succ_cons, List.drop_zero])
            (refine wpMix_lateN 1 (trivial) (by kernel_rfl) ?_; simp only [List.take_succ_cons, List.take_zero, List.drop_succ_cons, List.drop_zero]; (repeat (go_big_quiet_step (fail))); refine wpQuiet_nil ?_)
            (refine wpMix_earlyN 15 (by kernel_rfl) (by kernel_rfl) ?_; simp only [List.take_succ_cons, List.take_zero, List.drop_succ_cons, List.drop_zero]; (repeat (go_big_quiet_step (fail))); refine wpQuiet_nil ?_)
            refine wpMix_eff (by kernel_rfl) ?_
            go_wp2
            refine wpMix_nil ?_
            go_wp2_with (at_builtin; refine wpList_app rfl _ _ 28 rfl Try.underlying28 infoInt rfl (by decide) rfl rfl (hO.alloc _) hrd (ivals_one .i64 [nth (nth b i) k]) (by omega) (by omega) ?_)
            intro a' c' w6 ob' z1 z2 z3
            have e : ivals .i64 (ran k (E i)) ++ [.int .i64 (nth (nth b i) k)] = ivals .i64 (ran (k + 1) (E i)) := by rw [← HEK.out]; simp [ran, ivals, List.range_succ]
            have hO6 : Own w6.heap 3 1 a' (k + 1) c' (ivals .i64 (ran (k + 1) (E i))) ob' := by rw [← e]; simpa [ivals, ran] using z1
            have hF6 := Fr.app (hF2.alloc _).drew z2 hN
            have hN6 := app_new hN z3 (by have := hF2.size; simp; omega)
            clear e z1 z2 z3
            go_wp2
            go_roundw
            case rel => exact ⟨k + 1, a', c', ob', by omega, by go_num, rfl, hO6, hF6, hN6⟩
            case measure => simp [intOf]; omega
          · have hek : E i k = nth (nth a i) k := by rw [hES, if_neg hmn]
            have HEK := Lib.hid hek
            have hrd := (Own.made wr 3 1 1 [.int .i64 (nth (nth a i) k)] rfl (by decide)).rd
            clear hek
            go_wp2
            (refine wp_region_mix (fun _ => True) 17 (by kernel_rfl) (by kernel_rfl) (trivial) ?_; simp only [List.take_succ_cons, List.take_zero, List.drop_succ_cons, List.drop_zero])
            (refine wpMix_lateN 1 (trivial) (by kernel_rfl) ?_; simp only [List.take_succ_cons, List.take_zero, List.drop_succ_cons, List.drop_zero]; (repeat (go_big_quiet_step (fail))); refine wpQuiet_nil ?_)
            (refine wpMix_earlyN 15 (by kernel_rfl) (by kernel_rfl) ?_; simp only [List.take_succ_cons, List.take_zero, List.drop_succ_cons, List.drop_zero]; (repeat (go_big_quiet_step (fail))); refine wpQuiet_nil ?_)
            refine wpMix_eff (by kernel_rfl) ?_
            go_wp2
            refine wpMix_nil ?_
            go_wp2_with (at_builtin; refine wpList_app rfl _ _ 28 rfl Try.underlying28 infoInt rfl (by decide) rfl rfl (hO.alloc _) hrd (ivals_one .i64 [nth (nth a i) k]) (by omega) (by omega) ?_)
            intro a' c' w6 ob' z1 z2 z3
            have e : ivals .i64 (ran k (E i)) ++ [.int .i64 (nth (nth a i) k)] = ivals .i64 (ran (k + 1) (E i)) := by rw [← HEK.out]; simp [ran, ivals, List.range_succ]
            have hO6 : Own w6.heap 3 1 a' (k + 1) c' (ivals .i64 (ran (k + 1) (E i))) ob' := by rw [← e]; simpa [ivals, ran] using z1
            have hF6 := Fr.app (hF2.alloc _).drew z2 hN
            have hN6 := app_new hN z3 (by have := hF2.size; simp; omega)
            clear e z1 z2 z3
            go_wp2
            go_roundw
            case rel => exact ⟨k + 1, a', c', ob', by omega, by go_num, rfl, hO6, hF6, hN6⟩
            case measure => simp [intOf]; omega
        · obtain rfl : k = n := by omega
          obtain ⟨g, rfl, rfl, hg, -, -⟩ := hO.pos (by omega)
          have hgx := hN g rfl
          have hlen : (ran i fun i => ran k (E i)).length = i := ran_len _ _
          have hrl : (ran k (E i)).length = k := ran_len _ _
          have hob : ob ≠ some g := fun h => by have := (hM.top.lt g h); omega
          have hGg : ∀ q, q < i → G q ≠ g := fun q hq h => by have := (hM.row q (by rw [hlen]; exact hq)).lt _ rfl; omega
          have hgw : w.heap.size ≤ g := by have := hF.size; omega
          have hM4 := hM.fr hF2 (fun _ _ _ h => h)
          have htop := (hM4.alloc (.cells #[.slice (some ⟨g, 0, none⟩) k cr] 28)).top
          rw [hlen] at htop
          have hrd := (Own.made wr 28 1 1 [.slice (some ⟨g, 0, none⟩) k cr] rfl (by decide)).rd
          go_wp2_with (at_builtin; refine wpList_app rfl _ _ 27 rfl Try.underlying27 infoInts rfl (by decide) rfl rfl htop hrd (by simp [Value.oneCell']) (by omega) (by omega) ?_)
          intro a' c' w6 ob' z1 z2 z3
          go_wp2
          have hP := OMat.push (r := ran k (E i)) (cr := cr) (hM4.alloc (.cells #[.slice (some ⟨g, 0, none⟩) k cr] 28)) (by rw [hrl]; exact hO.alloc _) hgw hob (fun q hq => hGg q (by rw [hlen] at hq; exact hq)) (by have := (hFw.alloc (.cells #[.slice (some ⟨g, 0, none⟩) k cr] 28)).size; exact this) (by rw [hlen, hrl]) (by rw [hlen]; exact z1) z2 (by simpa using z3)
          have hF6 := Fr.app (hFw.alloc _) z2 (fun k hk => (hM4.obn k hk).1)
          have e : (ran i fun i => ran k (E i)) ++ [ran k (E i)] = ran (i + 1) fun i => ran k (E i) := by simp [ran, List.range_succ]
          rw [e] at hP
          clear e htop hrd hO z1 z2 z3 hM4 hM
          go_roundw
          case rel => exact ⟨i + 1, a', c', ob', _, _, by omega, by go_num, rfl, hP, hF6⟩
          case measure => simp [intOf]; omega
    · obtain rfl : i = n := by omega
      go_wp2
      go_ret
      exact ⟨ao, co, ob, G, C, by rw [hX.out, tab_len]; rfl, by rw [hX.out]; exact hM, hF⟩
end Go.Proofs.Ytlmoaompmiobjaa
