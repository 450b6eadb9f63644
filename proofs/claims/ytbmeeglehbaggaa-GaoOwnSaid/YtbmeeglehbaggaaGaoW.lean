import Derived.Test.YtbmeeglehbaggaaGaoTab
import Derived.Test.YtbmeeglehbaggaaGaoIdx
import Derived.Test.YtbmeeglehbaggaaSl
import Derived.BigQuiet
namespace Go.Proofs.Ytbmeeglehbaggaa
open Go.RowKit

def iotaL (n : Nat) : List Int := (List.range n).map Int.ofNat
theorem iotaL_succ (n : Nat) : iotaL (n + 1) = iotaL n ++ [(n : Int)] := by simp [iotaL, List.range_succ]
theorem iotaL_len (n : Nat) : (iotaL n).length = n := by simp [iotaL]
theorem iotaL_nth {n k : Nat} (h : k < n) : nth (iotaL n) k = k := by simp [iotaL, nth, List.getD, h]
set_option maxRecDepth 100000 in
set_option maxHeartbeats 1000000 in
theorem nodes_any (n : Nat) (w : World) (hn : n ≤ 8) : Calls Try.prog 71 #[.int .i64 n] w (RetNew w 3 1 n (ivals .i64 (iotaL n)) id) := by
  go_enter Try.func71, Try.ntmps71
  go_wp2
  go_loopw [6, 3] (fun s6 s3 wr => ∃ (k : Nat) (ao : Option Addr) (co : Nat) (ob : Option Nat), s6 = .int .i64 k ∧ s3 = .slice ao k co ∧ k ≤ n ∧ Ownd wr.heap 3 1 ao k co (ivals .i64 (iotaL k)) ob ∧ Fr (fun _ => False) w wr ∧ (∀ g, ob = some g → w.heap.size ≤ g)) (fun s6 _ _ => n - (intOf s6).toNat)
  case atStart => exact ⟨0, none, 0, none, rfl, rfl, by omega, Ownd.nil _ _ _, Fr.refl _ _, fun g h => nomatch h⟩
  case round =>
    obtain ⟨k, ao, co, ob, rfl, rfl, hk, hO, hFr, hN⟩ := hrel
    by_cases hkn : k < n
    · have hrd := (Ownd.made wr 3 1 1 [.int .i64 (k : Int)] rfl (by decide)).rd
      go_wp2_with (at_builtin; refine wpList_app rfl _ _ 22 rfl Try.underlying22 infoInt rfl (by decide) rfl rfl (hO.alloc _) hrd (ivals_one .i64 [(k : Int)]) (by omega) (by omega) ?_)
      intro a' c' w6 ob' z1 z2 z3
      have e : ivals .i64 (iotaL k) ++ [.int .i64 (k : Int)] = ivals .i64 (iotaL (k + 1)) := by rw [iotaL_succ]; simp [ivals]
      rw [e] at z1
      have hF6 := Fr.app (hFr.alloc (.cells #[.int .i64 (k : Int)] 3)) z2 hN
      have hN6 : ∀ g, ob' = some g → w.heap.size ≤ g := fun g h => by
        rcases z3 with z3 | ⟨g', z3, z4⟩
        · exact hN g (by rw [← z3, h])
        · rw [z3] at h; cases h
          have := hFr.size
          have z5 := Nat.le_of_succ_le (show wr.heap.size + 1 ≤ g by simpa using z4)
          omega
      clear z2 z3 e hrd hO hFr
      go_wp2
      go_roundw
      case rel => exact ⟨k + 1, a', c', ob', by go_num, rfl, hkn, z1, hF6, hN6⟩
      case measure => simp [intOf]; omega
    · obtain rfl : k = n := by omega
      go_wp2
      go_ret
      exact ⟨ao, co, ob, rfl, hO, hFr, hN⟩

/-- A table in new memory. -/
def RetTab (w : World) (n : Nat) (rs : List (List Int)) (e : Ending) (w' : World) : Prop :=
  ∃ a c ob G C, e = .returned (.slice a n c) ∧ OMat w'.heap w.heap.size 22 3 a c ob rs G C ∧ Fr (fun _ => False) w w'
abbrev zrow (n : Nat) (_ : Nat) : List Int := List.replicate n (0 : Int)
set_option maxRecDepth 100000 in
set_option maxHeartbeats 4000000 in
theorem table_any (n : Nat) (l : List Lk) (a : Option Addr) (c : Nat) (w : World) (hL : Links w.heap a l) (hl : l.length ≤ 9223372036854775807) (hn : 1 ≤ n ∧ n ≤ 8) (hok : DealOk n l) :
    Calls Try.prog 51 #[.int .i64 n, .slice a l.length c] w (RetTab w n (tabR n l)) := by
  obtain ⟨n1, n8⟩ := hn
  have HOK := Lib.hid hok
  have HL := Lib.hid hL
  clear hok hL
  go_enter Try.func51, Try.ntmps51
  go_wp2
  go_loopw [9, 5] (fun s9 s5 wr => ∃ (i : Nat) (a : Option Addr) (c : Nat) (ob : Option Nat) (G C : Nat → Nat), i ≤ n ∧ s9 = .int .i64 i ∧ s5 = .slice a i c ∧ OMat wr.heap w.heap.size 22 3 a c ob (ran i (zrow n)) G C ∧ Fr (fun _ => False) w wr) (fun s _ _ => n - (intOf s).toNat)
  case atStart => exact ⟨0, none, 0, none, fun _ => 0, fun _ => 0, by omega, rfl, rfl, OMat.nil _ _ _ _ _ _, Fr.refl _ _⟩
  case round =>
    obtain ⟨i, ao, co, ob, G, C, hi, rfl, rfl, hM, hF⟩ := hrel
    by_cases hlt : i < n
    · go_wp2_with (at_make; refine wpList_mk rfl _ _ 22 rfl Try.underlying22 infoInt rfl n rfl rfl rfl rfl (by omega) (by omega) ?_)
      intro w2 hB2 hF2 hs2
      have hrl : (zrow n i).length = n := by simp
      have hO1 : Ownd w2.heap 3 1 (some ⟨wr.heap.size, 0, none⟩) (zrow n i).length n (ivals .i64 (zrow n i)) (some wr.heap.size) := by
        have := hB2.own (n := n) (cap := n) (sz := 1) (Nat.le_refl _) (by unfold maxLen; omega) (by simp)
        rw [hrl]
        have e : (List.replicate n (Value.int .i64 0)).take (n * 1) = ivals .i64 (zrow n i) := by
          rw [List.take_of_length_le (by simp)]
          simp [ivals]
        rw [e] at this
        exact this
      have hFw1 : Fr (fun _ => False) w w2 := hF.trans hF2
      have hM1 := hM.fr hF2 (fun _ _ _ h => h)
      have hlen : (ran i (zrow n)).length = i := ran_len _ _
      have hob : ob ≠ some wr.heap.size := fun h => by have := (hM.top.lt _ h); omega
      have hGg : ∀ j, j < i → G j ≠ wr.heap.size := fun j hj h => by have := (hM.row j (by simpa using hj)).lt _ rfl; omega
      have htop := (hM1.alloc (.cells #[.slice (some ⟨wr.heap.size, 0, none⟩) n n] 22)).top
      rw [hlen] at htop
      have hrd := (Ownd.made w2 22 1 1 [.slice (some ⟨wr.heap.size, 0, none⟩) n n] rfl (by decide)).rd
      clear hB2
      go_wp2_with (at_builtin; refine wpList_app rfl _ _ 96 rfl Try.underlying96 infoInts rfl (by decide) rfl rfl htop hrd (by simp [Value.oneCell']) (by omega) (by omega) ?_)
      intro a' c' w3 ob' z1 z2 z3
      have hP := OMat.push (r := zrow n i) (cr := n) (hM1.alloc (.cells #[.slice (some ⟨wr.heap.size, 0, none⟩) n n] 22)) (hO1.alloc _) (by have := hF.size; omega) hob (fun j hj => hGg j (by rw [hlen] at hj; exact hj)) (by have := (hFw1.alloc (.cells #[.slice (some ⟨wr.heap.size, 0, none⟩) n n] 22)).size; exact this) (by rw [hlen, hrl]) (by rw [hlen]; exact z1) z2 (by simpa using z3)
      have hF3 := Fr.app (hFw1.alloc _) z2 (fun k hk => (hM1.obn k hk).1)
      have e : ran i (zrow n) ++ [zrow n i] = ran (i + 1) (zrow n) := by simp [ran, List.range_succ]
      rw [e] at hP
      clear e htop hrd hO1 z1 z2 z3 hM1 hM
      go_wp2
      go_roundw
      case rel => exact ⟨i + 1, a', c', ob', _, _, by omega, by go_num, rfl, hP, hF3⟩
      case measure => simp [intOf]; omega
    · obtain rfl : i = n := by omega
      obtain ⟨L, hL⟩ : ∃ L, L = l.length := ⟨_, rfl⟩
      have HLN := Lib.hid hL
      go_wp2
      go_loopw [19] (fun s wx => ∃ k : Nat, k ≤ l.length ∧ s = .int .i64 k ∧ OMat wx.heap w.heap.size 22 3 ao co ob ((l.take k).foldl putD (tab0 i)) G C ∧ Fr (fun _ => False) w wx) (fun s _ => l.length - (intOf s).toNat)
      case atStart => exact ⟨0, by omega, rfl, hM, hF⟩
      case round =>
        clear hM hF
        obtain ⟨k, hk, rfl, hM, hF⟩ := hrel
        by_cases hkl : k < l.length
        · have hsq := foldD_sq (l.take k) _ (tab0_sq i) (fun x hx => HOK.out.lt x (List.mem_of_mem_take hx))
          have hfold : (l.take (k + 1)).foldl putD (tab0 i) = putD ((l.take k).foldl putD (tab0 i)) (nth l k) := by rw [take_succ_nth l k hkl, List.foldl_append]; rfl
          generalize (l.take k).foldl putD (tab0 i) = R at *
          obtain ⟨b, off, rfl, hb, hc⟩ := Recs.pos HL.out Lk.cells_len (by omega) (by omega)
          obtain ⟨x, hx⟩ : ∃ x, x = nth l k := ⟨_, rfl⟩
          have c0 : wr.cell? ⟨b, off + k * 3, none⟩ = some (.int .i64 x.a) := by rw [hx]; exact (hF.cell (p := ⟨b, off + k * 3, none⟩) hb (fun h => h)).trans (hc w rfl k 0 hkl (by omega))
          have c1 : wr.cell? ⟨b, off + k * 3 + 1, none⟩ = some (.int .i64 x.b) := by rw [hx]; exact (hF.cell (p := ⟨b, off + k * 3 + 1, none⟩) hb (fun h => h)).trans (hc w rfl k 1 hkl (by omega))
          have c2 : wr.cell? ⟨b, off + k * 3 + 2, none⟩ = some (.int .i64 x.c) := by rw [hx]; exact (hF.cell (p := ⟨b, off + k * 3 + 2, none⟩) hb (fun h => h)).trans (hc w rfl k 2 hkl (by omega))
          clear hc
          obtain ⟨hg1, hg2⟩ := HOK.out.ok x (by rw [hx]; exact nth_mem l k hkl)
          rw [← hx] at hfold
          have HFO := Lib.hid hfold
          clear hfold hx
          obtain ⟨xa, xb, xc⟩ := x
          unfold Lk.badD at hg1
          simp only at c0 c1 c2 hg1 hg2
          obtain ⟨xa, rfl⟩ := Int.eq_ofNat_of_zero_le (show 0 ≤ xa by omega)
          obtain ⟨xb, rfl⟩ := Int.eq_ofNat_of_zero_le (show 0 ≤ xb by omega)
          have ha : xa < i := by omega
          have hb' : xb < i := by omega
          have hne : xa ≠ xb := fun h => hg2 (by rw [h])
          have hxc : 1 ≤ xc ∧ xc ≤ 3 := by omega
          clear hg1 hg2
          obtain ⟨bt, ot, rfl, x1, x2, x3⟩ := OMat.cells hM hsq.len hsq.rows xa xb ha hb'
          obtain ⟨_, _, hh, y1, y2, y3⟩ := OMat.cells hM hsq.len hsq.rows xb xa hb' ha
          cases hh
          have l1 : G xa < wr.heap.size := (hM.row xa (by rw [hsq.len]; exact ha)).lt _ rfl
          have l2 : G xb < wr.heap.size := (hM.row xb (by rw [hsq.len]; exact hb')).lt _ rfl
          have l3 : bt < wr.heap.size := by
            obtain ⟨_, _, h1, h2, _⟩ := hM.mat.pos (by rw [hsq.len]; omega)
            cases h1; exact h2
          have l4 : b < wr.heap.size := by have := hF.size; omega
          have hset1 := OMat.set hM xa xb xc (by rw [hsq.len]; exact ha)
          have hset2 := (OMat.set hset1 xb xa (4 - xc) (by rw [List.length_set, hsq.len]; exact hb')).alloc (.cells #[.int .i64 xa, .int .i64 xb, .int .i64 xc] 132)
          have HS := Lib.hid hset2
          have hga := hM.gn xa (by rw [hsq.len]; exact ha)
          have hgb := hM.gn xb (by rw [hsq.len]; exact hb')
          clear hset1 hset2 hM
          have q0 : ∀ c : Cls (fun k => k = G xa) (wr.alloc (.cells #[.int .i64 xa, .int .i64 xb, .int .i64 xc] 132)), c.wo.cell? ⟨wr.heap.size, 0, none⟩ = some (.int .i64 xa) := fun c => by
            rw [c.fr.cell (by simp) (by show ¬ wr.heap.size = G xa; omega)]
            simp
          have q2 : ∀ c : Cls (fun k => k = G xa) (wr.alloc (.cells #[.int .i64 xa, .int .i64 xb, .int .i64 xc] 132)), c.wo.cell? ⟨wr.heap.size, 2, none⟩ = some (.int .i64 xc) := fun c => by
            rw [c.fr.cell (by simp) (by show ¬ wr.heap.size = G xa; omega)]
            simp
          go_wp2
          (refine wp_region_mix (fun w' => ∃ c : Cls (fun k => k = G xa) (wr.alloc (.cells #[.int .i64 xa, .int .i64 xb, .int .i64 xc] 132)), w' = c.wo) 21 (by kernel_rfl) (by kernel_rfl) (⟨⟨_, (Fr.refl _ _).drew⟩, rfl⟩) ?_; simp only [List.take_succ_cons, List.take_zero, List.drop_succ_cons, List.drop_zero])
          (refine wpMix_earlyN 12 (by kernel_rfl) (by kernel_rfl) ?_; simp only [List.take_succ_cons, List.take_zero, List.drop_succ_cons, List.drop_zero]; (repeat (go_big_quiet_step (fail))); refine wpQuiet_nil ?_)
          (refine wpMix_lateN 2 (⟨⟨_, (Fr.refl _ _).drew⟩, rfl⟩) (by kernel_rfl) ?_; simp only [List.take_succ_cons, List.take_zero, List.drop_succ_cons, List.drop_zero]; (repeat (go_big_quiet_step (fail))); refine wpQuiet_nil ?_)
          (refine wpMix_earlyN 2 (by kernel_rfl) (by kernel_rfl) ?_; simp only [List.take_succ_cons, List.take_zero, List.drop_succ_cons, List.drop_zero]; (repeat (go_big_quiet_step (fail))); refine wpQuiet_nil ?_)
          (refine wpMix_lateN 3 (⟨⟨_, (Fr.refl _ _).drew⟩, rfl⟩) (by kernel_rfl) ?_; simp only [List.take_succ_cons, List.take_zero, List.drop_succ_cons, List.drop_zero]; (repeat (go_big_quiet_step (fail))); refine wpQuiet_nil ?_)
          (refine wpMix_earlyN 1 (by kernel_rfl) (by kernel_rfl) ?_; simp only [List.take_succ_cons, List.take_zero, List.drop_succ_cons, List.drop_zero]; (repeat (go_big_quiet_step (fail))); refine wpQuiet_nil ?_)
          refine wpMix_eff (by kernel_rfl) ?_
          go_wp2
          refine ⟨⟨⟨_, (Fr.past (S := fun k => k = G xa) _ (G xa) xb _ l1 rfl).drew⟩, rfl⟩, ?_⟩
          refine wpMix_nil ?_
          go_wp2
          go_roundw
          case rel => exact ⟨k + 1, by omega, by go_num, by rw [HFO.out]; exact HS.out, (((hF.setCell (fun h => by simp only at h; omega) _).setCell (fun h => by simp only at h; omega) _).alloc _).drew⟩
          case measure => simp [intOf]; omega
        · obtain rfl : k = l.length := by omega
          rw [List.take_length] at hM
          go_wp2
          go_ret
          exact ⟨_, _, _, _, _, rfl, hM, hF⟩
end Go.Proofs.Ytbmeeglehbaggaa
