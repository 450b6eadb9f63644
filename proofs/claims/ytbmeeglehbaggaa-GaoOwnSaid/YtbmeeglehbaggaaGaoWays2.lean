import Derived.Test.YtbmeeglehbaggaaGaoWays
namespace Go.Proofs.Ytbmeeglehbaggaa
open Go.RowKit

theorem offers_good {n i : Nat} {W : Nat → Nat → Int} {l : List Wy} (h : GoodG n l) (hi : i < n) : ∀ x ∈ offersL W l i, x.p.length ≤ n := fun x hx => by
  obtain ⟨k, k1, k2⟩ := offer_mem hx
  obtain ⟨-, -, o3, -, o5⟩ := offer_some k2
  obtain ⟨g1, g2⟩ := h _ (nth_mem l k k1)
  rw [o5]
  refine nodup_len _ (List.nodup_cons.2 ⟨o3, g1⟩) (fun z hz => ?_)
  rcases List.mem_cons.1 hz with rfl | hz
  · omega
  · exact g2 z hz
theorem set_self (l : List Wy) (i : Nat) (h : i < l.length) : l.set i (nth l i) = l := by
  rw [nth_eq l i h]; exact List.set_getElem_self h
theorem no_cells (n : Nat) : (List.replicate n [Value.int .i64 0, Value.slice none 0 0]).flatten = (List.replicate n WyR.no).flatMap WyR.cells := by
  rw [List.flatMap_def, List.map_replicate]; rfl
set_option maxRecDepth 100000 in
set_option maxHeartbeats 8000000 in
theorem ways_any (n : Int) (l : List Lk) (tt : Int) (a : Option Addr) (c : Nat) (w : World) (hL : Links w.heap a l) (hl : l.length ≤ 9223372036854775806) (hc : l.length ≤ c) :
    Calls Try.prog 28 #[.int .i64 n, .slice a l.length c, .int .i64 tt] w (fun e w' => match waysErr n l tt with
      | some k => RetV w (.tuple #[.slice none 0 0, errv k]) e w'
      | none => RetWs w n.toNat l tt.toNat e w') := by
  have HL := Lib.hid hL
  obtain ⟨L, hLn⟩ : ∃ L, L = l.length := ⟨_, rfl⟩
  have HN := Lib.hid hLn
  have hck := gaoCheck_any n l a c w hL hl hc
  rw [← hLn] at hck ⊢
  clear hL hLn
  cases hE : gaoErr n l with
  | some e =>
    rw [show waysErr n l tt = some e by unfold waysErr; rw [hE]]
    rw [hE, show errO (some e) = errv e from rfl] at hck
    clear hE
    go_enter Try.func28, Try.ntmps28
    go_wp2_with (fail)
    refine hck.mono ?_
    rintro e1 w1 ⟨rfl, hF1⟩
    clear hck
    go_wp2
    go_ret2
    exact RetV.mk (x := .tuple #[.slice none 0 0, errv e]) rfl rfl hF1
  | none =>
    rw [hE, show errO none = .nilIface from rfl] at hck
    obtain ⟨N, rfl, n1, n8, hok, -, r, hDW⟩ := gaoErr_ok hE
    by_cases htt : tt < 0 ∨ (N : Int) ≤ tt
    · rw [show waysErr N l tt = some 1 by unfold waysErr; rw [hE]; exact if_pos htt]
      clear hE
      go_enter Try.func28, Try.ntmps28
      go_wp2_with (fail)
      refine hck.mono ?_
      rintro e1 w1 ⟨rfl, hF1⟩
      clear hck
      go_wp2
      all_goals go_ret2
      all_goals exact RetV.mk (x := .tuple #[.slice none 0 0, errv 1]) rfl rfl hF1
    · rw [show waysErr N l tt = none by unfold waysErr; rw [hE]; exact if_neg htt]
      obtain ⟨t, rfl⟩ := Int.eq_ofNat_of_zero_le (show 0 ≤ tt by omega)
      have htN : t < N := by omega
      rw [Int.toNat_natCast, Int.toNat_natCast]
      have HDW := Lib.hid hDW
      have HOK := Lib.hid hok
      have HSQ := Lib.hid (tabR_sq hok)
      clear hE htt hDW hok
      go_enter Try.func28, Try.ntmps28
      go_wp2_with (fail)
      refine hck.mono ?_
      rintro e1 w1 ⟨rfl, hF1⟩
      have ht := table_any N l a c w1 (HL.out.fr hF1 (fun _ _ _ h => h)) (by have := HN.out; omega) ⟨n1, n8⟩ HOK.out
      rw [← HN.out] at ht
      clear hck
      go_wp2_with (fail)
      refine ht.mono ?_
      rintro e2 w2 ⟨at', ct, obt, G, C, rfl, hM, hF2⟩
      have hF02 := hF1.trans hF2
      have hs1 := hF1.size
      clear ht hF2
      obtain ⟨T, hTe⟩ : ∃ T, T = tabR N l := ⟨_, rfl⟩
      rw [← hTe] at hM HDW HSQ
      have HTE := Lib.hid hTe
      clear hTe
      go_wp2_with (at_make; refine wpList_mk rfl _ _ 60 rfl Try.underlying60 infoWy rfl N rfl rfl rfl rfl (by omega) (by omega) ?_)
      intro w3 hB3 hF3 hs3
      have hB3' : Blk w3.heap w2.heap.size 65 ((List.replicate N WyR.no).flatMap WyR.cells) := hB3.eq (no_cells N)
      have hM3 := hM.fr hF3 (fun _ _ _ h => h)
      have hF03 := hF02.trans hF3
      have hsw := hF02.size
      have hswF := hF1.size
      obtain ⟨gw, hgw⟩ : ∃ g, g = w2.heap.size := ⟨_, rfl⟩
      rw [← hgw] at hB3' hs3
      have hgww : w.heap.size ≤ gw := by omega
      have c0 := (hB3'.cell (t * 2 + 0)).trans (flat_get WyR.cells 2 WyR.cells_len _ t 0 (by simpa using htN) (by omega))
      have c1 := (hB3'.cell (t * 2 + 1)).trans (flat_get WyR.cells 2 WyR.cells_len _ t 1 (by simpa using htN) (by omega))
      rw [nth_replicate _ _ _ htN] at c0 c1
      simp only [WyR.cells, List.getElem?_cons_zero, List.getElem?_cons_succ, Nat.add_zero] at c0 c1
      have f0 := hB3'.frozen (t * 2)
      have f1 := hB3'.frozen (t * 2 + 1)
      obtain ⟨w4, hw4⟩ : ∃ y, y = ((w3.setCell ⟨gw, t * 2, none⟩ (.int .i64 0)).setCell ⟨gw, t * 2 + 1, none⟩ (.slice (some ⟨w3.heap.size, 0, none⟩) 1 1)).alloc (.cells #[.int .i64 t] 3) := ⟨_, rfl⟩
      obtain ⟨x0, hx0⟩ : ∃ x : WyR, x = ⟨0, [(t : Int)], some ⟨w3.heap.size, 0, none⟩, 1⟩ := ⟨_, rfl⟩
      have hB4 : Blk w4.heap gw 65 (((List.replicate N WyR.no).set t x0).flatMap WyR.cells) := by
        rw [hw4, ← wy_set2 _ t _ (by simpa using htN), hx0]
        exact ((hB3'.set _ _).set _ _).alloc _
      have hF34 : Fr (fun k => k = gw) w3 w4 := hw4 ▸ ((((Fr.refl (fun k => k = gw) w3).setCell (p := ⟨gw, t * 2, none⟩) (fun _ => rfl) _).setCell (p := ⟨gw, t * 2 + 1, none⟩) (fun _ => rfl) _).alloc _)
      have hx0R : WRow w.heap.size w4.heap x0 := by
        refine ⟨w3.heap.size, by rw [hx0], ?_, by omega⟩
        have := Ownd.made ((w3.setCell ⟨gw, t * 2, none⟩ (.int .i64 0)).setCell ⟨gw, t * 2 + 1, none⟩ (.slice (some ⟨w3.heap.size, 0, none⟩) 1 1)) 3 1 1 [.int .i64 (t : Int)] rfl (by decide)
        rw [hw4, hx0]
        simpa using this
      have HS0 : Hid (WsB w.heap.size w4.heap gw ((List.replicate N WyR.no).set t x0)) := Lib.hid (by
        have hn : ∀ j, nth ((List.replicate N WyR.no).set t x0) j = if j = t then x0 else nth (List.replicate N WyR.no) j := fun j => nth_set _ t j _ (by simpa using htN)
        refine ⟨hB4, fun j hj => ?_, fun j k hj hk hjk q hq => ?_⟩
        · rw [List.length_set, List.length_replicate] at hj
          rw [hn]; split
          · exact .inr hx0R
          · exact .inl (nth_replicate _ _ _ hj)
        · rw [List.length_set, List.length_replicate] at hj hk
          rw [hn] at hq ⊢
          by_cases h1 : j = t
          · rw [if_neg (fun e => hjk (by omega)), nth_replicate _ _ _ hk]; intro e; cases e
          · rw [if_neg h1, nth_replicate _ _ _ hj] at hq; cases hq)
      have HM0 : Hid (((List.replicate N WyR.no).set t x0).map WyR.wy = microG (at2 T) t N (0 * N)) := Lib.hid (by
        rw [Nat.zero_mul, List.map_set, List.map_replicate, hx0]; rfl)
      have HL0 : Hid (((List.replicate N WyR.no).set t x0).length = N) := Lib.hid (by simp)
      have hM4 := hM3.fr' hF34 (fun k hk => by
        have hk : k = gw := hk
        subst hk
        rw [hgw]
        exact ⟨fun i hi e => by have := (hM.row i hi).lt _ rfl; omega, fun e => by have := hM.top.lt _ e; omega⟩)
      have hMg : ∀ k, k = gw → (∀ i, i < T.length → G i ≠ k) ∧ obt ≠ some k := fun k hk => by
        subst hk
        rw [hgw]
        exact ⟨fun i hi e => by have := (hM.row i hi).lt _ rfl; omega, fun e => by have := hM.top.lt _ e; omega⟩
      have hF04 : Fr (fun _ => False) w w4 := hF03.trans' hF34 (fun i hi h => by have h : i = gw := h; omega)
      have hg4 := hB4.lt
      obtain ⟨M, hMs⟩ := gao_stops HDW.out htN
      have HMS : Hid (microG (at2 T) t N ((M + 1) * N) = microG (at2 T) t N (M * N)) := Lib.hid (by rw [micro_iter, micro_iter]; exact hMs)
      generalize (List.replicate N WyR.no).set t x0 = R0 at *
      clear hMs hx0R hB4 hF34 hx0 hM hM3 hB3 hF3 hF03 hF02 hF1
      rw [← hgw]
      clear hgw hB3'
      go_wp2
      rw [← hw4]
      clear hw4 c0 c1 f0 f1
      go_loopg [11] (M + 2) (fun f s11 wr => ∃ (ch : Bool) (j : Nat) (R : List WyR), s11 = .bool ch ∧ Hid (R.map WyR.wy = microG (at2 T) t N (j * N)) ∧ Hid (R.length = N) ∧ WsB w.heap.size wr.heap gw R ∧ Fr (fun k => k = gw) w4 wr ∧ Hid ((ch = true ∧ j ≤ M ∧ f = M - j + 2) ∨ (ch = false ∧ f = 1 ∧ microG (at2 T) t N ((j + 1) * N) = microG (at2 T) t N (j * N))))
      case atStart => exact ⟨true, 0, R0, rfl, HM0, HL0, HS0.out, Fr.refl _ _, Lib.hid (.inl ⟨rfl, by omega, by omega⟩)⟩
      case round =>
        clear HS0 HM0 HL0
        obtain ⟨ch, j, R, rfl, hMI, hLR, hS, hFr, hJ⟩ := hrel
        cases ch with
        | false =>
          have HFin : Hid (FinG (at2 (tabR N l)) t N (R.map WyR.wy)) := Lib.hid (by
            rw [← HTE.out]
            rcases hJ.out with ⟨h, -⟩ | ⟨-, -, h⟩
            · cases h
            · refine ⟨j, by rw [hMI.out, micro_iter], ?_⟩
              rw [hMI.out, micro_iter]
              rw [micro_iter, micro_iter] at h
              exact h)
          have hFe := hF04.trans' hFr (fun i hi h => by have h : i = gw := h; omega)
          go_wp2
          go_ret2
          exact ⟨gw, R, rfl, hgww, hLR.out, HFin.out, hS, hFe⟩
        | true =>
          have HJ : Hid (j ≤ M ∧ gk = M - j + 2) := Lib.hid (by
            rcases hJ.out with ⟨-, h1, h2⟩ | ⟨h, -⟩
            · exact ⟨h1, h2⟩
            · cases h)
          have HC0 : Hid (false = decide (microG (at2 T) t N (j * N + 0) ≠ microG (at2 T) t N (j * N))) := Lib.hid (by simp)
          have HM1 : Hid (R.map WyR.wy = microG (at2 T) t N (j * N + 0)) := hMI
          clear hJ hMI
          go_wp2
          go_loopw [43, 11] (fun s43 s11 wx => ∃ (i : Nat) (ch : Bool) (R : List WyR), i ≤ N ∧ s43 = .int .i64 i ∧ s11 = .bool ch ∧ Hid (R.map WyR.wy = microG (at2 T) t N (j * N + i)) ∧ Hid (R.length = N) ∧ WsB w.heap.size wx.heap gw R ∧ Fr (fun k => k = gw) w4 wx ∧ Hid (ch = decide (microG (at2 T) t N (j * N + i) ≠ microG (at2 T) t N (j * N)))) (fun s43 _ _ => N - (intOf s43).toNat)
          case atStart => exact ⟨0, false, R, by omega, rfl, rfl, HM1, hLR, hS, hFr, HC0⟩
          case round =>
            clear hS hFr HC0 HM1 hLR
            obtain ⟨i, ch, R, hi, rfl, rfl, hMI, hLR, hS, hFr, hC⟩ := hrel
            by_cases hiN : i < N
            · by_cases hit : i = t
              · have HN1 : Hid (microG (at2 T) t N (j * N + (i + 1)) = microG (at2 T) t N (j * N + i)) := Lib.hid (by rw [← Nat.add_assoc, micro_succ j hiN]; exact if_pos hit)
                have e1 : ((i : Int) == (t : Int)) = true := by simp [hit]
                clear hit
                go_wp2
                go_roundw
                case rel => exact ⟨i + 1, ch, R, by omega, by go_num, rfl, Lib.hid (by rw [HN1.out]; exact hMI.out), hLR, hS, hFr, Lib.hid (by rw [HN1.out]; exact hC.out)⟩
                case measure => simp [intOf]; omega
              · have e1 : ((i : Int) == (t : Int)) = false := by simp; omega
                have HN1 : Hid (microG (at2 T) t N (j * N + (i + 1)) = (microG (at2 T) t N (j * N + i)).set i (bestL (offersL (at2 T) (R.map WyR.wy) i))) := Lib.hid (by rw [← Nat.add_assoc, micro_succ j hiN, hMI.out]; exact if_neg hit)
                have HG : Hid (GoodG N (R.map WyR.wy)) := Lib.hid (by rw [hMI.out]; exact good_micro htN _)
                obtain ⟨wb, hwb⟩ : ∃ y, y = wr.alloc (.cells #[.int .i64 0, .slice none 0 0] 65) := ⟨_, rfl⟩
                have hFb : Fr (fun _ => False) wr wb := hwb ▸ ((Fr.refl (fun _ => False) wr).alloc _)
                have hBb : Blk wb.heap wr.heap.size 65 (WyR.cells WyR.no) := by rw [hwb]; exact Blk.made wr 65 _
                have hSb := hS.fr0 hFb
                have hFrb := hFr.trans (hFb.none _)
                have hMb := (hM4.fr' hFr hMg).fr hFb (fun _ _ _ h => h)
                have hsb : wb.heap.size = wr.heap.size + 1 := by rw [hwb, World.size_alloc]
                have hrs := hFr.size
                have hof := offers_any R (some ⟨gw, 0, none⟩) N wb hMb HSQ.out (hSb.wrd hLR.out HG.out n8) hLR.out hiN n8
                clear hit hMb
                go_wp2_with (fail)
                rw [← hwb]
                clear hwb
                refine hof.mono ?_
                rintro e5 w5 ⟨R', a5, n5, c5, ob5, rfl, hn5, hW5, hO5, hRow5, hF5, hN5⟩
                have hS5 := hSb.fr0 hF5
                have hFr5 := hFrb.trans (hF5.none _)
                have hB5 := hBb.fr hF5 (fun h => h)
                have hs5 := hF5.size
                have hOld : ∀ k, k < R.length → ∀ g, (nth R k).A = some ⟨g, 0, none⟩ → g < wr.heap.size := fun k hk g hg => by
                  rcases hS.row k hk with e2 | ⟨g', h1, h2, -⟩
                  · rw [e2] at hg; cases hg
                  · rw [h1] at hg; cases hg
                    exact h2.lt _ rfl
                have HRow := Lib.hid hRow5
                have HW5 := Lib.hid hW5
                have HN5 := Lib.hid hn5
                have hn5b : n5 ≤ N := by
                  rw [hn5, ← List.length_map (f := WyR.wy), hW5]
                  unfold offersL offersT
                  refine Nat.le_trans (List.length_filterMap_le _ _) ?_
                  rw [List.length_range, List.length_map, hLR.out]; exact Nat.le_refl _
                clear hof hSb hFrb hBb hF5 hRow5 hW5 hn5 hS hFr hFb
                have HG5 : Hid (∀ x ∈ R', x.p.length ≤ N) := Lib.hid (fun x hx => offers_good (W := at2 T) HG.out hiN x.wy (by rw [← HW5.out]; exact List.mem_map.2 ⟨x, hx, rfl⟩))
                generalize wr.heap.size = b13 at *
                go_wp2
                go_loopw [54] (fun s54 wr => ∃ (q : Nat) (bx : WyR), q ≤ n5 ∧ s54 = .int .i64 q ∧ Blk wr.heap b13 65 (WyR.cells bx) ∧ Hid (bx.wy = ((R'.map WyR.wy).take q).foldl pickB Wy.no) ∧ Hid (bx = WyR.no ∨ bx ∈ R') ∧ Fr (fun k => k = b13) w5 wr) (fun s54 _ => n5 - (intOf s54).toNat)
                case atStart => exact ⟨0, WyR.no, by omega, rfl, hB5, Lib.hid rfl, Lib.hid (.inl rfl), Fr.refl _ _⟩
                case round =>
                  clear hB5
                  obtain ⟨q, bx, hq, rfl, hBx, hP, hIn, hF⟩ := hrel
                  by_cases hqn : q < n5
                  · have hqR : q < R'.length := by have := HN5.out; omega
                    obtain ⟨g5, rfl, rfl, hg5, hc5, -⟩ := hO5.pos (by omega)
                    have hg5n := hN5 g5 rfl
                    have hg5b : ¬ g5 = b13 := by omega
                    have d0 := (hF.cell (p := ⟨g5, q * 2 + 0, none⟩) hg5 hg5b).trans ((hc5 (q * 2 + 0) (by omega)).trans (flat_get WyR.cells 2 WyR.cells_len R' q 0 hqR (by omega)))
                    have d1 := (hF.cell (p := ⟨g5, q * 2 + 1, none⟩) hg5 hg5b).trans ((hc5 (q * 2 + 1) (by omega)).trans (flat_get WyR.cells 2 WyR.cells_len R' q 1 hqR (by omega)))
                    have hgy := Nat.lt_of_lt_of_le hg5 hF.size
                    have HRx : Hid (WRow wb.heap.size w5.heap (nth R' q)) := Lib.hid (HRow.out _ (nth_mem R' q hqR))
                    have HMx := Lib.hid (nth_mem R' q hqR)
                    have HP1 : Hid (((R'.map WyR.wy).take (q + 1)).foldl pickB Wy.no = pickB bx.wy (nth R' q).wy) := Lib.hid (by
                      rw [take_succ_nth _ q (by rw [List.length_map]; exact hqR), List.foldl_append, ← hP.out, nth_map _ _ _ hqR]; rfl)
                    generalize nth R' q = x at *
                    have hIx : Ints wr.heap x.A x.p := by
                      obtain ⟨g, h1, h2, h3⟩ := HRx.out
                      exact (h2.fr hF (fun g' e e2 => by cases e; have e2 : g = b13 := e2; omega)).rd
                    have hIb : Ints wr.heap bx.A bx.p := by
                      rcases hIn.out with e | hm
                      · rw [e]; exact Rd.nil _ _ _
                      · obtain ⟨g, h1, h2, h3⟩ := HRow.out _ hm
                        exact (h2.fr hF (fun g' e e2 => by cases e; have e2 : g = b13 := e2; omega)).rd
                    have hlx : x.p.length ≤ 9223372036854775807 := Nat.le_trans (HG5.out _ HMx.out) (by omega)
                    have hlb : bx.p.length ≤ 9223372036854775807 := by
                      rcases hIn.out with e | hm
                      · rw [e]; simp
                      · exact Nat.le_trans (HG5.out _ hm) (by omega)
                    have b0 := hBx.cell 0
                    have b1 := hBx.cell 1
                    have bf0 := hBx.frozen 0
                    have bf1 := hBx.frozen 1
                    have hbl := hBx.lt
                    simp only [WyR.cells, List.getElem?_cons_zero, List.getElem?_cons_succ, Nat.add_zero] at d0 d1 b0 b1
                    have hFx := (Fr.refl (fun _ => False) wr).alloc (.cells #[.int .i64 x.t, .slice x.A x.p.length x.C] 65)
                    have hbt := better_any x bx (wr.alloc (.cells #[.int .i64 x.t, .slice x.A x.p.length x.C] 65)) (hIx.fr hFx (fun _ _ _ h => h)) (hIb.fr hFx (fun _ _ _ h => h)) rfl rfl hlx hlb
                    have HB1 := Lib.hid (hBx.fr hFx (fun h => h))
                    have hFy := hF.trans (hFx.none _)
                    have HPB : Hid (pickB bx.wy x.wy = if better x.wy bx.wy = true then x.wy else bx.wy) := Lib.hid rfl
                    obtain ⟨xt, xp, xA, xC⟩ := x
                    obtain ⟨bt, bp, bA, bC⟩ := bx
                    simp only at hbt d0 d1 b0 b1
                    generalize hX : xp.length = X at *
                    generalize hY : bp.length = Y at *
                    have HX := Lib.hid hX
                    have HY := Lib.hid hY
                    generalize better ⟨xt, xp⟩ ⟨bt, bp⟩ = V at *
                    clear hX hY hqR hc5 hBx hF hFx hIx hIb
                    go_wp2_with (fail)
                    refine hbt.mono ?_
                    rintro e6 w6 ⟨rfl, hF6⟩
                    have hB6 := HB1.out.fr hF6 (fun h => h)
                    have hFy6 := hFy.trans (hF6.none _)
                    have x60 := (hF6.cell (p := ⟨wr.heap.size, 0, none⟩) (by simp) (fun h => h)).trans (show _ = some (Value.int .i64 xt) by simp)
                    have x61 := (hF6.cell (p := ⟨wr.heap.size, 1, none⟩) (by simp) (fun h => h)).trans (show _ = some (Value.slice xA X xC) by simp)
                    have x62 : wr.heap.size < w6.heap.size := by have := hF6.size; rw [World.size_alloc] at this; omega
                    have y60 := hB6.cell 0
                    have y61 := hB6.cell 1
                    have y6f := hB6.frozen 0
                    have y6g := hB6.frozen 1
                    have hbl6 := hB6.lt
                    simp only [List.getElem?_cons_zero, List.getElem?_cons_succ] at y60 y61
                    clear hbt hF6 hFy b0 b1 bf0 bf1
                    cases V with
                    | true =>
                      have HP2 : Hid ((⟨xt, xp, xA, xC⟩ : WyR).wy = ((R'.map WyR.wy).take (q + 1)).foldl pickB Wy.no) := Lib.hid (by rw [HP1.out, HPB.out]; rfl)
                      have HB2 : Hid (Blk ((w6.setCell ⟨b13, 0, none⟩ (.int .i64 xt)).setCell ⟨b13, 1, none⟩ (.slice xA X xC)).heap b13 65 (WyR.cells ⟨xt, xp, xA, xC⟩)) := Lib.hid (((hB6.set 0 (.int .i64 xt)).set 1 (.slice xA X xC)).eq (by rw [← HX.out]; rfl))
                      have hFn := (hFy6.setCell (p := ⟨b13, 0, none⟩) (fun _ => rfl) (.int .i64 xt)).setCell (p := ⟨b13, 1, none⟩) (fun _ => rfl) (.slice xA X xC)
                      have HFN := Lib.hid hFn
                      clear HP1 HPB hP hIn hB6 hFy6 hFn
                      go_wp2
                      go_roundw
                      case rel => exact ⟨q + 1, ⟨xt, xp, xA, xC⟩, by omega, by go_num, HB2.out, HP2, Lib.hid (.inr HMx.out), HFN.out⟩
                      case measure => simp [intOf]; omega
                    | false =>
                      have HP2 : Hid ((⟨bt, bp, bA, bC⟩ : WyR).wy = ((R'.map WyR.wy).take (q + 1)).foldl pickB Wy.no) := Lib.hid (by rw [HP1.out, HPB.out]; rfl)
                      have HB2 : Hid (Blk w6.heap b13 65 (WyR.cells ⟨bt, bp, bA, bC⟩)) := Lib.hid hB6
                      clear HP1 HPB hP hB6
                      go_wp2
                      go_roundw
                      case rel => exact ⟨q + 1, ⟨bt, bp, bA, bC⟩, by omega, by go_num, HB2.out, HP2, hIn, hFy6⟩
                      case measure => simp [intOf]; omega
                  · obtain rfl : q = n5 := by omega
                    have HBest : Hid (bx.wy = bestL (offersL (at2 T) (R.map WyR.wy) i)) := Lib.hid (by rw [hP.out, List.take_of_length_le (by rw [List.length_map, ← HN5.out]; exact Nat.le_refl _), HW5.out]; rfl)
                    have hSx : WsB w.heap.size wr.heap gw R := by
                      refine ⟨hS5.blk.fr hF (fun h => by have h : gw = b13 := h; omega), fun k hk => (hS5.row k hk).fr hF (fun g hg h => ?_), hS5.inj⟩
                      have h : g = b13 := h
                      rcases hS5.row k hk with e | ⟨g', h1, h2, h3⟩
                      · rw [e] at hg; cases hg
                      · rw [h1] at hg; cases hg
                        have := hOld k hk g h1; omega
                    have hFr6 : Fr (fun k => k = gw) w4 wr := hFr5.trans' hF (fun k hk h => by have h : k = b13 := h; omega)
                    have hRx : WRw wb.heap.size wr.heap bx := by
                      rcases hIn.out with e | hm
                      · exact .inl e
                      · exact .inr ((HRow.out _ hm).fr hF (fun g hg h => by
                          have h : g = b13 := h
                          obtain ⟨g', h1, -, h3⟩ := HRow.out _ hm
                          rw [h1] at hg; cases hg; omega))
                    have hIb : Ints wr.heap bx.A bx.p := by
                      rcases hRx with e | ⟨g, h1, h2, h3⟩
                      · rw [e]; exact Rd.nil _ _ _
                      · exact h2.rd
                    have hlb : bx.p.length ≤ 100 := by
                      rcases hIn.out with e | hm
                      · rw [e]; simp
                      · exact Nat.le_trans (HG5.out _ hm) (by omega)
                    have hWR := hSx.wrd hLR.out HG.out n8
                    have hiR : i < R.length := by rw [hLR.out]; exact hiN
                    obtain ⟨hIy, hly⟩ := hWR.row _ (nth_mem R i hiR)
                    have y0 := (hSx.blk.cell (i * 2 + 0)).trans (flat_get WyR.cells 2 WyR.cells_len R i 0 hiR (by omega))
                    have y1 := (hSx.blk.cell (i * 2 + 1)).trans (flat_get WyR.cells 2 WyR.cells_len R i 1 hiR (by omega))
                    have yf0 := hSx.blk.frozen (i * 2)
                    have yf1 := hSx.blk.frozen (i * 2 + 1)
                    have ylt := hSx.blk.lt
                    have b0 := hBx.cell 0
                    have b1 := hBx.cell 1
                    have blt := hBx.lt
                    have HOldI : Hid (nth (R.map WyR.wy) i = (nth R i).wy) := Lib.hid (nth_map _ _ _ hiR)
                    obtain ⟨y, hy⟩ : ∃ y, y = nth R i := ⟨_, rfl⟩
                    rw [← hy] at hIy hly y0 y1 HOldI
                    have HY := Lib.hid hy
                    simp only [WyR.cells, List.getElem?_cons_zero, List.getElem?_cons_succ, Nat.add_zero] at y0 y1 b0 b1
                    have hSet := wy_set2 R i bx hiR
                    have HSET := Lib.hid (fun (wz : World) (hz : Blk wz.heap gw 65 (R.flatMap WyR.cells)) => (((hz.set (i * 2) (.int .i64 bx.t)).set (i * 2 + 1) (.slice bx.A bx.p.length bx.C)).eq hSet))
                    have heq := fun W (h1 : Ints W.heap bx.A bx.p) (h2 : Ints W.heap y.A y.p) => equal_any bx.p y.p bx.A y.A bx.C y.C W h1 h2 (by omega) (by omega)
                    have HDEC : Hid (bx.wy = y.wy ↔ bx.t = y.t ∧ bx.p = y.p) := Lib.hid ⟨fun h => by cases bx; cases y; cases h; exact ⟨rfl, rfl⟩, fun h => by cases bx; cases y; cases h.1; cases h.2; rfl⟩
                    have hRXX := Lib.hid hRx
                    obtain ⟨bt, bp, bA, bC⟩ := bx
                    obtain ⟨yt, yp, yA, yC⟩ := y
                    simp only at heq y0 y1 b0 b1 hIb hIy hlb hly
                    clear hy hSet hP hIn hRx hWR hS5 hFr5 HSET
                    have heq1 := heq wr.drew hIb hIy
                    clear heq
                    generalize hXL : bp.length = X at *
                    generalize hYL : yp.length = Y at *
                    have HXL := Lib.hid hXL
                    clear hXL hYL
                    go_upto_region 23 with (fail)
                    go_cut [81] (fun s81 wx => s81 = .bool (decide ((⟨bt, bp⟩ : Wy) ≠ ⟨yt, yp⟩)) ∧ Fr (fun _ => False) wr wx)
                    case first =>
                      by_cases htt : bt = yt
                      · have f1 : (bt != yt) = false := by simp [htt]
                        have HV : Hid (decide ((⟨bt, bp⟩ : Wy) ≠ ⟨yt, yp⟩) = !decide (bp = yp)) := Lib.hid (by
                          by_cases hpp : bp = yp
                          · simp [htt, hpp]
                          · simp [htt, hpp])
                        clear htt
                        (refine wp_region_mix (fun _ => True) 16 (by kernel_rfl) (by kernel_rfl) (trivial) ?_; simp only [List.take_succ_cons, List.take_zero, List.drop_succ_cons, List.drop_zero])
                        (refine wpMix_earlyN 16 (by kernel_rfl) (by kernel_rfl) ?_; simp only [List.take_succ_cons, List.take_zero, List.drop_succ_cons, List.drop_zero]; (repeat (go_big_quiet_step (fail))); refine wpQuiet_nil ?_)
                        refine wpMix_nil ?_
                        go_wp2_with (fail)
                        refine heq1.mono ?_
                        rintro e7 w7 ⟨rfl, nq, rfl⟩
                        go_wp2
                        go_meet
                        case rel => exact ⟨by rw [HV.out], (Fr.refl _ _).drewN _⟩
                      · have f1 : (bt != yt) = true := by simp [htt]
                        have HV : Hid (decide ((⟨bt, bp⟩ : Wy) ≠ ⟨yt, yp⟩) = true) := Lib.hid (decide_eq_true (fun h => by cases h; exact htt rfl))
                        clear htt
                        (refine wp_region_mix (fun _ => True) 16 (by kernel_rfl) (by kernel_rfl) (trivial) ?_; simp only [List.take_succ_cons, List.take_zero, List.drop_succ_cons, List.drop_zero])
                        (refine wpMix_earlyN 16 (by kernel_rfl) (by kernel_rfl) ?_; simp only [List.take_succ_cons, List.take_zero, List.drop_succ_cons, List.drop_zero]; (repeat (go_big_quiet_step (fail))); refine wpQuiet_nil ?_)
                        refine wpMix_nil ?_
                        go_wp2
                        go_meet
                        case rel => exact ⟨by rw [HV.out], (Fr.refl _ _).drew⟩
                    case rest =>
                      obtain ⟨rfl, hFc⟩ := hcut
                      generalize wc = w8 at *
                      have hSx8 := hSx.fr0 hFc
                      have hFr8 := hFr6.trans (hFc.none _)
                      have HMi : Hid (nth (microG (at2 T) t N (j * N + i)) i = ⟨yt, yp⟩) := Lib.hid (by rw [← hMI.out]; exact HOldI.out)
                      have HBi : Hid (microG (at2 T) t N (j * N + (i + 1)) = (microG (at2 T) t N (j * N + i)).set i ⟨bt, bp⟩) := Lib.hid (by rw [HN1.out, ← HBest.out])
                      have HLm : Hid ((microG (at2 T) t N (j * N + i)).length = N) := Lib.hid (micro_len _)
                      by_cases hd : (⟨bt, bp⟩ : Wy) = ⟨yt, yp⟩
                      · rw [show decide ((⟨bt, bp⟩ : Wy) ≠ ⟨yt, yp⟩) = false from decide_eq_false (fun h => h hd)]
                        have HSame : Hid (microG (at2 T) t N (j * N + (i + 1)) = microG (at2 T) t N (j * N + i)) := Lib.hid (by
                          rw [HBi.out, hd, ← HMi.out]
                          exact set_self _ _ (by rw [HLm.out]; exact hiN))
                        have HMn : Hid (R.map WyR.wy = microG (at2 T) t N (j * N + (i + 1))) := Lib.hid (by rw [HSame.out]; exact hMI.out)
                        have HCn : Hid (ch = decide (microG (at2 T) t N (j * N + (i + 1)) ≠ microG (at2 T) t N (j * N))) := Lib.hid (by rw [HSame.out]; exact hC.out)
                        clear hd hSx hFr6 hBx hIb hIy heq1 hMI hC HSame
                        go_wp2
                        go_roundw
                        case rel => exact ⟨i + 1, ch, R, by omega, by go_num, rfl, HMn, hLR, hSx8, hFr8, HCn⟩
                        case measure => simp [intOf]; omega
                      · rw [show decide ((⟨bt, bp⟩ : Wy) ≠ ⟨yt, yp⟩) = true from decide_eq_true hd]
                        have y80 := (hFc.cell (p := ⟨gw, i * 2, none⟩) ylt (fun h => h)).trans y0
                        have y81 := (hFc.cell (p := ⟨gw, i * 2 + 1, none⟩) ylt (fun h => h)).trans y1
                        have y8f := (hFc.frozen (p := ⟨gw, i * 2, none⟩) ylt (fun h => h)).trans yf0
                        have y8g := (hFc.frozen (p := ⟨gw, i * 2 + 1, none⟩) ylt (fun h => h)).trans yf1
                        have b80 := (hFc.cell (p := ⟨b13, 0, none⟩) blt (fun h => h)).trans b0
                        have b81 := (hFc.cell (p := ⟨b13, 1, none⟩) blt (fun h => h)).trans b1
                        have l8 := Nat.lt_of_lt_of_le ylt hFc.size
                        have l9 := Nat.lt_of_lt_of_le blt hFc.size
                        have hgb : gw < b13 := by omega
                        have hFs : Fr (fun k => k = gw) w8 ((w8.setCell ⟨gw, i * 2, none⟩ (.int .i64 bt)).setCell ⟨gw, i * 2 + 1, none⟩ (.slice bA X bC)) := ((Fr.refl (fun k => k = gw) w8).setCell (p := ⟨gw, i * 2, none⟩) (fun _ => rfl) _).setCell (p := ⟨gw, i * 2 + 1, none⟩) (fun _ => rfl) _
                        have HSn : Hid (WsB w.heap.size ((w8.setCell ⟨gw, i * 2, none⟩ (.int .i64 bt)).setCell ⟨gw, i * 2 + 1, none⟩ (.slice bA X bC)).heap gw (R.set i ⟨bt, bp, bA, bC⟩)) := Lib.hid (by
                          refine hSx8.set hiR (((hSx8.blk.set _ _).set _ _).eq (by rw [← HXL.out]; exact wy_set2 R i ⟨bt, bp, bA, bC⟩ hiR)) hFs ?_ (fun k hk hki q' hq' e => ?_)
                          · rcases hRXX.out with e | ⟨g, h1, h2, h3⟩
                            · exact .inl e
                            · exact .inr ⟨g, h1, (h2.fr hFc (fun _ _ h => h)).fr hFs (fun g' e h => by cases e; have h : g = gw := h; omega), by omega⟩
                          · rcases hRXX.out with e2 | ⟨g, h1, h2, h3⟩
                            · rw [e2] at hq'; cases hq'
                            · rw [h1] at hq'; cases hq'
                              have := hOld k hk g e; omega)
                        have HMn : Hid ((R.set i ⟨bt, bp, bA, bC⟩).map WyR.wy = microG (at2 T) t N (j * N + (i + 1))) := Lib.hid (by rw [HBi.out, ← hMI.out, List.map_set])
                        have HCn : Hid (true = decide (microG (at2 T) t N (j * N + (i + 1)) ≠ microG (at2 T) t N (j * N))) := Lib.hid (by
                          have hne : microG (at2 T) t N (j * N + (i + 1)) ≠ microG (at2 T) t N (j * N) := fun h => hd (by
                            have h2 : nth (microG (at2 T) t N (j * N + (i + 1))) i = nth (microG (at2 T) t N (j * N)) i := by rw [h]
                            rw [HBi.out, nth_set _ _ _ _ (by rw [HLm.out]; exact hiN), if_pos rfl, ← micro_ahead j hiN, HMi.out] at h2
                            exact h2)
                          exact (decide_eq_true hne).symm)
                        have HLn : Hid ((R.set i ⟨bt, bp, bA, bC⟩).length = N) := Lib.hid (by rw [List.length_set]; exact hLR.out)
                        have HFn := Lib.hid (hFr8.trans hFs)
                        generalize R.set i ⟨bt, bp, bA, bC⟩ = Rn at *
                        clear hd hSx hFr6 hBx hIb hIy heq1 hMI hC hSx8 hFr8 hFs hFc y0 y1 b0 b1 yf0 yf1
                        go_wp2
                        go_roundw
                        case rel => exact ⟨i + 1, true, Rn, by omega, by go_num, rfl, HMn, HLn, HSn.out, HFn.out, HCn⟩
                        case measure => simp [intOf]; omega
            · obtain rfl : i = N := by omega
              have HN1 : Hid (R.map WyR.wy = microG (at2 T) t i ((j + 1) * i)) := Lib.hid (by rw [Nat.succ_mul]; exact hMI.out)
              have HJ2 : Hid ((ch = true → j + 1 ≤ M) ∧ (ch = false → microG (at2 T) t i ((j + 1 + 1) * i) = microG (at2 T) t i ((j + 1) * i))) := Lib.hid (by
                have hc := hC.out
                rw [← Nat.succ_mul] at hc
                constructor
                · intro h
                  rw [h] at hc
                  have h2 := of_decide_eq_true hc.symm
                  have h3 := HJ.out.1
                  rcases Nat.lt_or_eq_of_le h3 with h4 | h4
                  · omega
                  · subst h4; exact absurd HMS.out h2
                · intro h
                  rw [h] at hc
                  have h2 : microG (at2 T) t i ((j + 1) * i) = microG (at2 T) t i (j * i) := Classical.byContradiction (fun hh => of_decide_eq_false hc.symm hh)
                  rw [micro_iter, micro_iter] at h2 ⊢
                  show roundG _ _ _ (iterG _ _ _ (j + 1)) = _
                  rw [h2]; exact h2)
              clear hC hMI
              go_wp2
              cases ch with
              | true =>
                go_roundg (M - (j + 1) + 2)
                case measure => have := HJ.out; have := HJ2.out.1 rfl; omega
                case rel => exact ⟨true, j + 1, R, rfl, HN1, hLR, hS, hFr, Lib.hid (.inl ⟨rfl, HJ2.out.1 rfl, rfl⟩)⟩
              | false =>
                go_roundg 1
                case measure => have := HJ.out; omega
                case rel => exact ⟨false, j + 1, R, rfl, HN1, hLR, hS, hFr, Lib.hid (.inr ⟨rfl, rfl, HJ2.out.2 rfl⟩)⟩
end Go.Proofs.Ytbmeeglehbaggaa
