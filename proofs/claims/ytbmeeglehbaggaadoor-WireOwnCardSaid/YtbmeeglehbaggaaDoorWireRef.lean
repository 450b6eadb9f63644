import Derived.Test.YtbmeeglehbaggaaDoorWireDec3
namespace Go.Proofs.YtbmeeglehbaggaaDoor
open Go.RowKit
/-! ### The law's own bytes -/
theorem maskRef_or : ∀ k, k < 32 → bits .or .u32 (maskV k) (2 ^ (31 - k) % 4294967296) = maskV (k + 1) := by decide +kernel
set_option maxRecDepth 100000 in
set_option maxHeartbeats 1000000 in
theorem maskRef_any (n : Nat) (w : World) (hn : n ≤ 32) : Calls Tryd.prog 59 #[.int .i64 n] w (fun e w' => e = .returned (.int .u32 (maskV n)) ∧ w' = w) := by
  go_enter Tryd.func59, Tryd.ntmps59
  go_wp2
  go_loopw [4, 3] (fun s4 s3 wr => ∃ k : Nat, k ≤ n ∧ s4 = .int .i64 k ∧ s3 = .int .u32 (maskV k) ∧ wr = w) (fun s _ _ => n - (intOf s).toNat)
  case atStart => exact ⟨0, by omega, rfl, rfl, rfl⟩
  case round =>
    obtain ⟨k, hk, rfl, rfl, rfl⟩ := hrel
    by_cases hkn : k < n
    · have HO := Lib.hid (maskRef_or k (by omega))
      go_wp2_with (fail)
      exact ⟨⟨k + 1, by omega, by go_num, by rw [HO.out], trivial⟩, by simp [intOf]; omega⟩
    · obtain rfl : k = n := by omega
      go_wp2
      go_ret
      exact ⟨rfl, rfl⟩
theorem beB4 (n : Int) : beB n 4 = [n / 16777216 % 256, n / 65536 % 256, n / 256 % 256, n % 256] := by
  simp only [beB, Nat.reduceMul, Nat.mul_zero, Nat.mul_one, Int.reducePow, Int.pow_zero, Int.ediv_one]
set_option maxRecDepth 100000 in
set_option maxHeartbeats 1000000 in
theorem four_any (n : Int) (w : World) (hn : 0 ≤ n ∧ n < 4294967296) : Calls Tryd.prog 58 #[.int .u32 n] w (fun e w' => e = .returned (.slice (some ⟨w.heap.size, 0, none⟩) 4 4) ∧ w' = w.alloc (.cells (ivals .u8 (beB n 4)).toArray 5)) := by
  have HE := Lib.hid (show (ivals .u8 (beB n 4)).toArray = #[.int .u8 (n / 16777216), .int .u8 (n / 65536 % 256), .int .u8 (n / 256 % 256), .int .u8 (n % 256)] by rw [beB4, show n / 16777216 % 256 = n / 16777216 by omega]; rfl)
  go_enter Tryd.func58, Tryd.ntmps58
  go_wp2
  go_ret
  refine ⟨rfl, ?_⟩
  rw [HE.out]
theorem u8s_pos {H : Array Obj} {a : Option Addr} {l : List Int} (h : Rd H a l.length 1 (ivals .u8 l)) (hn : 0 < l.length) :
    ∃ b off, a = some ⟨b, off, none⟩ ∧ b < H.size ∧ ∀ (w : World), w.heap = H → ∀ k, k < l.length → w.cell? ⟨b, off + k, none⟩ = some (.int .u8 (nth l k)) := by
  obtain ⟨b, off, e, hb, hc⟩ := h.pos (by omega)
  refine ⟨b, off, e, hb, fun w hw k hk => ?_⟩
  rw [hc w hw k (by omega), ivals_get .u8 l k hk]
set_option maxRecDepth 100000 in
set_option maxHeartbeats 1000000 in
theorem u8s_any {N M : Nat} (l m : List Int) (a b : Option Addr) (c d : Nat) (w : World) (ha : Rd w.heap a N 1 (ivals .u8 l)) (hb : Rd w.heap b M 1 (ivals .u8 m)) (hl : l.length ≤ 9223372036854775807) (hm : m.length ≤ 9223372036854775807) (hN : N = l.length) (hM : M = m.length) :
    Calls Tryd.prog 28 #[.slice a N c, .slice b M d] w (RetQ w (.bool (decide (l = m)))) := by
  subst hN
  subst hM
  go_enter Tryd.func28, Tryd.ntmps28
  by_cases hlen : l.length = m.length
  · have hne : ((l.length : Int) != (m.length : Int)) = false := by simp [hlen]
    have HL : Hid (l.length = m.length) := Lib.hid hlen
    clear hlen
    go_wp2
    go_loopw [5] (fun i wr => ∃ k n : Nat, k ≤ l.length ∧ i = .int .i64 k ∧ wr = w.drewN n ∧ Hid (l.take k = m.take k)) (fun i _ => l.length - (intOf i).toNat)
    case atStart => exact ⟨0, 0, by omega, rfl, rfl, rfl⟩
    case round =>
      obtain ⟨k, n, hk, rfl, rfl, hE⟩ := hrel
      by_cases hlt : k < l.length
      · have hlm : k < m.length := by have := HL.out; omega
        obtain ⟨g1, o1, rfl, q1, c1⟩ := u8s_pos ha (by omega)
        obtain ⟨g2, o2, rfl, q2, c2⟩ := u8s_pos hb (by omega)
        have d1 := c1 w rfl k hlt
        have d2 := c2 w rfl k hlm
        clear c1 c2
        by_cases he : nth l k = nth m k
        · have hb : (nth l k != nth m k) = false := by simp [he]
          have hE' : Hid (l.take (k + 1) = m.take (k + 1)) := (by rw [take_succ_nth l k hlt, take_succ_nth m k hlm, hE.out, he] : l.take (k + 1) = m.take (k + 1))
          clear he
          go_wp2
          go_quiet (fail)
          go_wp2
          go_roundw
          case rel => exact ⟨k + 1, n + nq, by omega, by go_num, by simp, hE'⟩
          case measure => simp [intOf]; omega
        · have hb : (nth l k != nth m k) = true := by simp [he]
          have hX : Hid (decide (l = m) = false) := (by
            apply decide_eq_false
            intro h
            exact he (by rw [h]) : decide (l = m) = false)
          clear he
          go_wp2
          go_quiet (fail)
          go_wp2
          go_ret
          exact RetQ.mk (show Value.bool false = _ from (by rw [hX.out])) rfl (n + nq) (by simp)
      · obtain rfl : k = l.length := by omega
        have hX : Hid (decide (l = m) = true) := (by
          apply decide_eq_true
          have h := hE.out
          rw [List.take_length, HL.out, List.take_length] at h
          exact h : decide (l = m) = true)
        go_wp2
        go_ret
        exact RetQ.mk (show Value.bool true = _ from (by rw [hX.out])) rfl (n) (rfl)
  · have hne : ((l.length : Int) != (m.length : Int)) = true := by simp; omega
    have hX : Hid (decide (l = m) = false) := (by
      apply decide_eq_false
      intro h
      exact hlen (by rw [h]) : decide (l = m) = false)
    clear hlen
    go_wp2
    go_ret
    exact RetQ.mk (show Value.bool false = _ from (by rw [hX.out])) rfl (0) (rfl)

/-- Four bytes put behind others: what is left to say. -/
theorem put4_step {w W w8 : World} {B Bd : Nat} {cs ms : List Value} {ob ob8 : Option Nat} (hF : Fr (fun _ => False) w W) (hB : Blk W.heap B 66 cs) (hM : Blk W.heap w.heap.size 59 ms) (hN : ∀ g, ob = some g → w.heap.size < g ∧ g ≠ B) (v2 : Fr (fun k => ob = some k) W w8) (v3 : ob8 = ob ∨ ∃ g, ob8 = some g ∧ Bd ≤ g) (hBd : Bd = W.heap.size) :
    Fr (fun _ => False) w w8 ∧ Blk w8.heap B 66 cs ∧ Blk w8.heap w.heap.size 59 ms ∧ (∀ g, ob8 = some g → w.heap.size < g ∧ g ≠ B) ∧ B < w8.heap.size := by
  have h1 := hB.lt
  have h2 := hM.lt
  refine ⟨hF.trans' v2 (fun i hi e => by have := (hN i e).1; omega), hB.fr v2 (fun e => (hN B e).2 rfl), hM.fr v2 (fun e => absurd (hN _ e).1 (Nat.lt_irrefl _)), fun g hg => ?_, Nat.lt_of_lt_of_le h1 v2.size⟩
  rcases v3 with h | ⟨g', h, h'⟩
  · exact hN g (by rw [← h, hg])
  · rw [hg] at h; cases h
    exact ⟨by omega, by omega⟩
theorem rd_u8s (w : World) (ys : List Int) (N : Nat) (h : ys.length = N) (hp : 0 < N) (hb : N ≤ 4) : Rd (w.alloc (.cells (ivals .u8 ys).toArray 5)).heap (some ⟨w.heap.size, 0, none⟩) N 1 (ivals .u8 ys) :=
  (Own.made w 5 1 N (ivals .u8 ys) (by simp [ivals, h]) (Nat.le_trans hb (by decide))).rd
theorem rd_u8s1 (w : World) (o : Obj) (ys : List Int) (N : Nat) (h : ys.length = N) (hp : 0 < N) (hb : N ≤ 4) : Rd ((w.alloc o).alloc (.cells (ivals .u8 ys).toArray 5)).heap (some ⟨w.heap.size + 1, 0, none⟩) N 1 (ivals .u8 ys) := by
  have := rd_u8s (w.alloc o) ys N h hp hb
  rwa [show (w.alloc o).heap.size = w.heap.size + 1 by simp] at this
set_option maxRecDepth 100000 in
set_option maxHeartbeats 8000000 in
theorem bytesOf_any {M : Nat} (ask : Bool) (l : List En) (al : Option Addr) (cl : Nat) (w : World) (hL : Recs w.heap al 5 En.cells l) (hw : ∀ e ∈ l, En.wf e) (hE : msgErr l = none) (hM : M = l.length) :
    Calls Tryd.prog 29 #[.agg #[.bool ask, .slice al M cl]] w (fun e w' => ∃ a c ob, e = .returned (.slice a (encD ask l).length c) ∧ Own w'.heap 5 1 a (encD ask l).length c (ivals .u8 (encD ask l)) ob ∧ Fr (fun _ => False) w w') := by
  subst hM
  have hll : l.length ≤ 25 := by
    unfold msgErr at hE
    split at hE
    · cases hE
    · omega
  have hok : ∀ e ∈ l, entErr e = none := by
    unfold msgErr at hE
    rw [if_neg (by omega)] at hE
    exact entsErr_ok hE
  have HOK := Lib.hid hok
  have HL := Lib.hid hL
  have HW := Lib.hid hw
  clear hL hw hE hok
  cases ask with
  | true =>
    obtain ⟨hd, hd0⟩ : ∃ hd : Int, hd = 1 := ⟨_, rfl⟩
    have hM := Blk.made w 59 [.bool true, .slice al l.length cl]
    have b0 := hM.cell 0
    have b1 := hM.cell 1
    have bl := hM.lt
    simp only [List.getElem?_cons_succ, List.getElem?_cons_zero] at b0 b1
    have hF0 := ((Fr.refl (fun _ => False) w).alloc (.cells #[.bool true, .slice al l.length cl] 59)).alloc (.cells #[.int .u8 1, .int .u8 2, .int .u8 0, .int .u8 0] 5)
    have hM1 := hM.alloc (.cells #[.int .u8 1, .int .u8 2, .int .u8 0, .int .u8 0] 5)
    have hO1 : Own ((w.alloc (.cells #[.bool true, .slice al l.length cl] 59)).alloc (.cells #[.int .u8 1, .int .u8 2, .int .u8 0, .int .u8 0] 5)).heap 5 1 (some ⟨w.heap.size + 1, 0, none⟩) 4 4 (ivals .u8 [1, 2, 0, 0]) (some (w.heap.size + 1)) := by
      have := Own.made (w.alloc (.cells #[.bool true, .slice al l.length cl] 59)) 5 1 4 (ivals .u8 [1, 2, 0, 0]) (by rfl) (by decide)
      rwa [show (w.alloc (.cells #[.bool true, .slice al l.length cl] 59)).heap.size = w.heap.size + 1 by simp] at this
    have HHD := Lib.hid hd0
    clear hM hd0
    go_enter Tryd.func29, Tryd.ntmps29
    have HFF := Lib.hid hF0
    have HMM := Lib.hid hM1
    have HOO := Lib.hid hO1
    clear hF0 hM1 hO1
    go_wp2
    go_loopw [4, 3] (fun s4 s3 wr => ∃ (k : Nat) (a0 : Option Addr) (c0 : Nat) (ob0 : Option Nat), k ≤ l.length ∧ s4 = .int .i64 k ∧ s3 = .slice a0 (4 + 20 * k) c0 ∧ Own wr.heap 5 1 a0 (4 + 20 * k) c0 (ivals .u8 (hd :: 2 :: 0 :: 0 :: (l.take k).flatMap entB)) ob0 ∧ Fr (fun _ => False) w wr ∧ Blk wr.heap w.heap.size 59 [.bool true, .slice al l.length cl] ∧ ∀ g, ob0 = some g → w.heap.size < g) (fun s _ _ => l.length - (intOf s).toNat)
    case atStart => exact ⟨0, _, 4, _, by omega, rfl, rfl, by rw [HHD.out]; simpa [ivals] using HOO.out, HFF.out, HMM.out, fun g hg => by cases hg; omega⟩
    case round =>
      obtain ⟨k, a0, c0, ob0, hk, rfl, rfl, hO, hF, hMr, hN⟩ := hrel
      by_cases hkl : k < l.length
      · obtain ⟨g, o, rfl, hgl, hc⟩ := Recs.pos HL.out En.cells_len (by omega) (by omega)
        have dd := fun (j : Nat) (hj : j < 5) => (hF.cell (p := ⟨g, o + (k * 5 + j), none⟩) hgl (fun h => h)).trans (hc w rfl k j hkl hj)
        have d0 := dd 0 (by omega)
        have d1 := dd 1 (by omega)
        have d2 := dd 2 (by omega)
        have d3 := dd 3 (by omega)
        have d4 := dd 4 (by omega)
        have hx := HW.out _ (nth_mem l k hkl)
        have hxo := entErr_ok (HOK.out _ (nth_mem l k hkl))
        have HD := Lib.hid (show (l.take (k + 1)).flatMap entB = (l.take k).flatMap entB ++ entB (nth l k) by rw [take_succ_nth l k hkl, List.flatMap_append]; simp)
        generalize nth l k = x at *
        obtain ⟨xa, xn, xt, xp, xm⟩ := x
        obtain ⟨hx0, hx1, hx2, hx3, hx4⟩ := hxo
        obtain ⟨hy0, hy1⟩ := netErr_ok hx0
        obtain ⟨hw0, hw1⟩ := hx
        obtain ⟨xk, rfl⟩ := Int.eq_ofNat_of_zero_le (show 0 ≤ xn from hy0)
        simp only at hx1 hx2 hx3 hx4 hy0 hy1 hw0 hw1
        simp only [En.cells, List.getElem?_cons_zero, List.getElem?_cons_succ, ← Nat.add_assoc, Nat.add_zero] at d0 d1 d2 d3 d4
        have hm0 := hMr.cell 1
        have hml := hMr.lt
        have hwsz := hF.size
        simp only [List.getElem?_cons_succ, List.getElem?_cons_zero] at hm0
        obtain ⟨N, hNN⟩ : ∃ N, N = 4 + 20 * k := ⟨_, rfl⟩
        rw [← hNN] at hO ⊢
        have HNN := Lib.hid hNN
        have hNb : N ≤ 1000 := by omega
        obtain ⟨zs, hzs⟩ : ∃ zs, zs = hd :: 2 :: 0 :: 0 :: (l.take k).flatMap entB := ⟨_, rfl⟩
        rw [← hzs] at hO
        have HZS := Lib.hid hzs
        have hBc := Blk.made wr 66 [.int .u32 xa, .int .i64 xk, .int .i64 xt, .int .u32 xp, .int .i64 xm]
        have e0 := hBc.cell 2
        have el := hBc.lt
        simp only [List.getElem?_cons_succ, List.getElem?_cons_zero] at e0
        have hFc := hF.alloc (.cells #[.int .u32 xa, .int .i64 xk, .int .i64 xt, .int .u32 xp, .int .i64 xm] 66)
        have hN0 : ∀ g, ob0 = some g → w.heap.size < g ∧ g ≠ wr.heap.size := fun g hg => ⟨hN g hg, by have := hO.lt g hg; omega⟩
        have hFm := hFc
        clear dd hc hNN hzs hx0
        have hrd1 := rd_u8s1 wr (.cells #[.int .u32 xa, .int .i64 xk, .int .i64 xt, .int .u32 xp, .int .i64 xm] 66) [0, 2, xt / 256, xt % 256] 4 rfl (by decide) (by decide)
        have hOa1 := (hO.alloc (.cells #[.int .u32 xa, .int .i64 xk, .int .i64 xt, .int .u32 xp, .int .i64 xm] 66)).alloc (.cells #[.int .u8 0, .int .u8 2, .int .u8 (xt / 256), .int .u8 (xt % 256)] 5)
        have hFa1 := hFc.alloc (.cells #[.int .u8 0, .int .u8 2, .int .u8 (xt / 256), .int .u8 (xt % 256)] 5)
        have hBa1 := hBc.alloc (.cells #[.int .u8 0, .int .u8 2, .int .u8 (xt / 256), .int .u8 (xt % 256)] 5)
        have hMa1 := (hMr.alloc (.cells #[.int .u32 xa, .int .i64 xk, .int .i64 xt, .int .u32 xp, .int .i64 xm] 66)).alloc (.cells #[.int .u8 0, .int .u8 2, .int .u8 (xt / 256), .int .u8 (xt % 256)] 5)
        go_wp2_with (go_loud (at_builtin; refine wpList_app rfl _ _ 60 rfl Tryd.underlying60 infoU8 rfl (by decide) rfl rfl hOa1 hrd1 (ivals_one .u8 _) (by omega) (by omega) ?_))
        intro a1 c1 x1 ob1 v1 v2 v3
        obtain ⟨hF1, hB1, hM1, hN1, hs1⟩ := put4_step hFa1 hBa1 hMa1 hN0 v2 v3 (by simp)
        have hO1 : Own x1.heap 5 1 a1 (N + 4) c1 (ivals .u8 (zs ++ [0, 2, xt / 256, xt % 256])) ob1 := by simpa [ivals] using v1
        clear v1 v2 v3 hOa1 hrd1 hFa1 hBa1 hMa1
        clear hO hFc hBc e0 el hm0 hml d0 d1 d2 d3 d4 hMr
        have f2 := hB1.cell 0
        simp only [List.getElem?_cons_succ, List.getElem?_cons_zero] at f2
        go_wp2_with (go_at_call 58; refine (four_any xa _ hw0).mono ?_)
        rintro e2 y2 ⟨rfl, rfl⟩
        have hrd2 := rd_u8s x1 (beB xa 4) 4 (beB_len _ _) (by decide) (by decide)
        have hOa2 := hO1.alloc (.cells (ivals .u8 (beB xa 4)).toArray 5)
        have hFa2 := hF1.alloc (.cells (ivals .u8 (beB xa 4)).toArray 5)
        have hBa2 := hB1.alloc (.cells (ivals .u8 (beB xa 4)).toArray 5)
        have hMa2 := hM1.alloc (.cells (ivals .u8 (beB xa 4)).toArray 5)
        go_wp2_with (go_loud (at_builtin; refine wpList_app rfl _ _ 60 rfl Tryd.underlying60 infoU8 rfl (by decide) rfl rfl hOa2 hrd2 (ivals_one .u8 _) (by omega) (by omega) ?_))
        intro a2 c2 x2 ob2 v1 v2 v3
        obtain ⟨hF2, hB2, hM2, hN2, hs2⟩ := put4_step hFa2 hBa2 hMa2 hN1 v2 v3 (by simp)
        have hO2 : Own x2.heap 5 1 a2 (N + 4 + 4) c2 (ivals .u8 (zs ++ [0, 2, xt / 256, xt % 256] ++ beB xa 4)) ob2 := by simpa [ivals] using v1
        clear v1 v2 v3 hOa2 hrd2 hFa2 hBa2 hMa2
        clear f2 hO1 hF1 hB1 hM1 hN1 hs1
        have f3 := hB2.cell 1
        simp only [List.getElem?_cons_succ, List.getElem?_cons_zero] at f3
        go_wp2_with (go_at_call 59; refine (maskRef_any xk _ (by omega)).mono ?_)
        rintro e3 x2 ⟨rfl, rfl⟩
        go_wp2_with (go_at_call 58; refine (four_any (maskV xk) _ (maskV_bd xk)).mono ?_)
        rintro e3 y3 ⟨rfl, rfl⟩
        have hrd3 := rd_u8s x2 (beB (maskV xk) 4) 4 (beB_len _ _) (by decide) (by decide)
        have hOa3 := hO2.alloc (.cells (ivals .u8 (beB (maskV xk) 4)).toArray 5)
        have hFa3 := hF2.alloc (.cells (ivals .u8 (beB (maskV xk) 4)).toArray 5)
        have hBa3 := hB2.alloc (.cells (ivals .u8 (beB (maskV xk) 4)).toArray 5)
        have hMa3 := hM2.alloc (.cells (ivals .u8 (beB (maskV xk) 4)).toArray 5)
        go_wp2_with (go_loud (at_builtin; refine wpList_app rfl _ _ 60 rfl Tryd.underlying60 infoU8 rfl (by decide) rfl rfl hOa3 hrd3 (ivals_one .u8 _) (by omega) (by omega) ?_))
        intro a3 c3 x3 ob3 v1 v2 v3
        obtain ⟨hF3, hB3, hM3, hN3, hs3⟩ := put4_step hFa3 hBa3 hMa3 hN2 v2 v3 (by simp)
        have hO3 : Own x3.heap 5 1 a3 (N + 4 + 4 + 4) c3 (ivals .u8 (zs ++ [0, 2, xt / 256, xt % 256] ++ beB xa 4 ++ beB (maskV xk) 4)) ob3 := by simpa [ivals] using v1
        clear v1 v2 v3 hOa3 hrd3 hFa3 hBa3 hMa3
        clear f3 hO2 hF2 hB2 hM2 hN2 hs2
        have f4 := hB3.cell 3
        simp only [List.getElem?_cons_succ, List.getElem?_cons_zero] at f4
        go_wp2_with (go_at_call 58; refine (four_any xp _ hw1).mono ?_)
        rintro e4 y4 ⟨rfl, rfl⟩
        have hrd4 := rd_u8s x3 (beB xp 4) 4 (beB_len _ _) (by decide) (by decide)
        have hOa4 := hO3.alloc (.cells (ivals .u8 (beB xp 4)).toArray 5)
        have hFa4 := hF3.alloc (.cells (ivals .u8 (beB xp 4)).toArray 5)
        have hBa4 := hB3.alloc (.cells (ivals .u8 (beB xp 4)).toArray 5)
        have hMa4 := hM3.alloc (.cells (ivals .u8 (beB xp 4)).toArray 5)
        go_wp2_with (go_loud (at_builtin; refine wpList_app rfl _ _ 60 rfl Tryd.underlying60 infoU8 rfl (by decide) rfl rfl hOa4 hrd4 (ivals_one .u8 _) (by omega) (by omega) ?_))
        intro a4 c4 x4 ob4 v1 v2 v3
        obtain ⟨hF4, hB4, hM4, hN4, hs4⟩ := put4_step hFa4 hBa4 hMa4 hN3 v2 v3 (by simp)
        have hO4 : Own x4.heap 5 1 a4 (N + 4 + 4 + 4 + 4) c4 (ivals .u8 (zs ++ [0, 2, xt / 256, xt % 256] ++ beB xa 4 ++ beB (maskV xk) 4 ++ beB xp 4)) ob4 := by simpa [ivals] using v1
        clear v1 v2 v3 hOa4 hrd4 hFa4 hBa4 hMa4
        clear f4 hO3 hF3 hB3 hM3 hN3 hs3
        have f5 := hB4.cell 4
        simp only [List.getElem?_cons_succ, List.getElem?_cons_zero] at f5
        go_wp2_with (go_at_call 58; refine (four_any xm _ ⟨by omega, by omega⟩).mono ?_)
        rintro e5 y5 ⟨rfl, rfl⟩
        have hrd5 := rd_u8s x4 (beB xm 4) 4 (beB_len _ _) (by decide) (by decide)
        have hOa5 := hO4.alloc (.cells (ivals .u8 (beB xm 4)).toArray 5)
        have hFa5 := hF4.alloc (.cells (ivals .u8 (beB xm 4)).toArray 5)
        have hBa5 := hB4.alloc (.cells (ivals .u8 (beB xm 4)).toArray 5)
        have hMa5 := hM4.alloc (.cells (ivals .u8 (beB xm 4)).toArray 5)
        go_wp2_with (go_loud (at_builtin; refine wpList_app rfl _ _ 60 rfl Tryd.underlying60 infoU8 rfl (by decide) rfl rfl hOa5 hrd5 (ivals_one .u8 _) (by omega) (by omega) ?_))
        intro a5 c5 x5 ob5 v1 v2 v3
        obtain ⟨hF5, hB5, hM5, hN5, hs5⟩ := put4_step hFa5 hBa5 hMa5 hN4 v2 v3 (by simp)
        have hO5 : Own x5.heap 5 1 a5 (N + 4 + 4 + 4 + 4 + 4) c5 (ivals .u8 (zs ++ [0, 2, xt / 256, xt % 256] ++ beB xa 4 ++ beB (maskV xk) 4 ++ beB xp 4 ++ beB xm 4)) ob5 := by simpa [ivals] using v1
        clear v1 v2 v3 hOa5 hrd5 hFa5 hBa5 hMa5
        clear f5 hO4 hF4 hB4 hM4 hN4 hs4
        have HEQ := Lib.hid (show zs ++ [0, 2, xt / 256, xt % 256] ++ beB xa 4 ++ beB (maskV xk) 4 ++ beB xp 4 ++ beB xm 4 = hd :: 2 :: 0 :: 0 :: (l.take (k + 1)).flatMap entB by
          have hb2 : beB xt 2 = [xt / 256 % 256, xt % 256] := by simp only [beB, Nat.reduceMul, Nat.mul_zero, Nat.mul_one, Int.reducePow, Int.pow_zero, Int.ediv_one]
          rw [HD.out, HZS.out]
          unfold entB
          rw [hb2, show xt / 256 % 256 = xt / 256 by omega, show beB 2 2 = [0, 2] from rfl]
          simp)
        rw [HEQ.out] at hO5
        have HLE := Lib.hid (show N + 4 + 4 + 4 + 4 + 4 = 4 + 20 * (k + 1) by rw [HNN.out]; omega)
        go_wp2
        go_roundw
        case rel => exact ⟨k + 1, a5, c5, ob5, by omega, by go_num, by rw [← HLE.out], by rw [← HLE.out]; exact hO5, hF5, hM5, fun g hg => (hN5 g hg).1⟩
        case measure => simp [intOf]; omega

      · obtain rfl : k = l.length := by omega
        have HX := Lib.hid (show encD true l = hd :: 2 :: 0 :: 0 :: (l.take l.length).flatMap entB by rw [HHD.out, List.take_length]; rfl)
        have HLN := Lib.hid (show 4 + 20 * l.length = (encD true l).length by rw [encD_len])
        rw [← HX.out] at hO
        have hm0 := hMr.cell 1
        have hml := hMr.lt
        simp only [List.getElem?_cons_succ, List.getElem?_cons_zero] at hm0
        clear hMr hN
        go_wp2
        go_ret
        refine ⟨a0, c0, ob0, by rw [HLN.out]; rfl, ?_, hF⟩
        rw [← HLN.out]; exact hO
  | false =>
    obtain ⟨hd, hd0⟩ : ∃ hd : Int, hd = 2 := ⟨_, rfl⟩
    have hM := Blk.made w 59 [.bool false, .slice al l.length cl]
    have b0 := hM.cell 0
    have b1 := hM.cell 1
    have bl := hM.lt
    simp only [List.getElem?_cons_succ, List.getElem?_cons_zero] at b0 b1
    have hF0 := ((Fr.refl (fun _ => False) w).alloc (.cells #[.bool false, .slice al l.length cl] 59)).alloc (.cells #[.int .u8 2, .int .u8 2, .int .u8 0, .int .u8 0] 5)
    have hM1 := hM.alloc (.cells #[.int .u8 2, .int .u8 2, .int .u8 0, .int .u8 0] 5)
    have hO1 : Own ((w.alloc (.cells #[.bool false, .slice al l.length cl] 59)).alloc (.cells #[.int .u8 2, .int .u8 2, .int .u8 0, .int .u8 0] 5)).heap 5 1 (some ⟨w.heap.size + 1, 0, none⟩) 4 4 (ivals .u8 [2, 2, 0, 0]) (some (w.heap.size + 1)) := by
      have := Own.made (w.alloc (.cells #[.bool false, .slice al l.length cl] 59)) 5 1 4 (ivals .u8 [2, 2, 0, 0]) (by rfl) (by decide)
      rwa [show (w.alloc (.cells #[.bool false, .slice al l.length cl] 59)).heap.size = w.heap.size + 1 by simp] at this
    have HHD := Lib.hid hd0
    clear hM hd0
    go_enter Tryd.func29, Tryd.ntmps29
    have HFF := Lib.hid hF0
    have HMM := Lib.hid hM1
    have HOO := Lib.hid hO1
    clear hF0 hM1 hO1
    go_wp2
    go_loopw [4, 3] (fun s4 s3 wr => ∃ (k : Nat) (a0 : Option Addr) (c0 : Nat) (ob0 : Option Nat), k ≤ l.length ∧ s4 = .int .i64 k ∧ s3 = .slice a0 (4 + 20 * k) c0 ∧ Own wr.heap 5 1 a0 (4 + 20 * k) c0 (ivals .u8 (hd :: 2 :: 0 :: 0 :: (l.take k).flatMap entB)) ob0 ∧ Fr (fun _ => False) w wr ∧ Blk wr.heap w.heap.size 59 [.bool false, .slice al l.length cl] ∧ ∀ g, ob0 = some g → w.heap.size < g) (fun s _ _ => l.length - (intOf s).toNat)
    case atStart => exact ⟨0, _, 4, _, by omega, rfl, rfl, by rw [HHD.out]; simpa [ivals] using HOO.out, HFF.out, HMM.out, fun g hg => by cases hg; omega⟩
    case round =>
      obtain ⟨k, a0, c0, ob0, hk, rfl, rfl, hO, hF, hMr, hN⟩ := hrel
      by_cases hkl : k < l.length
      · obtain ⟨g, o, rfl, hgl, hc⟩ := Recs.pos HL.out En.cells_len (by omega) (by omega)
        have dd := fun (j : Nat) (hj : j < 5) => (hF.cell (p := ⟨g, o + (k * 5 + j), none⟩) hgl (fun h => h)).trans (hc w rfl k j hkl hj)
        have d0 := dd 0 (by omega)
        have d1 := dd 1 (by omega)
        have d2 := dd 2 (by omega)
        have d3 := dd 3 (by omega)
        have d4 := dd 4 (by omega)
        have hx := HW.out _ (nth_mem l k hkl)
        have hxo := entErr_ok (HOK.out _ (nth_mem l k hkl))
        have HD := Lib.hid (show (l.take (k + 1)).flatMap entB = (l.take k).flatMap entB ++ entB (nth l k) by rw [take_succ_nth l k hkl, List.flatMap_append]; simp)
        generalize nth l k = x at *
        obtain ⟨xa, xn, xt, xp, xm⟩ := x
        obtain ⟨hx0, hx1, hx2, hx3, hx4⟩ := hxo
        obtain ⟨hy0, hy1⟩ := netErr_ok hx0
        obtain ⟨hw0, hw1⟩ := hx
        obtain ⟨xk, rfl⟩ := Int.eq_ofNat_of_zero_le (show 0 ≤ xn from hy0)
        simp only at hx1 hx2 hx3 hx4 hy0 hy1 hw0 hw1
        simp only [En.cells, List.getElem?_cons_zero, List.getElem?_cons_succ, ← Nat.add_assoc, Nat.add_zero] at d0 d1 d2 d3 d4
        have hm0 := hMr.cell 1
        have hml := hMr.lt
        have hwsz := hF.size
        simp only [List.getElem?_cons_succ, List.getElem?_cons_zero] at hm0
        obtain ⟨N, hNN⟩ : ∃ N, N = 4 + 20 * k := ⟨_, rfl⟩
        rw [← hNN] at hO ⊢
        have HNN := Lib.hid hNN
        have hNb : N ≤ 1000 := by omega
        obtain ⟨zs, hzs⟩ : ∃ zs, zs = hd :: 2 :: 0 :: 0 :: (l.take k).flatMap entB := ⟨_, rfl⟩
        rw [← hzs] at hO
        have HZS := Lib.hid hzs
        have hBc := Blk.made wr 66 [.int .u32 xa, .int .i64 xk, .int .i64 xt, .int .u32 xp, .int .i64 xm]
        have e0 := hBc.cell 2
        have el := hBc.lt
        simp only [List.getElem?_cons_succ, List.getElem?_cons_zero] at e0
        have hFc := hF.alloc (.cells #[.int .u32 xa, .int .i64 xk, .int .i64 xt, .int .u32 xp, .int .i64 xm] 66)
        have hN0 : ∀ g, ob0 = some g → w.heap.size < g ∧ g ≠ wr.heap.size := fun g hg => ⟨hN g hg, by have := hO.lt g hg; omega⟩
        have hFm := hFc
        clear dd hc hNN hzs hx0
        have hrd1 := rd_u8s1 wr (.cells #[.int .u32 xa, .int .i64 xk, .int .i64 xt, .int .u32 xp, .int .i64 xm] 66) [0, 2, xt / 256, xt % 256] 4 rfl (by decide) (by decide)
        have hOa1 := (hO.alloc (.cells #[.int .u32 xa, .int .i64 xk, .int .i64 xt, .int .u32 xp, .int .i64 xm] 66)).alloc (.cells #[.int .u8 0, .int .u8 2, .int .u8 (xt / 256), .int .u8 (xt % 256)] 5)
        have hFa1 := hFc.alloc (.cells #[.int .u8 0, .int .u8 2, .int .u8 (xt / 256), .int .u8 (xt % 256)] 5)
        have hBa1 := hBc.alloc (.cells #[.int .u8 0, .int .u8 2, .int .u8 (xt / 256), .int .u8 (xt % 256)] 5)
        have hMa1 := (hMr.alloc (.cells #[.int .u32 xa, .int .i64 xk, .int .i64 xt, .int .u32 xp, .int .i64 xm] 66)).alloc (.cells #[.int .u8 0, .int .u8 2, .int .u8 (xt / 256), .int .u8 (xt % 256)] 5)
        go_wp2_with (go_loud (at_builtin; refine wpList_app rfl _ _ 60 rfl Tryd.underlying60 infoU8 rfl (by decide) rfl rfl hOa1 hrd1 (ivals_one .u8 _) (by omega) (by omega) ?_))
        intro a1 c1 x1 ob1 v1 v2 v3
        obtain ⟨hF1, hB1, hM1, hN1, hs1⟩ := put4_step hFa1 hBa1 hMa1 hN0 v2 v3 (by simp)
        have hO1 : Own x1.heap 5 1 a1 (N + 4) c1 (ivals .u8 (zs ++ [0, 2, xt / 256, xt % 256])) ob1 := by simpa [ivals] using v1
        clear v1 v2 v3 hOa1 hrd1 hFa1 hBa1 hMa1
        clear hO hFc hBc e0 el hm0 hml d0 d1 d2 d3 d4 hMr
        have f2 := hB1.cell 0
        simp only [List.getElem?_cons_succ, List.getElem?_cons_zero] at f2
        go_wp2_with (go_at_call 58; refine (four_any xa _ hw0).mono ?_)
        rintro e2 y2 ⟨rfl, rfl⟩
        have hrd2 := rd_u8s x1 (beB xa 4) 4 (beB_len _ _) (by decide) (by decide)
        have hOa2 := hO1.alloc (.cells (ivals .u8 (beB xa 4)).toArray 5)
        have hFa2 := hF1.alloc (.cells (ivals .u8 (beB xa 4)).toArray 5)
        have hBa2 := hB1.alloc (.cells (ivals .u8 (beB xa 4)).toArray 5)
        have hMa2 := hM1.alloc (.cells (ivals .u8 (beB xa 4)).toArray 5)
        go_wp2_with (go_loud (at_builtin; refine wpList_app rfl _ _ 60 rfl Tryd.underlying60 infoU8 rfl (by decide) rfl rfl hOa2 hrd2 (ivals_one .u8 _) (by omega) (by omega) ?_))
        intro a2 c2 x2 ob2 v1 v2 v3
        obtain ⟨hF2, hB2, hM2, hN2, hs2⟩ := put4_step hFa2 hBa2 hMa2 hN1 v2 v3 (by simp)
        have hO2 : Own x2.heap 5 1 a2 (N + 4 + 4) c2 (ivals .u8 (zs ++ [0, 2, xt / 256, xt % 256] ++ beB xa 4)) ob2 := by simpa [ivals] using v1
        clear v1 v2 v3 hOa2 hrd2 hFa2 hBa2 hMa2
        clear f2 hO1 hF1 hB1 hM1 hN1 hs1
        have f3 := hB2.cell 1
        simp only [List.getElem?_cons_succ, List.getElem?_cons_zero] at f3
        go_wp2_with (go_at_call 59; refine (maskRef_any xk _ (by omega)).mono ?_)
        rintro e3 x2 ⟨rfl, rfl⟩
        go_wp2_with (go_at_call 58; refine (four_any (maskV xk) _ (maskV_bd xk)).mono ?_)
        rintro e3 y3 ⟨rfl, rfl⟩
        have hrd3 := rd_u8s x2 (beB (maskV xk) 4) 4 (beB_len _ _) (by decide) (by decide)
        have hOa3 := hO2.alloc (.cells (ivals .u8 (beB (maskV xk) 4)).toArray 5)
        have hFa3 := hF2.alloc (.cells (ivals .u8 (beB (maskV xk) 4)).toArray 5)
        have hBa3 := hB2.alloc (.cells (ivals .u8 (beB (maskV xk) 4)).toArray 5)
        have hMa3 := hM2.alloc (.cells (ivals .u8 (beB (maskV xk) 4)).toArray 5)
        go_wp2_with (go_loud (at_builtin; refine wpList_app rfl _ _ 60 rfl Tryd.underlying60 infoU8 rfl (by decide) rfl rfl hOa3 hrd3 (ivals_one .u8 _) (by omega) (by omega) ?_))
        intro a3 c3 x3 ob3 v1 v2 v3
        obtain ⟨hF3, hB3, hM3, hN3, hs3⟩ := put4_step hFa3 hBa3 hMa3 hN2 v2 v3 (by simp)
        have hO3 : Own x3.heap 5 1 a3 (N + 4 + 4 + 4) c3 (ivals .u8 (zs ++ [0, 2, xt / 256, xt % 256] ++ beB xa 4 ++ beB (maskV xk) 4)) ob3 := by simpa [ivals] using v1
        clear v1 v2 v3 hOa3 hrd3 hFa3 hBa3 hMa3
        clear f3 hO2 hF2 hB2 hM2 hN2 hs2
        have f4 := hB3.cell 3
        simp only [List.getElem?_cons_succ, List.getElem?_cons_zero] at f4
        go_wp2_with (go_at_call 58; refine (four_any xp _ hw1).mono ?_)
        rintro e4 y4 ⟨rfl, rfl⟩
        have hrd4 := rd_u8s x3 (beB xp 4) 4 (beB_len _ _) (by decide) (by decide)
        have hOa4 := hO3.alloc (.cells (ivals .u8 (beB xp 4)).toArray 5)
        have hFa4 := hF3.alloc (.cells (ivals .u8 (beB xp 4)).toArray 5)
        have hBa4 := hB3.alloc (.cells (ivals .u8 (beB xp 4)).toArray 5)
        have hMa4 := hM3.alloc (.cells (ivals .u8 (beB xp 4)).toArray 5)
        go_wp2_with (go_loud (at_builtin; refine wpList_app rfl _ _ 60 rfl Tryd.underlying60 infoU8 rfl (by decide) rfl rfl hOa4 hrd4 (ivals_one .u8 _) (by omega) (by omega) ?_))
        intro a4 c4 x4 ob4 v1 v2 v3
        obtain ⟨hF4, hB4, hM4, hN4, hs4⟩ := put4_step hFa4 hBa4 hMa4 hN3 v2 v3 (by simp)
        have hO4 : Own x4.heap 5 1 a4 (N + 4 + 4 + 4 + 4) c4 (ivals .u8 (zs ++ [0, 2, xt / 256, xt % 256] ++ beB xa 4 ++ beB (maskV xk) 4 ++ beB xp 4)) ob4 := by simpa [ivals] using v1
        clear v1 v2 v3 hOa4 hrd4 hFa4 hBa4 hMa4
        clear f4 hO3 hF3 hB3 hM3 hN3 hs3
        have f5 := hB4.cell 4
        simp only [List.getElem?_cons_succ, List.getElem?_cons_zero] at f5
        go_wp2_with (go_at_call 58; refine (four_any xm _ ⟨by omega, by omega⟩).mono ?_)
        rintro e5 y5 ⟨rfl, rfl⟩
        have hrd5 := rd_u8s x4 (beB xm 4) 4 (beB_len _ _) (by decide) (by decide)
        have hOa5 := hO4.alloc (.cells (ivals .u8 (beB xm 4)).toArray 5)
        have hFa5 := hF4.alloc (.cells (ivals .u8 (beB xm 4)).toArray 5)
        have hBa5 := hB4.alloc (.cells (ivals .u8 (beB xm 4)).toArray 5)
        have hMa5 := hM4.alloc (.cells (ivals .u8 (beB xm 4)).toArray 5)
        go_wp2_with (go_loud (at_builtin; refine wpList_app rfl _ _ 60 rfl Tryd.underlying60 infoU8 rfl (by decide) rfl rfl hOa5 hrd5 (ivals_one .u8 _) (by omega) (by omega) ?_))
        intro a5 c5 x5 ob5 v1 v2 v3
        obtain ⟨hF5, hB5, hM5, hN5, hs5⟩ := put4_step hFa5 hBa5 hMa5 hN4 v2 v3 (by simp)
        have hO5 : Own x5.heap 5 1 a5 (N + 4 + 4 + 4 + 4 + 4) c5 (ivals .u8 (zs ++ [0, 2, xt / 256, xt % 256] ++ beB xa 4 ++ beB (maskV xk) 4 ++ beB xp 4 ++ beB xm 4)) ob5 := by simpa [ivals] using v1
        clear v1 v2 v3 hOa5 hrd5 hFa5 hBa5 hMa5
        clear f5 hO4 hF4 hB4 hM4 hN4 hs4
        have HEQ := Lib.hid (show zs ++ [0, 2, xt / 256, xt % 256] ++ beB xa 4 ++ beB (maskV xk) 4 ++ beB xp 4 ++ beB xm 4 = hd :: 2 :: 0 :: 0 :: (l.take (k + 1)).flatMap entB by
          have hb2 : beB xt 2 = [xt / 256 % 256, xt % 256] := by simp only [beB, Nat.reduceMul, Nat.mul_zero, Nat.mul_one, Int.reducePow, Int.pow_zero, Int.ediv_one]
          rw [HD.out, HZS.out]
          unfold entB
          rw [hb2, show xt / 256 % 256 = xt / 256 by omega, show beB 2 2 = [0, 2] from rfl]
          simp)
        rw [HEQ.out] at hO5
        have HLE := Lib.hid (show N + 4 + 4 + 4 + 4 + 4 = 4 + 20 * (k + 1) by rw [HNN.out]; omega)
        go_wp2
        go_roundw
        case rel => exact ⟨k + 1, a5, c5, ob5, by omega, by go_num, by rw [← HLE.out], by rw [← HLE.out]; exact hO5, hF5, hM5, fun g hg => (hN5 g hg).1⟩
        case measure => simp [intOf]; omega

      · obtain rfl : k = l.length := by omega
        have HX := Lib.hid (show encD false l = hd :: 2 :: 0 :: 0 :: (l.take l.length).flatMap entB by rw [HHD.out, List.take_length]; rfl)
        have HLN := Lib.hid (show 4 + 20 * l.length = (encD false l).length by rw [encD_len])
        rw [← HX.out] at hO
        have hm0 := hMr.cell 1
        have hml := hMr.lt
        simp only [List.getElem?_cons_succ, List.getElem?_cons_zero] at hm0
        clear hMr hN
        go_wp2
        go_ret
        refine ⟨a0, c0, ob0, by rw [HLN.out]; rfl, ?_, hF⟩
        rw [← HLN.out]; exact hO
end Go.Proofs.YtbmeeglehbaggaaDoor
