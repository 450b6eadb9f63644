import Derived.Test.YtbmeeglehbaggaaDoorStabMath
import Derived.Test.YtbmeeglehbaggaaDoorSl
import Derived.Test.YtbmeeglehbaggaaDoorOMat
namespace Go.Proofs.YtbmeeglehbaggaaDoor
open Go.RowKit

def cmpI (x y : Int) : Int := if x < y then -1 else if y < x then 1 else 0
set_option maxRecDepth 100000 in
theorem isNaN_any (x : Int) (w : World) : Calls Tryd.prog 65 #[.int .i64 x] w (RetS w (.bool false)) := by
  go_enter Tryd.func65, Tryd.ntmps65
  have e : (x != x) = false := by simp
  go_wp2
  go_ret
  exact RetS.mk rfl rfl rfl
set_option maxRecDepth 100000 in
theorem cmpCompare_any (x y : Int) (w : World) : Calls Tryd.prog 39 #[.int .i64 x, .int .i64 y] w (RetS w (.int .i64 (cmpI x y))) := by
  go_enter Tryd.func39, Tryd.ntmps39
  go_wp2_with (fail)
  refine (isNaN_any x w).mono ?_
  rintro e1 w1 ⟨rfl, rfl⟩
  go_wp2_with (fail)
  refine (isNaN_any y w).mono ?_
  rintro e2 w2 ⟨rfl, rfl⟩
  by_cases h : x < y
  · have HV := Lib.hid (show cmpI x y = -1 from if_pos h)
    go_wp2
    go_ret
    exact RetS.mk (x := .int .i64 (-1)) (by rw [HV.out]) rfl rfl
  · by_cases h2 : y < x
    · have HV := Lib.hid (show cmpI x y = 1 by unfold cmpI; rw [if_neg h, if_pos h2])
      go_wp2
      go_ret
      exact RetS.mk (x := .int .i64 1) (by rw [HV.out]) rfl rfl
    · have HV := Lib.hid (show cmpI x y = 0 by unfold cmpI; rw [if_neg h, if_neg h2])
      go_wp2
      go_ret
      exact RetS.mk (x := .int .i64 0) (by rw [HV.out]) rfl rfl
/-- The order of a plan: which length is less. -/
def keyI (lens : List Int) (x y : Int) : Int := cmpI (nth lens x.toNat) (nth lens y.toNat)
/-- A function that compares, as long as but the row in block g turns. -/
def CmpOk (W0 : World) (g bl M : Nat) (cf : Int → Int → Int) : Prop := ∀ (x y : Int) (W : World) (n : Nat), (0 ≤ x ∧ x < M) → (0 ≤ y ∧ y < M) → Fr (fun k => k = g) W0 W →
  Calls Tryd.prog 38 #[.int .i64 x, .int .i64 y, .pointer (some ⟨bl, 0, none⟩)] (W.drewN n) (fun e w'' => e = .returned (.int .i64 (cf x y)) ∧ ∃ m, w'' = W.drewN m)
theorem CmpOk.fr {W0 W1 : World} {g bl M : Nat} {cf : Int → Int → Int} (h : CmpOk W0 g bl M cf) (f : Fr (fun k => k = g) W0 W1) : CmpOk W1 g bl M cf := fun x y W n hx hy hF => h x y W n hx hy (f.trans hF)
set_option maxRecDepth 100000 in
set_option maxHeartbeats 1000000 in
theorem fitCmp_any (lens : List Int) (al : Option Addr) (cl bl : Nat) (x y : Nat) (w : World) (hB : Blk w.heap bl 30 [.slice al lens.length cl]) (hL : Ints w.heap al lens) (hx : x < lens.length) (hy : y < lens.length) (hll : lens.length ≤ 9223372036854775807) :
    Calls Tryd.prog 38 #[.int .i64 x, .int .i64 y, .pointer (some ⟨bl, 0, none⟩)] w (RetQ w (.int .i64 (cmpI (nth lens x) (nth lens y)))) := by
  have b0 := hB.cell 0
  simp only [List.getElem?_cons_zero] at b0
  obtain ⟨g, o, rfl, hg, hc⟩ := Ints.pos hL (by omega)
  have d0 := hc w rfl x hx
  have d1 := hc w rfl y hy
  generalize nth lens x = p at *
  generalize nth lens y = q at *
  have hcc : ∀ n, Calls Tryd.prog 39 #[.int .i64 p, .int .i64 q] (w.drewN n) (fun e w'' => e = .returned (.int .i64 (cmpI p q)) ∧ ∃ m, w'' = w.drewN m) := fun n => (cmpCompare_any p q (w.drewN n)).mono (fun e w' h => ⟨h.1, n, h.2.symm⟩)
  clear hc
  go_enter Tryd.func38, Tryd.ntmps38
  go_wp2
  go_quiet (first | (go_at_call 39; exact hcc _))
  go_wp2
  go_ret
  exact RetQ.mk (x := .int .i64 (cmpI p q)) rfl rfl nq rfl
theorem cmpOk_fit (lens : List Int) (al : Option Addr) (cl bl g : Nat) (w : World) (hB : Blk w.heap bl 30 [.slice al lens.length cl]) (hL : Ints w.heap al lens) (hll : lens.length ≤ 9223372036854775807) (hbg : bl ≠ g) (hag : ∀ b off, al = some ⟨b, off, none⟩ → b ≠ g) : CmpOk w g bl lens.length (keyI lens) := by
  intro x y W n hx hy hF
  obtain ⟨p, rfl⟩ := Int.eq_ofNat_of_zero_le hx.1
  obtain ⟨q, rfl⟩ := Int.eq_ofNat_of_zero_le hy.1
  have hL2 : Ints (W.drewN n).heap al lens := by
    have : Ints W.heap al lens := hL.fr hF (fun b off e h => hag b off e h)
    exact this
  refine (fitCmp_any lens al cl bl p q (W.drewN n) (hB.fr (hF.drewN n) hbg) hL2 (by omega) (by omega) hll).mono ?_
  rintro e w' ⟨rfl, m, rfl⟩
  exact ⟨rfl, n + m, by simp⟩

/-- The row has turned. -/
def SPost (w : World) (g N c M : Nat) (d : List Int) (e : Ending) (w' : World) : Prop := e = .returned (.tuple #[]) ∧ Ownd w'.heap 3 1 (some ⟨g, 0, none⟩) N c (ivals .i64 d) (some g) ∧ OkD N M d ∧ Fr (fun k => k = g) w w'
def ltI (cf : Int → Int → Int) (x y : Int) : Bool := decide (cf x y < 0)
/-- Two neighbours changed. -/
theorem swp_own {w : World} {g N c : Nat} {d : List Int} (h : Ownd w.heap 3 1 (some ⟨g, 0, none⟩) N c (ivals .i64 d) (some g)) (i j : Nat) : Ownd ((w.setCell ⟨g, i, none⟩ (.int .i64 (nth d j))).setCell ⟨g, j, none⟩ (.int .i64 (nth d i))).heap 3 1 (some ⟨g, 0, none⟩) N c (ivals .i64 (swp d i j)) (some g) := by
  have h1 := (h.set rfl i (.int .i64 (nth d j))).set rfl j (.int .i64 (nth d i))
  have e : ((ivals .i64 d).set i (.int .i64 (nth d j))).set j (.int .i64 (nth d i)) = ivals .i64 (swp d i j) := by simp [ivals, List.map_set, swp]
  rwa [e] at h1

set_option maxRecDepth 100000 in
set_option maxHeartbeats 4000000 in
theorem ins_any (cf : Int → Int → Int) (g bl N c M a b : Nat) (d : List Int) (w : World) (hcmp : CmpOk w g bl M cf) (hO : Ownd w.heap 3 1 (some ⟨g, 0, none⟩) N c (ivals .i64 d) (some g)) (hd : OkD N M d) (hb : b ≤ N) (hN : N ≤ 1000) (ha : a ≤ 1000) :
    Calls Tryd.prog 79 #[.slice (some ⟨g, 0, none⟩) N c, .int .i64 a, .int .i64 b, .func (.func 38) #[] #[.pointer (some ⟨bl, 0, none⟩)]] w (SPost w g N c M (insS (ltI cf) d a b)) := by
  have hcap := hO.cap
  obtain ⟨RES, hRES⟩ : ∃ r, r = insS (ltI cf) d a b := ⟨_, rfl⟩
  rw [← hRES]
  have H0 := Lib.hid (show insL (ltI cf) a d (a + 1) b = RES from hRES.symm)
  have HC := Lib.hid hcmp
  clear hRES hcmp
  go_enter Tryd.func79, Tryd.ntmps79
  go_wp2
  go_loopw [8] (fun s8 wr => ∃ (i : Nat) (d1 : List Int), a + 1 ≤ i ∧ s8 = .int .i64 i ∧ i ≤ 1001 ∧ Ownd wr.heap 3 1 (some ⟨g, 0, none⟩) N c (ivals .i64 d1) (some g) ∧ OkD N M d1 ∧ Fr (fun k => k = g) w wr ∧ Hid (insL (ltI cf) a d1 i b = RES)) (fun s _ => b - (intOf s).toNat)
  case atStart => exact ⟨a + 1, d, by omega, by go_num, by omega, hO, hd, Fr.refl _ _, H0⟩
  case round =>
    clear hO hd H0
    obtain ⟨i, d1, hai, rfl, hi1, hO, hd, hF, hR⟩ := hrel
    by_cases hib : i < b
    · have hR1 := Lib.hid (show insL (ltI cf) a (insJ (ltI cf) a i d1) (i + 1) b = RES by rw [← insL_go (ltI cf) d1 hib]; exact hR.out)
      obtain ⟨R1, hR1e⟩ : ∃ r, r = insJ (ltI cf) a i d1 := ⟨_, rfl⟩
      rw [← hR1e] at hR1
      have hS := Lib.hid hR1e.symm
      clear hR hR1e
      go_wp2
      go_loopw [9] (fun s9 wx => ∃ (j : Nat) (d2 : List Int), a ≤ j ∧ j ≤ i ∧ s9 = .int .i64 j ∧ Ownd wx.heap 3 1 (some ⟨g, 0, none⟩) N c (ivals .i64 d2) (some g) ∧ OkD N M d2 ∧ Fr (fun k => k = g) w wx ∧ Hid (insJ (ltI cf) a j d2 = R1)) (fun s _ => (intOf s).toNat)
      case atStart => exact ⟨i, d1, by omega, by omega, rfl, hO, hd, hF, hS⟩
      case round =>
        clear hO hd hF hS
        obtain ⟨j, d2, haj, hji, rfl, hO, hd, hF, hS⟩ := hrel
        by_cases hja : a < j
        · obtain ⟨q, rfl⟩ : ∃ q, j = q + 1 := ⟨j - 1, by omega⟩
          obtain ⟨g', e', -, hg, hc, hfz⟩ := hO.pos (by omega)
          cases e'
          have d0 := (hc q (by omega)).trans (ivals_get .i64 d2 q (by rw [hd.len]; omega))
          have d1' := (hc (q + 1) (by omega)).trans (ivals_get .i64 d2 (q + 1) (by rw [hd.len]; omega))
          have f0 := hfz q
          have f1 := hfz (q + 1)
          have hq0 := hd.nth (show q < N by omega)
          have hq1 := hd.nth (show q + 1 < N by omega)
          have hcall := fun n : Nat => HC.out (nth d2 (q + 1)) (nth d2 q) wr n hq1 hq0 hF
          have hgo := Lib.hid (fun h : ltI cf (nth d2 (q + 1)) (nth d2 q) = true => (insJ_go (ltI cf) (d := d2) hja h).symm.trans hS.out)
          have hst := Lib.hid (fun h : ltI cf (nth d2 (q + 1)) (nth d2 q) = false => (insJ_stop (ltI cf) (a := a) (j := q + 1) (d := d2) h).symm.trans hS.out)
          have hOs := Lib.hid (fun (W : World) (h : Ownd W.heap 3 1 (some ⟨g, 0, none⟩) N c (ivals .i64 d2) (some g)) => swp_own h (q + 1) q)
          have hds := Lib.hid (hd.swp (i := q + 1) (j := q) (by omega) (by omega))
          have hlt : ltI cf (nth d2 (q + 1)) (nth d2 q) = decide (cf (nth d2 (q + 1)) (nth d2 q) < 0) := rfl
          generalize nth d2 q = x at *
          generalize nth d2 (q + 1) = y at *
          generalize cf y x = v at *
          have hjd : decide ((a : Int) < (q : Int) + 1) = true := decide_eq_true (by omega)
          clear hc hfz hS
          by_cases hv : v < 0
          · have hdv : decide (v < 0) = true := decide_eq_true hv
            have HE := Lib.hid (show insJ (ltI cf) a q (swp d2 (q + 1) q) = R1 from hgo.out (by rw [hlt]; exact hdv))
            clear hlt hgo hst
            go_wp2
            go_quiet (first | (go_at_call 38; exact hcall _))
            go_wp2
            have e0 : (wr.drewN nq).cell? ⟨g, q, none⟩ = some (.int .i64 x) := d0
            have e1 : (wr.drewN nq).cell? ⟨g, q + 1, none⟩ = some (.int .i64 y) := d1'
            have z0 : (wr.drewN nq).frozen? ⟨g, q, none⟩ = false := f0
            have z1 : (wr.drewN nq).frozen? ⟨g, q + 1, none⟩ = false := f1
            have hgq : g < (wr.drewN nq).heap.size := hg
            have hO6 := hOs.out (wr.drewN nq) hO
            have hF6 := hF.drewN nq
            generalize wr.drewN nq = wq at *
            clear hcall hO hF d0 d1' f0 f1 hg hOs
            have hF7 := (hF6.setCell (p := ⟨g, q + 1, none⟩) (fun _ => rfl) (.int .i64 x)).setCell (p := ⟨g, q, none⟩) (fun _ => rfl) (.int .i64 y)
            have HO6 := Lib.hid hO6
            clear hO6
            (refine wp_region_mix (fun w' => ∃ c : Cls (fun k => k = g) wq, w' = c.wo) 16 (by kernel_rfl) (by kernel_rfl) (⟨⟨_, (Fr.refl _ _).drew⟩, rfl⟩) ?_; simp only [List.take_succ_cons, List.take_zero, List.drop_succ_cons, List.drop_zero])
            (refine wpMix_earlyN 2 (by kernel_rfl) (by kernel_rfl) ?_; simp only [List.take_succ_cons, List.take_zero, List.drop_succ_cons, List.drop_zero]; (repeat (go_big_quiet_step (fail))); refine wpQuiet_nil ?_)
            (refine wpMix_lateN 3 (⟨⟨_, (Fr.refl _ _).drew⟩, rfl⟩) (by kernel_rfl) ?_; simp only [List.take_succ_cons, List.take_zero, List.drop_succ_cons, List.drop_zero]; (repeat (go_big_quiet_step (fail))); refine wpQuiet_nil ?_)
            (refine wpMix_earlyN 10 (by kernel_rfl) (by kernel_rfl) ?_; simp only [List.take_succ_cons, List.take_zero, List.drop_succ_cons, List.drop_zero]; (repeat (go_big_quiet_step (fail))); refine wpQuiet_nil ?_)
            refine wpMix_eff (by kernel_rfl) ?_
            go_wp2
            refine ⟨⟨⟨_, (Fr.refl _ _).drew.at1 _ _⟩, rfl⟩, ?_⟩
            refine wpMix_nil ?_
            go_wp2
            go_roundw
            case rel => exact ⟨q, _, by omega, by omega, by go_num, HO6.out, hds.out, hF7.drew, HE⟩
            case measure => simp [intOf]
          · have hdv : decide (v < 0) = false := decide_eq_false hv
            have HE := Lib.hid (show insL (ltI cf) a d2 (i + 1) b = RES by rw [hst.out (by rw [hlt]; exact hdv)]; exact hR1.out)
            clear hlt hgo hst hOs hds
            go_wp2
            go_quiet (first | (go_at_call 38; exact hcall _))
            go_wp2
            go_roundw
            case rel => exact ⟨i + 1, d2, by omega, by go_num, by omega, hO, hd, hF.drewN nq, HE⟩
            case measure => simp [intOf]; omega
        · obtain rfl : j = a := by omega
          have HE := Lib.hid (show insL (ltI cf) j d2 (i + 1) b = RES by rw [show d2 = R1 from (insJ_end (ltI cf) (Nat.le_refl _)).symm.trans hS.out]; exact hR1.out)
          go_wp2
          go_quiet (fail)
          go_wp2
          go_roundw
          case rel => exact ⟨i + 1, d2, by omega, by go_num, by omega, hO, hd, hF.drewN nq, HE⟩
          case measure => simp [intOf]; omega
    · have HE := Lib.hid (show d1 = RES from (insL_end (ltI cf) d1 (by omega)).symm.trans hR.out)
      go_wp2
      go_end0
      exact ⟨rfl, by rw [← HE.out]; exact hO, by rw [← HE.out]; exact hd, hF⟩
end Go.Proofs.YtbmeeglehbaggaaDoor
