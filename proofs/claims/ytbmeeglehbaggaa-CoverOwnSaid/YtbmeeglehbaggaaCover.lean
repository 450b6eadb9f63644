import Derived.Test.YtbmeeglehbaggaaColNet
import Derived.Test.YtbmeeglehbaggaaPrefW
import Derived.Test.YtbmeeglehbaggaaNetClone
namespace Go
/-- The head of a row of the call's own. -/
theorem Ownd.pre {H : Array Obj} {E : TypeId} {sz : Nat} {a : Option Addr} {n cap k : Nat} {xs : List Value} {ob : Option Nat} (h : Ownd H E sz a n cap xs ob) (hk : k ≤ n) : Ownd H E sz a k cap (xs.take (k * sz)) ob := by
  have hl := h.len
  have hm := Nat.mul_le_mul_right sz hk
  refine ⟨by rw [List.length_take, hl, Nat.min_eq_left hm], ?_⟩
  rcases h.is with ⟨h1, h2, h3, h4⟩ | ⟨g, cur, h1, h2, h3, h4, h5, h6, h7⟩
  · exact .inl ⟨h1, by omega, h3, h4⟩
  · refine .inr ⟨g, cur, h1, h2, h3, by omega, h5, h6, ?_⟩
    rw [← h7, List.take_take, Nat.min_eq_left hm]
end Go
namespace Go.Proofs.Ytbmeeglehbaggaa
open Go.RowKit

/-! As few nets as may be. -/
def joinL : Nat → List Nt → List Nt
  | 0, l => l
  | k + 1, l => if l.length ≤ 1 then l else
    match upE (nth l (l.length - 1)).a (nth l (l.length - 1)).n with
    | .error _ => l
    | .ok u => if (nth l (l.length - 2)).n ≠ (nth l (l.length - 1)).n ∨ inB (nth l (l.length - 2)).a (nth l (l.length - 2)).n u.1 u.2 = false then l
      else joinL k (l.take (l.length - 2) ++ [⟨u.1, u.2⟩])
def joinM (l : List Nt) : List Nt := joinL l.length l
theorem joinL_short {k : Nat} {l : List Nt} (h : l.length ≤ 1) : joinL k l = l := by
  cases k with
  | zero => rfl
  | succ k => exact if_pos h
def joinS (r : Except Int (Int × Int)) (xa xn yn : Int) (l : List Nt) (f : List Nt → List Nt) (k : Nat) : List Nt := match r with
  | .error _ => l
  | .ok u => if xn ≠ yn ∨ inB xa xn u.1 u.2 = false then l else f (l.take k ++ [⟨u.1, u.2⟩])
theorem joinL_step {m : Nat} {l : List Nt} (h : 1 < m) (hm : m = l.length) : joinL m l = joinS (upE (nth l (m - 1)).a (nth l (m - 1)).n) (nth l (m - 2)).a (nth l (m - 2)).n (nth l (m - 1)).n l (joinL (m - 1)) (m - 2) := by
  obtain ⟨k, rfl⟩ : ∃ k, m = k + 1 := ⟨m - 1, by omega⟩
  rw [joinL, if_neg (by omega), ← hm]
  show _ = joinS (upE (nth l (k + 1 - 1)).a (nth l (k + 1 - 1)).n) _ _ _ l (joinL k) _
  rfl
/-- The block that was, or a new one. -/
def NewOf (w : World) (ob ob' : Option Nat) : Prop := ob' = ob ∨ ∃ g, ob' = some g ∧ w.heap.size ≤ g
theorem joinL_len : ∀ (k : Nat) (l : List Nt), (joinL k l).length ≤ l.length
  | 0, _ => Nat.le_refl _
  | k + 1, l => by
    unfold joinL
    split
    · exact Nat.le_refl _
    · split
      · exact Nat.le_refl _
      · split
        · exact Nat.le_refl _
        · refine Nat.le_trans (joinL_len k _) ?_
          simp; omega
theorem flat_take2 (l : List Nt) (k : Nat) : (l.flatMap Nt.cells).take (k * 2) = (l.take k).flatMap Nt.cells := by
  induction l generalizing k with
  | nil => simp
  | cons x l ih =>
    cases k with
    | zero => simp
    | succ k =>
      rw [List.take_succ_cons, List.flatMap_cons, List.flatMap_cons, ← ih, Nat.succ_mul]
      rfl
def WfN (l : List Nt) : Prop := ∀ x ∈ l, 0 ≤ x.a ∧ x.a < 4294967296
theorem up_wf {a n : Int} (ha : 0 ≤ a ∧ a < 4294967296) {u : Int × Int} (h : upE a n = .ok u) : 0 ≤ u.1 ∧ u.1 < 4294967296 := by
  unfold upE at h
  split at h
  · cases h
  · split at h
    · cases h
    · cases h; exact cutA_bd ha _
theorem WfN.join : ∀ {k : Nat} {l : List Nt}, WfN l → WfN (joinL k l)
  | 0, _, h => h
  | k + 1, l, h => by
    unfold joinL
    split
    · exact h
    · rename_i hl
      split
      · exact h
      · rename_i u hu
        split
        · exact h
        · refine WfN.join (fun x hx => ?_)
          rcases List.mem_append.1 hx with hx | hx
          · exact h x (List.mem_of_mem_take hx)
          · rw [List.mem_singleton] at hx; subst hx
            exact up_wf (h _ (nth_mem l _ (by omega))) hu
/-- What is told: a list of the call's own, in the block that was or in a new one. -/
def RetJ (w : World) (l : List Nt) (ob : Option Nat) (e : Ending) (w' : World) : Prop :=
  ∃ a n c ob', e = .returned (.slice a n c) ∧ n = l.length ∧ Ownd w'.heap 26 2 a n c (l.flatMap Nt.cells) ob' ∧ Fr (fun k => ob = some k) w w' ∧ NewOf w ob ob'

theorem RetJ.mk {w w' : World} {l l' : List Nt} {ob ob' : Option Nat} {e : Ending} {a : Option Addr} {n c : Nat} (h : l = l') (he : e = .returned (.slice a n c)) (hn : n = l'.length) (hO : Ownd w'.heap 26 2 a n c (l'.flatMap Nt.cells) ob') (hF : Fr (fun k => ob = some k) w w') (hN : NewOf w ob ob') : RetJ w l ob e w' := by
  subst h; exact ⟨a, n, c, ob', he, hn, hO, hF, hN⟩
set_option maxRecDepth 100000 in
set_option maxHeartbeats 4000000 in
theorem joined_any {n : Nat} (l : List Nt) (a : Option Addr) (c : Nat) (ob : Option Nat) (w : World) (hO : Ownd w.heap 26 2 a n c (l.flatMap Nt.cells) ob) (hn : n = l.length) (hw : WfN l) (hl : l.length ≤ 100) :
    Calls Try.prog 63 #[.slice a n c] w (RetJ w (joinM l) ob) := by
  have HJ : Hid (joinM l = joinL n l) := Lib.hid (by rw [hn]; rfl)
  have HW := Lib.hid hw
  have HN := Lib.hid hn
  have hn100 : n ≤ 100 := by omega
  clear hw hn hl
  go_enter Try.func63, Try.ntmps63
  go_wp2
  go_loopw [3, 0] (fun s3 s0 wr => ∃ (m : Nat) (a' : Option Addr) (c' : Nat) (ob' : Option Nat) (l' : List Nt), s3 = .int .i64 m ∧ s0 = .slice a' m c' ∧ Hid (m = l'.length) ∧ m ≤ n ∧ Hid (joinM l = joinL m l') ∧ Hid (WfN l') ∧ Ownd wr.heap 26 2 a' m c' (l'.flatMap Nt.cells) ob' ∧ Fr (fun k => ob = some k) w wr ∧ NewOf w ob ob') (fun s3 _ _ => (intOf s3).toNat)
  case atStart => exact ⟨n, a, c, ob, l, rfl, rfl, HN, Nat.le_refl _, HJ, HW, hO, Fr.refl _ _, .inl rfl⟩
  case round =>
    clear hO HJ HW HN
    obtain ⟨m, a', c', ob', l', rfl, rfl, hm, hmn, hJ, hW, hO, hF, hN⟩ := hrel
    by_cases hm1 : 1 < m
    · obtain ⟨g, rfl, rfl, hg, hcs, hfz⟩ := hO.pos (by omega)
      have c10 := (hcs ((m - 1) * 2 + 0) (by omega)).trans (flat_get Nt.cells 2 Nt.cells_len l' (m - 1) 0 (by have := hm.out; omega) (by omega))
      have c11 := (hcs ((m - 1) * 2 + 1) (by omega)).trans (flat_get Nt.cells 2 Nt.cells_len l' (m - 1) 1 (by have := hm.out; omega) (by omega))
      have c20 := (hcs ((m - 2) * 2 + 0) (by omega)).trans (flat_get Nt.cells 2 Nt.cells_len l' (m - 2) 0 (by have := hm.out; omega) (by omega))
      have c21 := (hcs ((m - 2) * 2 + 1) (by omega)).trans (flat_get Nt.cells 2 Nt.cells_len l' (m - 2) 1 (by have := hm.out; omega) (by omega))
      have hw1 := hW.out _ (nth_mem l' (m - 1) (by have := hm.out; omega))
      have hw2 := hW.out _ (nth_mem l' (m - 2) (by have := hm.out; omega))
      have hJn : joinM l = joinS (upE (nth l' (m - 1)).a (nth l' (m - 1)).n) (nth l' (m - 2)).a (nth l' (m - 2)).n (nth l' (m - 1)).n l' (joinL (m - 1)) (m - 2) := by
        rw [hJ.out, joinL_step (by omega) hm.out]
      obtain ⟨y, hy⟩ : ∃ y, y = nth l' (m - 1) := ⟨_, rfl⟩
      obtain ⟨x, hx⟩ : ∃ x, x = nth l' (m - 2) := ⟨_, rfl⟩
      rw [← hy] at c10 c11 hw1 hJn
      rw [← hx] at c20 c21 hw2 hJn
      obtain ⟨ya, yn⟩ := y
      obtain ⟨xa, xn⟩ := x
      simp only [Nt.cells, List.getElem?_cons_zero, List.getElem?_cons_succ, Nat.add_zero] at c10 c11 c20 c21 hw1 hw2 hJn
      have hu := up_any ya yn wr hw1
      clear hcs hy hx
      cases hE : upE ya yn with
      | error er =>
        rw [hE] at hu hJn
        have HJ2 := Lib.hid (show joinM l = l' from hJn)
        clear hE hJn hJ
        go_wp2_with (fail)
        refine hu.mono ?_
        rintro e1 w1 ⟨rfl, hF1⟩
        clear hu
        go_wp2
        (refine wp_region_mix (fun _ => True) 24 (by kernel_rfl) (by kernel_rfl) (trivial) ?_; simp only [List.take_succ_cons, List.take_zero, List.drop_succ_cons, List.drop_zero])
        (refine wpMix_earlyN 24 (by kernel_rfl) (by kernel_rfl) ?_; simp only [List.take_succ_cons, List.take_zero, List.drop_succ_cons, List.drop_zero]; (repeat (go_big_quiet_step (fail))); refine wpQuiet_nil ?_)
        refine wpMix_nil ?_
        go_wp2
        go_ret
        exact RetJ.mk HJ2.out rfl hm.out (hO.fr hF1 (fun _ _ h => h) |>.alloc _) (hF.trans (hF1.none _) |>.alloc _).drew hN
      | ok u =>
        obtain ⟨ua, un⟩ := u
        have huw := up_wf hw1 hE
        rw [hE] at hu hJn
        simp only at huw
        have hin := fun W => in_any xa xn ua un W hw2 huw
        by_cases hne : xn = yn
        · have e1 : (xn != yn) = false := by simp [hne]
          have e2 : ¬ xn ≠ yn := fun h => h hne
          clear hE hne
          cases hib : inB xa xn ua un with
          | false =>
            have HJ2 := Lib.hid (show joinM l = l' by rw [hJn]; exact if_pos (.inr hib))
            rw [hib] at hin
            clear hib hJn hJ e2
            go_wp2_with (fail)
            refine hu.mono ?_
            rintro e1 w1 ⟨rfl, hF1⟩
            clear hu
            have hO1 := hO.fr hF1 (fun _ _ h => h)
            have p0 := (hF1.cell (p := ⟨g, (m - 1) * 2 + 1, none⟩) hg (fun h => h)).trans c11
            have p1 := (hF1.cell (p := ⟨g, (m - 2) * 2 + 1, none⟩) hg (fun h => h)).trans c21
            have p2 := (hF1.cell (p := ⟨g, (m - 2) * 2, none⟩) hg (fun h => h)).trans c20
            have hg1 := Nat.lt_of_lt_of_le hg hF1.size
            go_wp2
            (refine wp_region_mix (fun _ => True) 24 (by kernel_rfl) (by kernel_rfl) (trivial) ?_; simp only [List.take_succ_cons, List.take_zero, List.drop_succ_cons, List.drop_zero])
            (refine wpMix_earlyN 24 (by kernel_rfl) (by kernel_rfl) ?_; simp only [List.take_succ_cons, List.take_zero, List.drop_succ_cons, List.drop_zero]; (repeat (go_big_quiet_step (fail))); refine wpQuiet_nil ?_)
            refine wpMix_nil ?_
            go_wp2_with (fail)
            refine (hin _).mono ?_
            rintro e2 w2 ⟨rfl, hF2⟩
            have hO2 := Ownd.fr (w := (w1.alloc (.cells #[.int .u32 ua, .int .i64 un] 26)).drew) (hO1.alloc _) hF2 (fun _ _ h => h)
            have hFe := (((hF.trans (hF1.none _)).alloc (.cells #[.int .u32 ua, .int .i64 un] 26)).drew).trans (hF2.none _)
            clear hin hF2 hO1
            go_wp2
            go_ret
            exact RetJ.mk HJ2.out rfl hm.out hO2 hFe hN
          | true =>
            have HJ2 := Lib.hid (show joinM l = joinL (m - 1) (l'.take (m - 2) ++ [⟨ua, un⟩]) by rw [hJn]; exact if_neg (fun h => by rcases h with h | h; exact e2 h; simp only at h; rw [hib] at h; cases h))
            rw [hib] at hin
            clear hib hJn hJ e2
            have HU := Lib.hid huw
            go_wp2_with (fail)
            refine hu.mono ?_
            rintro e1 w1 ⟨rfl, hF1⟩
            clear hu
            have hO1 := hO.fr hF1 (fun _ _ h => h)
            have p0 := (hF1.cell (p := ⟨g, (m - 1) * 2 + 1, none⟩) hg (fun h => h)).trans c11
            have p1 := (hF1.cell (p := ⟨g, (m - 2) * 2 + 1, none⟩) hg (fun h => h)).trans c21
            have p2 := (hF1.cell (p := ⟨g, (m - 2) * 2, none⟩) hg (fun h => h)).trans c20
            have hg1 := Nat.lt_of_lt_of_le hg hF1.size
            go_wp2
            (refine wp_region_mix (fun _ => True) 24 (by kernel_rfl) (by kernel_rfl) (trivial) ?_; simp only [List.take_succ_cons, List.take_zero, List.drop_succ_cons, List.drop_zero])
            (refine wpMix_earlyN 24 (by kernel_rfl) (by kernel_rfl) ?_; simp only [List.take_succ_cons, List.take_zero, List.drop_succ_cons, List.drop_zero]; (repeat (go_big_quiet_step (fail))); refine wpQuiet_nil ?_)
            refine wpMix_nil ?_
            go_wp2_with (fail)
            refine (hin _).mono ?_
            rintro e2 w2 ⟨rfl, hF2⟩
            have hB2 := Blk.fr (w := (w1.alloc (.cells #[.int .u32 ua, .int .i64 un] 26)).drew) (Blk.made w1 26 [.int .u32 ua, .int .i64 un]) hF2 (fun h => h)
            have hO2 := Ownd.fr (w := (w1.alloc (.cells #[.int .u32 ua, .int .i64 un] 26)).drew) (hO1.alloc _) hF2 (fun _ _ h => h)
            have hFe := (((hF.trans (hF1.none _)).alloc (.cells #[.int .u32 ua, .int .i64 un] 26)).drew).trans (hF2.none _)
            clear hin hF2 hO1 p0 p1 p2 c10 c11 c20 c21 hO hF hfz
            have q0 := fun c : Cls (fun _ => False) w2 => (hB2.fr c.fr (fun h => h)).cell 0
            have q1 := fun c : Cls (fun _ => False) w2 => (hB2.fr c.fr (fun h => h)).cell 1
            simp only [List.getElem?_cons_zero, List.getElem?_cons_succ] at q0 q1
            have hcap := hO2.cap
            go_wp2
            (refine wp_region_mix (fun w' => ∃ c : Cls (fun _ => False) w2, w' = c.wo) 6 (by kernel_rfl) (by kernel_rfl) (⟨⟨_, (Fr.refl _ _).drew⟩, rfl⟩) ?_; simp only [List.take_succ_cons, List.take_zero, List.drop_succ_cons, List.drop_zero])
            (refine wpMix_lateN 5 (⟨⟨_, (Fr.refl _ _).drew⟩, rfl⟩) (by kernel_rfl) ?_; simp only [List.take_succ_cons, List.take_zero, List.drop_succ_cons, List.drop_zero]; (repeat (go_big_quiet_step (fail))); refine wpQuiet_nil ?_)
            refine wpMix_eff (by kernel_rfl) ?_
            go_wp2
            refine ⟨⟨⟨_, ((Fr.refl _ _).drew).alloc _⟩, rfl⟩, ?_⟩
            refine wpMix_nil ?_
            have hrd := (Ownd.made w2 26 2 1 [.int .u32 ua, .int .i64 un] rfl (by decide)).rd
            have hpre := ((hO2.alloc (.cells #[.int .u32 ua, .int .i64 un] 26))).pre (k := m - 2) (by omega)
            rw [flat_take2 l' (m - 2)] at hpre
            refine wpList_app rfl _ _ 36 rfl Try.underlying36 infoNt rfl (by decide) rfl rfl hpre hrd (by simp [Value.oneCell']) (by omega) (by omega) ?_
            intro a7 c7 w7 ob7 z1 z2 z3
            have e7 : (l'.take (m - 2)).flatMap Nt.cells ++ [.int .u32 ua, .int .i64 un] = (l'.take (m - 2) ++ [(⟨ua, un⟩ : Nt)]).flatMap Nt.cells := by simp
            rw [e7, show m - 2 + 1 = m - 1 by omega] at z1
            rw [show m - 2 + 1 = m - 1 by omega]
            have hs2 := hFe.size
            have hF7 : Fr (fun k => ob = some k) w w7 := ((hFe.alloc (.cells #[.int .u32 ua, .int .i64 un] 26)).drew).trans' z2 (fun i hi h => by
              cases h
              rcases hN with h | ⟨g', h, h'⟩
              · exact h.symm
              · cases h; omega)
            have hN7 : NewOf w ob ob7 := by
              rcases z3 with h | ⟨g', h, h'⟩
              · rw [h]; exact hN
              · refine .inr ⟨g', h, ?_⟩
                have h2 : w2.heap.size + 1 ≤ g' := by simpa using h'
                omega
            have HM7 : Hid (m - 1 = (l'.take (m - 2) ++ [(⟨ua, un⟩ : Nt)]).length) := Lib.hid (by have := hm.out; simp; omega)
            have HW7 : Hid (WfN (l'.take (m - 2) ++ [(⟨ua, un⟩ : Nt)])) := Lib.hid (fun q hq => by
              rcases List.mem_append.1 hq with hq | hq
              · exact hW.out q (List.mem_of_mem_take hq)
              · rw [List.mem_singleton] at hq; subst hq; exact HU.out)
            generalize l'.take (m - 2) ++ [(⟨ua, un⟩ : Nt)] = l7 at *
            clear z2 z3 e7 hpre hrd hO2 hFe hN q0 q1 hB2 hm hW
            go_wp2
            go_roundw
            case rel => exact ⟨m - 1, a7, c7, ob7, l7, by go_num, rfl, HM7, by omega, HJ2, HW7, z1, hF7, hN7⟩
            case measure => simp [intOf]; omega
        · have e1 : (xn != yn) = true := by simp [hne]
          have HJ2 := Lib.hid (show joinM l = l' by rw [hJn]; exact if_pos (.inl hne))
          clear hE hne hJn hJ
          go_wp2_with (fail)
          refine hu.mono ?_
          rintro e1 w1 ⟨rfl, hF1⟩
          clear hu
          have hO1 := hO.fr hF1 (fun _ _ h => h)
          have p0 := (hF1.cell (p := ⟨g, (m - 1) * 2 + 1, none⟩) hg (fun h => h)).trans c11
          have p1 := (hF1.cell (p := ⟨g, (m - 2) * 2 + 1, none⟩) hg (fun h => h)).trans c21
          have hg1 := Nat.lt_of_lt_of_le hg hF1.size
          go_wp2
          (refine wp_region_mix (fun _ => True) 24 (by kernel_rfl) (by kernel_rfl) (trivial) ?_; simp only [List.take_succ_cons, List.take_zero, List.drop_succ_cons, List.drop_zero])
          (refine wpMix_earlyN 24 (by kernel_rfl) (by kernel_rfl) ?_; simp only [List.take_succ_cons, List.take_zero, List.drop_succ_cons, List.drop_zero]; (repeat (go_big_quiet_step (fail))); refine wpQuiet_nil ?_)
          refine wpMix_nil ?_
          go_wp2
          go_ret
          exact RetJ.mk HJ2.out rfl hm.out (hO1.alloc _) (hF.trans (hF1.none _) |>.alloc _).drew hN
    · obtain rfl : m = l'.length := hm.out
      have HJ2 := Lib.hid (show joinM l = l' by rw [hJ.out]; exact joinL_short (by omega))
      clear hJ hm
      generalize hq : l'.length = q at *
      have HQ := Lib.hid hq.symm
      clear hq
      go_wp2
      go_ret
      exact RetJ.mk HJ2.out rfl HQ.out hO hF hN
end Go.Proofs.Ytbmeeglehbaggaa
