import Derived.Test.YtbmeeglehbaggaaLfiI
namespace Go.Proofs.Ytbmeeglehbaggaa
open Go.RowKit Go.Maps
def FarOf (w : World) (L : FL) (N : Nat) (t : Int) : Prop := ∀ i, i < N → iv w (L.nd i) 0 = if (i : Int) = t then 0 else 16
def lnewE (n : Int) (l : List Lk) (to : Int) : Option Int :=
  match graphErr n l with
  | some k => some k
  | none => if to < 0 ∨ n ≤ to then some 1 else none
def LNewPost (w : World) (n : Int) (to : Int) (r : Option Int) (e : Ending) (w' : World) : Prop :=
  match r with
  | some k => RetV w (.tuple #[.pointer none, errv k]) e w'
  | none => ∃ (N sb : Nat) (L : FL), n = N ∧ e = .returned (.tuple #[.pointer (some ⟨sb, 0, none⟩), .nilIface]) ∧ LN w' (fun k => w.heap.size ≤ k) sb N to 0 L ∧ FarOf w' L N to ∧ Fr (fun _ => False) w w'
theorem LNewPost.err {w w' : World} {n : Int} {to : Int} {r : Option Int} {k : Int} {e : Ending} (h : r = some k) (he : e = .returned (.tuple #[.pointer none, errv k])) (hF : Fr (fun _ => False) w w') : LNewPost w n to r e w' := by subst h; exact ⟨he, hF⟩
theorem LNewPost.ok {w w' : World} {N sb : Nat} {to : Int} {r : Option Int} {e : Ending} {L : FL} (h : r = none) (he : e = .returned (.tuple #[.pointer (some ⟨sb, 0, none⟩), .nilIface])) (hA : LN w' (fun k => w.heap.size ≤ k) sb N to 0 L) (hf : FarOf w' L N to) (hF : Fr (fun _ => False) w w') : LNewPost w N to r e w' := by
  subst h; exact ⟨N, sb, L, rfl, he, hA, hf, hF⟩

set_option maxRecDepth 100000 in
set_option maxHeartbeats 4000000 in
theorem lnew_any (n : Int) (l : List Lk) (a : Option Addr) (c : Nat) (to : Int) (w : World) (hL : Links w.heap a l) (hl : l.length ≤ 9223372036854775807) (hw : ∀ x ∈ l, (Lit.int .i64 x.a).wf = true ∧ (Lit.int .i64 x.b).wf = true ∧ (Lit.int .i64 x.c).wf = true) :
    Calls Try.prog 19 #[.int .i64 n, .slice a l.length c, .int .i64 to] w (LNewPost w n to (lnewE n l to)) := by
  obtain ⟨E, hE⟩ : ∃ E, E = lnewE n l to := ⟨_, rfl⟩
  rw [← hE]
  have HE := Lib.hid hE
  clear hE
  have hmm := @run_makeMap Try.prog
  go_enter Try.func19, Try.ntmps19
  go_wp2_with (fail)
  refine (costs_any n l a c _ hL hl hw).mono ?_
  intro e1 w1 R1
  rcases costsE_cases n l with ⟨k, hg, hc⟩ | ⟨N, rfl, hN1, hN8, hg, hc, hT⟩
  · have hX := Lib.hid (HE.out.trans (show lnewE n l to = some k by unfold lnewE; rw [hg]))
    rw [hc] at R1
    obtain ⟨rfl, hF1⟩ := R1
    clear hg hc
    go_wp2
    go_ret2
    exact LNewPost.err hX.out rfl hF1
  · have hE0 : lnewE N l to = if to < 0 ∨ (N : Int) ≤ to then some 1 else none := by unfold lnewE; rw [hg]
    obtain ⟨a1, c1, ob1, G, Cc, rfl, hM1, hF1⟩ := R1.get hc hT.sq.len
    have HT := Lib.hid hT
    clear R1 hc hg
    by_cases hto : to < 0 ∨ (N : Int) ≤ to
    · have hX := Lib.hid (HE.out.trans (hE0.trans (if_pos hto)))
      have q : decide (to < 0) = true ∨ (decide (to < 0) = false ∧ decide (to ≥ (N : Int)) = true) := by simp only [decide_eq_true_iff, decide_eq_false_iff_not]; omega
      clear hto hE0 hT
      rcases q with q1 | ⟨q1, q2⟩
      all_goals
        go_wp2
        go_ret2
        exact LNewPost.err hX.out rfl hF1
    · have hX := Lib.hid (HE.out.trans (hE0.trans (if_neg hto)))
      obtain ⟨t, rfl⟩ := Int.eq_ofNat_of_zero_le (show 0 ≤ to by omega)
      have htN : t < N := by omega
      have q2 : decide ((t : Int) ≥ (N : Int)) = false := by simp; omega
      have q3 : decide (N ≤ t) = false := by simp; omega
      have q1 : decide ((t : Int) < 0) = false := by simp
      obtain ⟨cb, ha1, hob1, -⟩ := hM1.top.pos (by rw [hT.sq.len]; omega)
      have hs1 := hF1.size
      have hF2 : Fr (fun _ => False) w1 ((w1.alloc (.map #[] 0)).alloc (.cells #[.int .i64 t, .slice a1 N c1, .slice none 0 0, .map (some w1.heap.size)] 102)) := ((Fr.refl _ _).alloc _).alloc _
      have hm0 : MapL (w1.alloc (.map #[] 0)) Try.prog 107 klp w1.heap.size [] := MapL.made w1 _ _ _
      have hLI : LI ((w1.alloc (.map #[] 0)).alloc (.cells #[.int .i64 t, .slice a1 N c1, .slice none 0 0, .map (some w1.heap.size)] 102)) w.heap.size (w1.alloc (.map #[] 0)).heap.size N 0 t ⟨cb, c1, 0, 0, w1.heap.size, G, Cc, fun _ => 0, fun _ => 0, fun _ => 0⟩ none 0 none := by
        have hlen := hT.sq.len
        have htop := hM1.top
        have hobn := hM1.obn cb hob1
        rw [hob1] at htop
        obtain ⟨cs, c1', -, c3⟩ := htop.blk
        refine ⟨?_, ⟨cs, c1'.fr hF2 (fun h => h), fun j hj => ?_⟩, fun j hj => ?_, Ownd.nil _ _ _, fun j hj => absurd hj (by omega), fun j hj => absurd hj (by omega), hm0.fr ((Fr.refl (fun _ => False) _).alloc _) (fun h => h), ⟨by simp; omega, hobn.1, hs1, (fun g h => nomatch h), fun j hj => hM1.gn j (by rw [hlen]; exact hj), fun j hj => absurd hj (by omega)⟩, fun j j' hj => absurd hj (by omega)⟩
        · rw [← ha1]; exact Blk.made _ _ _
        · rw [c3 j (by rw [hlen]; omega)]
          have hr := hT.sq.rows j hj
          simp [hlen, hj, hr]
        · have hr := hM1.row j (by rw [hlen]; exact hj)
          rw [hT.sq.rows j hj] at hr
          obtain ⟨g, e1, e2, hI⟩ := IR.of_own hr (by omega)
          cases e2
          obtain ⟨ds, d1, d2, d3⟩ := hI.fr hF2 (fun h => h)
          have hcap := hr.cap
          exact ⟨ds, d1, by omega, d3⟩
      have hFw := hF1.trans hF2
      have HLI := Lib.hid hLI
      have HFw := Lib.hid hFw
      have hsb0 : (w1.alloc (.map #[] 0)).heap.size = w1.heap.size + 1 := by simp
      rw [hsb0] at HLI
      clear hto hE0 hT hM1 ha1 hob1 hF2 hm0 hLI hFw hF1 hsb0
      go_wp2
      go_loopw [34] (fun s34 wr => ∃ (i : Nat) (L : FL) (na : Option Addr) (nc : Nat) (nob : Option Nat), s34 = .int .i64 i ∧ i ≤ N ∧ Hid (LI wr w.heap.size (w1.heap.size + 1) N i t L na nc nob) ∧ Hid (Fr (fun _ => False) w wr)) (fun s _ => N - (intOf s).toNat)
      case atStart => exact ⟨0, _, _, _, _, rfl, by omega, HLI, HFw⟩
      case round =>
        obtain ⟨i, L, na, nc, nob, rfl, hi, HLr, HFr⟩ := hrel
        have hLr := HLr.out
        have k2 : wr.cell? ⟨w1.heap.size + 1, 2, none⟩ = some (.slice na i nc) := hLr.sB.cell 2
        by_cases hiN : i < N
        · have hsb := hLr.sB.lt
          have hT := hLr.nT
          have hnlt := hT.lt
          have n1 : ¬ nob = some (w1.heap.size + 1) := fun e => by
            have h1 := hT
            rw [e] at h1
            obtain ⟨ds, d1, -⟩ := h1.blk
            exact d1.ne hLr.sB (by decide) rfl
          have f2 := hLr.sB.frozen 2
          have q2' : ∀ c : Cls (fun x => nob = some x) wr, c.wo.cell? ⟨w1.heap.size + 1, 2, none⟩ = some (.slice na i nc) := fun c => (c.fr.cell (p := ⟨w1.heap.size + 1, 2, none⟩) hsb n1).trans k2
          obtain ⟨xs, hxs⟩ : ∃ xs, xs = (List.range i).map (fun j => Value.pointer (some ⟨L.nd j, 0, none⟩)) := ⟨_, rfl⟩
          rw [← hxs] at hT
          have HXS := Lib.hid hxs
          have hbase := HFr.out.size
          clear hLr hxs
          go_wp2
          (refine wp_region_mix (fun w' => ∃ c : Cls (fun x => nob = some x) wr, w' = c.wo) 12 (by kernel_rfl) (by kernel_rfl) (⟨⟨_, (Fr.refl _ _).drew⟩, rfl⟩) ?_; simp only [List.take_succ_cons, List.take_zero, List.drop_succ_cons, List.drop_zero])
          (refine wpMix_lateN 5 (⟨⟨_, (Fr.refl _ _).drew⟩, rfl⟩) (by kernel_rfl) ?_; simp only [List.take_succ_cons, List.take_zero, List.drop_succ_cons, List.drop_zero]; (repeat (go_big_quiet_step (fail))); refine wpQuiet_nil ?_)
          refine wpMix_eff (by kernel_rfl) ?_
          go_wp2
          refine ⟨⟨⟨_, ((Fr.refl _ _).alloc _).drew⟩, rfl⟩, ?_⟩
          (refine wpMix_lateN 1 (⟨⟨_, (Fr.refl _ _).drew⟩, rfl⟩) (by kernel_rfl) ?_; simp only [List.take_succ_cons, List.take_zero, List.drop_succ_cons, List.drop_zero]; (repeat (go_big_quiet_step (fail))); refine wpQuiet_nil ?_)
          refine wpMix_eff (by kernel_rfl) ?_
          have hlit := (Ownd.made wr 3 1 1 [.int .i64 16] rfl (by decide)).rd
          go_wp2_with (fail)
          refine (repeat_int 16 (some ⟨wr.heap.size, 0, none⟩) 1 N ((wr.alloc (.cells #[.int .i64 16] 3)).drew) hlit (by omega) (by omega)).mono ?_
          rintro e8 w8 ⟨a8, c8, ob8, rfl, hO8, hF8, hN8'⟩
          have hcap8 := hO8.cap
          obtain ⟨g, rfl, rfl, hI8⟩ := IR.of_own hO8 (by omega)
          have hgn : wr.heap.size ≤ g := by have := hN8' g rfl; simp at this; omega
          have hF78 : Fr (fun _ => False) wr w8 := (((Fr.refl (fun _ => False) wr).alloc (.cells #[.int .i64 16] 3)).drew).trans hF8
          have hs8 := hF78.size
          have hT8 := hT.fr hF78 (fun _ _ h => h)
          clear hF8 hN8' hlit hO8
          go_wp2
          refine ⟨⟨⟨_, hF78.none _⟩, rfl⟩, ?_⟩
          (refine wpMix_lateN 1 (⟨⟨_, (Fr.refl _ _).drew⟩, rfl⟩) (by kernel_rfl) ?_; simp only [List.take_succ_cons, List.take_zero, List.drop_succ_cons, List.drop_zero]; (repeat (go_big_quiet_step (fail))); refine wpQuiet_nil ?_)
          refine wpMix_eff (by kernel_rfl) ?_
          go_wp2
          refine ⟨⟨⟨_, (hF78.alloc _).none _⟩, rfl⟩, ?_⟩
          refine wpMix_eff (by kernel_rfl) ?_
          go_wp2
          refine ⟨⟨⟨_, ((hF78.alloc _).alloc _).none _⟩, rfl⟩, ?_⟩
          refine wpMix_eff (by kernel_rfl) ?_
          have hrd := (Ownd.made (w8.alloc (.cells #[.int .i64 16, .int .i64 16, .slice (some ⟨g, 0, none⟩) N c8] 106)) 103 1 1 [.pointer (some ⟨w8.heap.size, 0, none⟩)] rfl (by decide)).rd
          rw [show (w8.alloc (.cells #[.int .i64 16, .int .i64 16, .slice (some ⟨g, 0, none⟩) N c8] 106)).heap.size = w8.heap.size + 1 by simp] at hrd
          have hnd0 := (Blk.made w8 106 [.int .i64 16, .int .i64 16, .slice (some ⟨g, 0, none⟩) N c8]).alloc (.cells #[.pointer (some ⟨w8.heap.size, 0, none⟩)] 103)
          go_wp2_with (at_builtin; refine wpList_app rfl _ _ 100 rfl Try.underlying100 infoNd rfl (by decide) rfl rfl ((hT8.alloc _).alloc _) hrd (by simp [Value.oneCell']) (by omega) (by omega) ?_)
          intro a' c' w9 ob' z1 z2 z3
          have hF89 : Fr (fun x => nob = some x) w8 w9 := (((Fr.refl _ w8).alloc _).alloc _).trans z2
          have hF9 : Fr (fun x => nob = some x) wr w9 := (hF78.none _).trans hF89
          have hnd := hnd0.fr z2 (fun h => by have := hnlt _ h; omega)
          have hI9 := (IR.le hI8 (Nat.le_refl N) hcap8).fr hF89 (fun h => by have := hnlt _ h; omega)
          have hob : ob' = nob ∨ ∀ x, ob' = some x → wr.heap.size ≤ x := by
            rcases z3 with z3 | ⟨g', z3, z4⟩
            · exact .inl z3
            · refine .inr fun x hx => ?_
              rw [z3] at hx
              cases hx
              first
              | omega
              | (simp at z4; omega)
          rw [HXS.out] at z1
          have hP := LI.push HLr.out hF9 hnd hI9 (by omega) hgn hbase z1 hob
          have b1 := (hF9.cell (p := ⟨w1.heap.size + 1, 2, none⟩) hsb n1).trans k2
          have b2 := (hF9.frozen (p := ⟨w1.heap.size + 1, 2, none⟩) hsb n1).trans f2
          have hsb9 := Nat.lt_of_lt_of_le hsb hF9.size
          have hFw9 : Fr (fun _ => False) w w9 := HFr.out.trans' hF9 (fun k hk h => by
            have := HLr.out.lo.2.2.2.1 k h; omega)
          have hlosb := HLr.out.lo.1
          have hFw10 : Fr (fun _ => False) w (w9.setCell ⟨w1.heap.size + 1, 2, none⟩ (.slice a' (i + 1) c')) := hFw9.setCell (fun h => by simp only at h; omega) _
          have HP := Lib.hid hP
          have HFw10 := Lib.hid hFw10
          clear z1 z2 z3 hP hnd hnd0 hI9 hI8 hob hT hT8 hrd hFw9 hFw10 k2 f2
          go_wp2
          refine ⟨⟨⟨_, hF9⟩, rfl⟩, ?_⟩
          refine wpMix_nil ?_
          clear q2'
          go_wp2
          go_roundw
          case rel =>
            exact ⟨i + 1, _, a', c', ob', by go_num, by omega, HP, HFw10⟩
          case measure => simp [intOf]; omega
        · obtain rfl : i = N := by omega
          obtain ⟨nb, rfl, hLN⟩ := hLr.net ⟨hN1, hN8⟩
          obtain ⟨d0, d1, d2, -, d4, -, -⟩ := hLN.rowN htN
          have f0 := d4 0
          have f1 := d4 1
          have hfar : FarOf ((wr.setCell ⟨L.nd t, 0, none⟩ (.int .i64 0)).setCell ⟨L.nd t, 1, none⟩ (.int .i64 0)).drew { L with nb := nb, nc := nc } i t := by
            intro j hj
            have hb := hLr.nB j hj
            by_cases hjt : j = t
            · subst hjt
              have h1 := ((hb.set 0 (.int .i64 0)).set 1 (.int .i64 0)).cell 0
              rw [if_pos rfl]
              exact iv_of (w := ((wr.setCell ⟨L.nd j, 0, none⟩ (.int .i64 0)).setCell ⟨L.nd j, 1, none⟩ (.int .i64 0)).drew) h1
            · have hne : L.nd j ≠ L.nd t := fun e => hjt (hLr.inj j t hj htN e)
              have h1 := ((hb.other (p := ⟨L.nd t, 0, none⟩) hne (.int .i64 0)).other (p := ⟨L.nd t, 1, none⟩) hne (.int .i64 0)).cell 0
              rw [if_neg (by omega)]
              exact iv_of (w := ((wr.setCell ⟨L.nd t, 0, none⟩ (.int .i64 0)).setCell ⟨L.nd t, 1, none⟩ (.int .i64 0)).drew) h1
          have hL2 := ((hLN.setN htN (i := 0) (by omega) 0).setN htN (i := 1) (by omega) 0).fr0 (Fr.refl _ _).drew
          have hlo := (hLr.lo.2.2.2.2.2 t htN).1
          have HFAR := Lib.hid hfar
          have HL2 := Lib.hid hL2
          have HFF := Lib.hid (((HFr.out.setCell (p := ⟨L.nd t, 0, none⟩) (fun h => by simp only at h; omega) (.int .i64 0)).setCell (p := ⟨L.nd t, 1, none⟩) (fun h => by simp only at h; omega) (.int .i64 0)).drew)
          clear hLN d4 hfar hL2 hLr
          go_wp2
          (refine wp_region_mix (fun _ => True) 14 (by kernel_rfl) (by kernel_rfl) (trivial) ?_; simp only [List.take_succ_cons, List.take_zero, List.drop_succ_cons, List.drop_zero])
          (refine wpMix_earlyN 14 (by kernel_rfl) (by kernel_rfl) ?_; simp only [List.take_succ_cons, List.take_zero, List.drop_succ_cons, List.drop_zero]; (repeat (go_big_quiet_step (fail))); refine wpQuiet_nil ?_)
          refine wpMix_nil ?_
          go_wp2
          go_ret2
          exact LNewPost.ok hX.out rfl HL2.out HFAR.out HFF.out
end Go.Proofs.Ytbmeeglehbaggaa
