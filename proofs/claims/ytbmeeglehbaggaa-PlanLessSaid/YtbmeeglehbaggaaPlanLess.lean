/- PlanLess's walk: what fits fits with less; with one more just if that has room; at every net and list of lengths. -/
import Derived.Test.YtbmeeglehbaggaaPlanLaw
import Derived.Test.YtbmeeglehbaggaaTree
import Derived.Deep.CutBlock
import Derived.Deep.CutRange
import Derived.Deep.DeepCutAuto
namespace Go.Proofs.Ytbmeeglehbaggaa
open Go.RowKit

theorem RetFit.yes {w w' : World} {a n : Int} {l : List Int} {e : Ending} (h : fitE a n l = none) (hr : RetFit w a n l e w') : RetNew w 26 2 l.length ((fitO a l).flatMap Nt.cells) (fun v => .tuple #[v, .nilIface]) e w' := by
  unfold RetFit at hr; rwa [h] at hr
theorem RetFit.no {w w' : World} {a n : Int} {l : List Int} {e : Ending} {er : Int} (h : fitE a n l = some er) (hr : RetFit w a n l e w') : RetV w (.tuple #[.slice none 0 0, errv er]) e w' := by
  unfold RetFit at hr; rwa [h] at hr
theorem Ints.take {H : Array Obj} {a : Option Addr} {l : List Int} (h : Ints H a l) (k : Nat) : Ints H a (l.take k) := by
  refine ⟨by simp [ivals], ?_⟩
  rcases h.at' with h1 | ⟨b', off', h1, h2, h3⟩
  · left; simp only [ivals, List.map_eq_nil_iff] at h1; subst h1; simp
  · right
    refine ⟨b', off', h1, h2, fun w hw i hi => ?_⟩
    have hi' : i < (l.take k).length := by simpa using hi
    have hi2 : i < l.length := by rw [List.length_take] at hi'; omega
    have hi3 : i < k := by rw [List.length_take] at hi'; omega
    rw [h3 w hw i (by simpa using hi2), ivals_get .i64 l i hi2, ivals_get .i64 _ i hi', nth_take _ _ _ hi3]
theorem fit_one : fitE 0 0 [0] = none := by decide +kernel
/-- What a call tells, as far as it counts: has it an error, and how long is it? -/
def RetLen (w : World) (a n : Int) (l : List Int) (e : Ending) (w' : World) : Prop := ∃ (x : Option Addr) (k c : Nat) (er : Value), e = .returned (.tuple #[.slice x k c, er]) ∧ Fr (fun _ => False) w w' ∧ Hid ((fitE a n l = none ∧ er = .nilIface ∧ k = l.length) ∨ (∃ q, fitE a n l = some q ∧ er = errv q))
theorem RetFit.len {w w' : World} {a n : Int} {l : List Int} {e : Ending} (hr : RetFit w a n l e w') : RetLen w a n l e w' := by
  cases h : fitE a n l with
  | none =>
    obtain ⟨x, c, ob, rfl, -, hF, -⟩ := hr.yes h
    exact ⟨x, _, c, .nilIface, rfl, hF, Lib.hid (.inl ⟨h, rfl, rfl⟩)⟩
  | some q =>
    obtain ⟨rfl, hF⟩ := hr.no h
    exact ⟨none, 0, 0, errv q, rfl, hF, Lib.hid (.inr ⟨q, h, rfl⟩)⟩

set_option maxRecDepth 100000 in
set_option maxHeartbeats 4000000 in
theorem planLess_any (a n : Int) (l : List Int) (al : Option Addr) (cl : Nat) (i m : Int) (w : World) (ha : 0 ≤ a ∧ a < 4294967296) (hL : Ints w.heap al l) (hll : l.length ≤ 9223372036854775807) (hcl : l.length ≤ cl) (hi : -9223372036854775808 ≤ i ∧ i ≤ 9223372036854775807) :
    Calls Try.prog 8 #[.agg #[.int .u32 a, .int .i64 n], .slice al l.length cl, .int .i64 i, .int .i64 m] w (RetV w (.bool true)) := by
  have hlit := rd_lit1 w (.cells #[.int .u32 a, .int .i64 n] 26) 3 [.int .i64 0]
  obtain ⟨w0, hw0⟩ : ∃ x : World, x = (w.alloc (.cells #[.int .u32 a, .int .i64 n] 26)).alloc (.cells #[.int .i64 0] 3) := ⟨_, rfl⟩
  have hF0 : Fr (fun _ => False) w w0 := hw0 ▸ (((Fr.refl (fun _ => False) w).alloc _).alloc _)
  have hB0 : Blk w0.heap w.heap.size 26 [.int .u32 a, .int .i64 n] := by
    rw [hw0]; exact (Blk.made w 26 [.int .u32 a, .int .i64 n]).fr ((Fr.refl (fun _ => False) _).alloc _) (fun h => h)
  have hf := fit_any 0 0 [0] (some ⟨w.heap.size + 1, 0, none⟩) 1 w0 (by omega) (by rw [hw0]; exact hlit) (by simp)
  have HL := Lib.hid hL
  have HF0 := Lib.hid hF0
  have HB0 := Lib.hid hB0
  clear hL hlit hF0 hB0
  go_enter Try.func8, Try.ntmps8
  go_wp2_with (fail)
  rw [← hw0]
  clear hw0
  refine hf.mono ?_
  intro e1 w1 R1
  obtain ⟨x1, c1, ob1, rfl, -, hF1, -⟩ := R1.yes fit_one
  clear hf R1
  have hF01 := HF0.out.trans hF1
  have hB1 := HB0.out.fr hF1 (fun h => h)
  have hc1 := hB1.cell 0
  have hc1' := hB1.cell 1
  simp only [List.getElem?_cons_zero, List.getElem?_cons_succ] at hc1 hc1'
  have hf := fit_any a n l al cl w1 ha (HL.out.fr hF01 (fun _ _ _ h => h)) hll
  clear HF0 HB0 hF1
  go_wp2_with (fail)
  refine hf.mono ?_
  intro e2 w2 R2
  obtain ⟨x2, k2, c2, er2, rfl, hF2, H2⟩ := R2.len
  clear hf R2
  have hF02 := hF01.trans hF2
  have hB2 := hB1.fr hF2 (fun h => h)
  have hc2 := hB2.cell 0
  have hc2' := hB2.cell 1
  simp only [List.getElem?_cons_zero, List.getElem?_cons_succ] at hc2 hc2'
  have hf := room_any a n l al cl w2 ha (HL.out.fr hF02 (fun _ _ _ h => h)) hll
  clear hF01 hB1 hF2 hc1 hc1'
  go_wp2_with (fail)
  refine hf.mono ?_
  rintro e3 w3 ⟨rfl, hF3⟩
  clear hf
  have hF03 := hF02.trans hF3
  have hB3 := hB2.fr hF3 (fun h => h)
  clear hF02 hB2 hF3 hc2 hc2'
  rcases H2.out with ⟨hE, rfl, rfl⟩ | ⟨q, hE, rfl⟩
  · obtain ⟨hr, -⟩ := fitE_parts hE
    rw [roomR_ok hr]
    have HE := Lib.hid hE
    obtain ⟨rm, hrm⟩ : ∃ r, r = roomV n l := ⟨_, rfl⟩
    rw [← hrm]
    have HRM := Lib.hid hrm
    clear hE hr H2 hrm
    by_cases hbig : 64 ≤ l.length
    · go_wp2
      go_ret
      exact RetV.mk (x := .bool true) rfl rfl hF03
    by_cases hmb : m < 0 ∨ 32 < m
    · rcases hmb with hmb | hmb
      · go_wp2
        go_ret
        exact RetV.mk (x := .bool true) rfl rfl hF03
      · have hm0 : 0 ≤ m := by omega
        go_wp2
        go_ret
        exact RetV.mk (x := .bool true) rfl rfl hF03
    obtain ⟨p, rfl⟩ := Int.eq_ofNat_of_zero_le (show 0 ≤ m by omega)
    have hp : p ≤ 32 := by omega
    have q0 := fun c : Cls (fun _ => False) w3 => (hB3.fr c.fr (fun h => h)).cell 0
    have q1 := fun c : Cls (fun _ => False) w3 => (hB3.fr c.fr (fun h => h)).cell 1
    simp only [List.getElem?_cons_zero, List.getElem?_cons_succ] at q0 q1
    have hLx := HL.out.fr (hF03.alloc (.cells #[] 3)) (fun _ _ _ h => h)
    have hO0 := Own.made w3 3 1 0 [] rfl (by decide)
    have HFM := Lib.hid (fit_more (a := a) (n := n) (m := (p : Int)) HE.out (by omega) ⟨by omega, by omega⟩)
    clear hmb
    have HQ8 : ∀ {er8 : Value} {k8 : Nat}, Hid ((fitE a n (l ++ [(p : Int)]) = none ∧ er8 = .nilIface ∧ k8 = (l ++ [(p : Int)]).length) ∨ (∃ q, fitE a n (l ++ [(p : Int)]) = some q ∧ er8 = errv q)) → Hid ((fitE a n (l ++ [(p : Int)]) = none ∧ er8 = .nilIface) ∨ (∃ q, fitE a n (l ++ [(p : Int)]) = some q ∧ er8 = errv q)) := fun h => Lib.hid (h.out.imp (fun q => ⟨q.1, q.2.1⟩) id)
    go_upto_region 8 with (fail)
    go_cut [16] (fun s16 wx => Fr (fun _ => False) w3 wx ∧ Hid ((fitE a n (l ++ [(p : Int)]) = none ∧ s16 = .nilIface) ∨ (∃ q, fitE a n (l ++ [(p : Int)]) = some q ∧ s16 = errv q)))
    case first =>
      (refine wp_region_tree (fun w' => ∃ c : Cls (fun _ => False) w3, w' = c.wo) 12 (by kernel_rfl) (by kernel_rfl) (⟨⟨_, (Fr.refl _ _).drew⟩, rfl⟩) ?_; intro hTB)
      (refine tr_late hTB (⟨⟨_, (Fr.refl _ _).drew⟩, rfl⟩) 0 1 _ rfl (by decide) (by kernel_rfl) ?_; simp only [List.take_succ_cons, List.take_zero, List.drop_succ_cons, List.drop_zero]; (repeat (go_big_quiet_step (fail))); refine wpQuiet_nil ?_)
      (refine tr_late hTB (⟨⟨_, (Fr.refl _ _).drew⟩, rfl⟩) 2 1 _ rfl (by decide) (by kernel_rfl) ?_; simp only [List.take_succ_cons, List.take_zero, List.drop_succ_cons, List.drop_zero]; (repeat (go_big_quiet_step (fail))); refine wpQuiet_nil ?_)
      (refine tr_late hTB (⟨⟨_, (Fr.refl _ _).drew⟩, rfl⟩) 4 1 _ rfl (by decide) (by kernel_rfl) ?_; simp only [List.take_succ_cons, List.take_zero, List.drop_succ_cons, List.drop_zero]; (repeat (go_big_quiet_step (fail))); refine wpQuiet_nil ?_)
      clear q0 q1
      (refine tr_eff [1, 5] _ rfl (by kernel_rfl) (by kernel_rfl) (List.forall_mem_cons.2 ⟨?_, List.forall_mem_cons.2 ⟨?_, fun _ h => nomatch h⟩⟩)) <;> (unfold TrE; simp only [List.take_succ_cons, List.take_zero, List.drop_succ_cons, List.drop_zero])
      · go_wp2
        refine ⟨⟨⟨_, ((Fr.refl _ _).drew).alloc _⟩, rfl⟩, ?_⟩
        (refine tr_eff [3, 5] _ rfl (by kernel_rfl) (by kernel_rfl) (List.forall_mem_cons.2 ⟨?_, List.forall_mem_cons.2 ⟨?_, fun _ h => nomatch h⟩⟩)) <;> (unfold TrE; simp only [List.take_succ_cons, List.take_zero, List.drop_succ_cons, List.drop_zero])
        · refine wpList_app rfl _ _ 22 rfl Try.underlying22 infoInt rfl (by decide) rfl rfl hO0 hLx (ivals_one .i64 l) (by omega) (by omega) ?_
          intro a6 c6 w6 ob6 z1 z2 z3
          rw [List.nil_append] at z1
          simp only [Nat.zero_add] at z1 ⊢
          have hF36 : Fr (fun _ => False) w3 w6 := ((Fr.refl _ _).alloc (.cells #[] 3)).drew.trans' z2 (fun q hq h => by cases h; omega)
          have hN6 : ∀ g, ob6 = some g → w3.heap.size ≤ g := fun g hg => by
            rcases z3 with h | ⟨g', h, h'⟩
            · rw [h] at hg; cases hg; omega
            · rw [hg] at h; cases h; simp at h'; omega
          clear z2 z3
          go_wp2
          refine ⟨⟨⟨_, hF36⟩, rfl⟩, ?_⟩
          (refine tr_eff [5] _ rfl (by kernel_rfl) (by kernel_rfl) (List.forall_mem_cons.2 ⟨?_, fun _ h => nomatch h⟩)) <;> (unfold TrE; simp only [List.take_succ_cons, List.take_zero, List.drop_succ_cons, List.drop_zero])
          go_wp2
          refine ⟨⟨⟨_, hF36.alloc _⟩, rfl⟩, ?_⟩
          have hrd := (Own.made w6 3 1 1 [.int .i64 (p : Int)] rfl (by decide)).rd
          have hFL := hF36.alloc (.cells #[.int .i64 (p : Int)] 3)
          (refine tr_eff [6] _ rfl (by kernel_rfl) (by kernel_rfl) (List.forall_mem_cons.2 ⟨?_, fun _ h => nomatch h⟩)) <;> (unfold TrE; simp only [List.take_succ_cons, List.take_zero, List.drop_succ_cons, List.drop_zero])
          refine wpList_app rfl _ _ 22 rfl Try.underlying22 infoInt rfl (by decide) rfl rfl (z1.alloc _) hrd (ivals_one .i64 [(p : Int)]) (by omega) (by omega) ?_
          intro a7 c7 w7 ob7 z1' z2 z3
          have e7 : ivals .i64 l ++ [.int .i64 (p : Int)] = ivals .i64 (l ++ [(p : Int)]) := by simp [ivals]
          rw [e7] at z1'
          have hF37 : Fr (fun _ => False) w3 w7 := Fr.app hFL z2 hN6
          clear z2 z3 e7 z1 hO0
          have hl7 : (l ++ [(p : Int)]).length = l.length + 1 := by simp
          have hf := fit_any a n (l ++ [(p : Int)]) a7 c7 w7 ha (by unfold Ints; rw [hl7]; exact z1'.rd) (by omega)
          rw [hl7] at hf
          go_wp2
          refine ⟨⟨⟨_, hF37⟩, rfl⟩, ?_⟩
          (refine tr_eff [7] _ rfl (by kernel_rfl) (by kernel_rfl) (List.forall_mem_cons.2 ⟨?_, fun _ h => nomatch h⟩)) <;> (unfold TrE; simp only [List.take_succ_cons, List.take_zero, List.drop_succ_cons, List.drop_zero])
          go_wp2_with (fail)
          refine hf.mono ?_
          intro e8 w8 R8
          obtain ⟨x8, k8, c8, er8, rfl, hF8, H8⟩ := R8.len
          have hF38 := hF37.trans hF8
          clear hf R8 hF8 hF37 z1'
          go_wp2
          refine ⟨⟨⟨_, hF38⟩, rfl⟩, ?_⟩
          (refine tr_late hTB (⟨⟨_, (Fr.refl _ _).drew⟩, rfl⟩) 8 4 _ rfl (by decide) (by kernel_rfl) ?_; simp only [List.take_succ_cons, List.take_zero, List.drop_succ_cons, List.drop_zero]; (repeat (go_big_quiet_step (fail))); refine wpQuiet_nil ?_)
          refine tr_end (by kernel_rfl) ?_
          go_wp2
          go_meet
          case rel => exact ⟨hF38, HQ8 H8⟩
        · go_wp2
          refine ⟨⟨⟨_, (((Fr.refl _ _).drew).alloc _).alloc _⟩, rfl⟩, ?_⟩
          have hLz := HL.out.fr ((hF03.alloc (.cells #[] 3)).alloc (.cells #[.int .i64 (p : Int)] 3)) (fun _ _ _ h => h)
          (refine tr_eff [3] _ rfl (by kernel_rfl) (by kernel_rfl) (List.forall_mem_cons.2 ⟨?_, fun _ h => nomatch h⟩)) <;> (unfold TrE; simp only [List.take_succ_cons, List.take_zero, List.drop_succ_cons, List.drop_zero])
          refine wpList_app rfl _ _ 22 rfl Try.underlying22 infoInt rfl (by decide) rfl rfl (hO0.alloc _) hLz (ivals_one .i64 l) (by omega) (by omega) ?_
          intro a6 c6 w6 ob6 z1 z2 z3
          rw [List.nil_append] at z1
          simp only [Nat.zero_add] at z1 ⊢
          have hF36 : Fr (fun _ => False) w3 w6 := (((Fr.refl _ _).alloc (.cells #[] 3)).alloc (.cells #[.int .i64 (p : Int)] 3)).drew.trans' z2 (fun q hq h => by cases h; omega)
          have hN6 : ∀ g, ob6 = some g → w3.heap.size ≤ g := fun g hg => by
            rcases z3 with h | ⟨g', h, h'⟩
            · rw [h] at hg; cases hg; omega
            · rw [hg] at h; cases h; simp at h'; omega
          have hrd6 : Rd w6.heap (some ⟨w3.heap.size + 1, 0, none⟩) 1 1 [.int .i64 (p : Int)] := by
            refine Rd.fr ?_ z2 ?_
            · exact rd_lit1 w3 (.cells #[] 3) 3 [.int .i64 (p : Int)]
            intro b off e h
            cases e
            have := Option.some.inj h
            omega
          have hFL := hF36
          clear z2 z3
          go_wp2
          refine ⟨⟨⟨_, hF36⟩, rfl⟩, ?_⟩
          (refine tr_eff [6] _ rfl (by kernel_rfl) (by kernel_rfl) (List.forall_mem_cons.2 ⟨?_, fun _ h => nomatch h⟩)) <;> (unfold TrE; simp only [List.take_succ_cons, List.take_zero, List.drop_succ_cons, List.drop_zero])
          refine wpList_app rfl _ _ 22 rfl Try.underlying22 infoInt rfl (by decide) rfl rfl z1 hrd6 (ivals_one .i64 [(p : Int)]) (by omega) (by omega) ?_
          intro a7 c7 w7 ob7 z1' z2 z3
          have e7 : ivals .i64 l ++ [.int .i64 (p : Int)] = ivals .i64 (l ++ [(p : Int)]) := by simp [ivals]
          rw [e7] at z1'
          have hF37 : Fr (fun _ => False) w3 w7 := Fr.app hFL z2 hN6
          clear z2 z3 e7 z1 hO0
          have hl7 : (l ++ [(p : Int)]).length = l.length + 1 := by simp
          have hf := fit_any a n (l ++ [(p : Int)]) a7 c7 w7 ha (by unfold Ints; rw [hl7]; exact z1'.rd) (by omega)
          rw [hl7] at hf
          go_wp2
          refine ⟨⟨⟨_, hF37⟩, rfl⟩, ?_⟩
          (refine tr_eff [7] _ rfl (by kernel_rfl) (by kernel_rfl) (List.forall_mem_cons.2 ⟨?_, fun _ h => nomatch h⟩)) <;> (unfold TrE; simp only [List.take_succ_cons, List.take_zero, List.drop_succ_cons, List.drop_zero])
          go_wp2_with (fail)
          refine hf.mono ?_
          intro e8 w8 R8
          obtain ⟨x8, k8, c8, er8, rfl, hF8, H8⟩ := R8.len
          have hF38 := hF37.trans hF8
          clear hf R8 hF8 hF37 z1'
          go_wp2
          refine ⟨⟨⟨_, hF38⟩, rfl⟩, ?_⟩
          (refine tr_late hTB (⟨⟨_, (Fr.refl _ _).drew⟩, rfl⟩) 8 4 _ rfl (by decide) (by kernel_rfl) ?_; simp only [List.take_succ_cons, List.take_zero, List.drop_succ_cons, List.drop_zero]; (repeat (go_big_quiet_step (fail))); refine wpQuiet_nil ?_)
          refine tr_end (by kernel_rfl) ?_
          go_wp2
          go_meet
          case rel => exact ⟨hF38, HQ8 H8⟩
      · go_wp2
        refine ⟨⟨⟨_, ((Fr.refl _ _).drew).alloc _⟩, rfl⟩, ?_⟩
        (refine tr_eff [1] _ rfl (by kernel_rfl) (by kernel_rfl) (List.forall_mem_cons.2 ⟨?_, fun _ h => nomatch h⟩)) <;> (unfold TrE; simp only [List.take_succ_cons, List.take_zero, List.drop_succ_cons, List.drop_zero])
        go_wp2
        refine ⟨⟨⟨_, (((Fr.refl _ _).drew).alloc _).alloc _⟩, rfl⟩, ?_⟩
        have hO1 : Own ((w3.alloc (.cells #[.int .i64 (p : Int)] 3)).alloc (.cells #[] 3)).heap 3 1 (some ⟨w3.heap.size + 1, 0, none⟩) 0 0 [] (some (w3.heap.size + 1)) := by
          have := Own.made (w3.alloc (.cells #[.int .i64 (p : Int)] 3)) 3 1 0 [] rfl (by decide)
          simpa using this
        have hLz := HL.out.fr ((hF03.alloc (.cells #[.int .i64 (p : Int)] 3)).alloc (.cells #[] 3)) (fun _ _ _ h => h)
        (refine tr_eff [3] _ rfl (by kernel_rfl) (by kernel_rfl) (List.forall_mem_cons.2 ⟨?_, fun _ h => nomatch h⟩)) <;> (unfold TrE; simp only [List.take_succ_cons, List.take_zero, List.drop_succ_cons, List.drop_zero])
        refine wpList_app rfl _ _ 22 rfl Try.underlying22 infoInt rfl (by decide) rfl rfl hO1 hLz (ivals_one .i64 l) (by omega) (by omega) ?_
        intro a6 c6 w6 ob6 z1 z2 z3
        rw [List.nil_append] at z1
        simp only [Nat.zero_add] at z1 ⊢
        have hF36 : Fr (fun _ => False) w3 w6 := (((Fr.refl _ _).alloc (.cells #[.int .i64 (p : Int)] 3)).alloc (.cells #[] 3)).drew.trans' z2 (fun q hq h => by cases h; omega)
        have hN6 : ∀ g, ob6 = some g → w3.heap.size ≤ g := fun g hg => by
          rcases z3 with h | ⟨g', h, h'⟩
          · rw [h] at hg; cases hg; omega
          · rw [hg] at h; cases h; simp at h'; omega
        have hrd6 : Rd w6.heap (some ⟨w3.heap.size, 0, none⟩) 1 1 [.int .i64 (p : Int)] := by
            refine Rd.fr ?_ z2 ?_
            · exact (rd_lit w3 3 [.int .i64 (p : Int)]).fr ((Fr.refl (fun _ => False) _).alloc (.cells #[] 3)).drew (fun _ _ _ h => h)
            intro b off e h
            cases e
            have := Option.some.inj h
            omega
        have hFL := hF36
        clear z2 z3
        go_wp2
        refine ⟨⟨⟨_, hF36⟩, rfl⟩, ?_⟩
        (refine tr_eff [6] _ rfl (by kernel_rfl) (by kernel_rfl) (List.forall_mem_cons.2 ⟨?_, fun _ h => nomatch h⟩)) <;> (unfold TrE; simp only [List.take_succ_cons, List.take_zero, List.drop_succ_cons, List.drop_zero])
        refine wpList_app rfl _ _ 22 rfl Try.underlying22 infoInt rfl (by decide) rfl rfl z1 hrd6 (ivals_one .i64 [(p : Int)]) (by omega) (by omega) ?_
        intro a7 c7 w7 ob7 z1' z2 z3
        have e7 : ivals .i64 l ++ [.int .i64 (p : Int)] = ivals .i64 (l ++ [(p : Int)]) := by simp [ivals]
        rw [e7] at z1'
        have hF37 : Fr (fun _ => False) w3 w7 := Fr.app hFL z2 hN6
        clear z2 z3 e7 z1 hO0
        have hl7 : (l ++ [(p : Int)]).length = l.length + 1 := by simp
        have hf := fit_any a n (l ++ [(p : Int)]) a7 c7 w7 ha (by unfold Ints; rw [hl7]; exact z1'.rd) (by omega)
        rw [hl7] at hf
        go_wp2
        refine ⟨⟨⟨_, hF37⟩, rfl⟩, ?_⟩
        (refine tr_eff [7] _ rfl (by kernel_rfl) (by kernel_rfl) (List.forall_mem_cons.2 ⟨?_, fun _ h => nomatch h⟩)) <;> (unfold TrE; simp only [List.take_succ_cons, List.take_zero, List.drop_succ_cons, List.drop_zero])
        go_wp2_with (fail)
        refine hf.mono ?_
        intro e8 w8 R8
        obtain ⟨x8, k8, c8, er8, rfl, hF8, H8⟩ := R8.len
        have hF38 := hF37.trans hF8
        clear hf R8 hF8 hF37 z1'
        go_wp2
        refine ⟨⟨⟨_, hF38⟩, rfl⟩, ?_⟩
        (refine tr_late hTB (⟨⟨_, (Fr.refl _ _).drew⟩, rfl⟩) 8 4 _ rfl (by decide) (by kernel_rfl) ?_; simp only [List.take_succ_cons, List.take_zero, List.drop_succ_cons, List.drop_zero]; (repeat (go_big_quiet_step (fail))); refine wpQuiet_nil ?_)
        refine tr_end (by kernel_rfl) ?_
        go_wp2
        go_meet
        case rel => exact ⟨hF38, HQ8 H8⟩
    case rest =>
      obtain ⟨hF34, HQ⟩ := hcut
      generalize wc = w4 at *
      have hF4 := hF03.trans hF34
      clear q0 q1 hO0 hLx HQ8
      obtain ⟨S1, hS1⟩ : ∃ s, s = sizeN p := ⟨_, rfl⟩
      have hb1 : 1 ≤ S1 ∧ S1 ≤ 4294967296 := hS1 ▸ sizeN_bd ⟨by omega, by omega⟩
      have HW1 := Lib.hid (show wrap64 (2 ^ (32 - p)) = S1 by rw [hS1, sizeN_nat hp] at *; exact wrap64_of hb1)
      have HFM2 := Lib.hid (show (fitE a n (l ++ [(p : Int)]) = none) ↔ S1 ≤ rm by rw [hS1, HRM.out]; exact HFM.out)
      clear hS1 HFM HRM
      go_upto_region 9 with (fail)
      go_cut [82] (fun s82 wy => s82 = .bool false ∧ wy = w4)
      case first =>
        rcases HQ.out with ⟨h1, rfl⟩ | ⟨q, h1, rfl⟩
        · have hS : wrap64 (2 ^ (32 - p)) ≤ rm := by rw [HW1.out]; exact HFM2.out.1 h1
          clear h1 HQ HFM2
          go_wp2
          go_meet
          case rel => exact ⟨rfl, rfl⟩
        · have hS : ¬ wrap64 (2 ^ (32 - p)) ≤ rm := fun h => by rw [HW1.out] at h; rw [HFM2.out.2 h] at h1; cases h1
          clear h1 HQ HFM2
          go_wp2
          go_meet
          case rel => exact ⟨rfl, rfl⟩
      case rest =>
        obtain ⟨rfl, rfl⟩ := hcut
        generalize wc = w5 at *
        by_cases hi0 : i < 0
        · go_wp2
          go_ret
          exact RetV.mk (x := .bool true) rfl rfl hF4
        · obtain ⟨I, rfl⟩ := Int.eq_ofNat_of_zero_le (show 0 ≤ i by omega)
          by_cases hil : l.length ≤ I
          · go_wp2
            go_ret
            exact RetV.mk (x := .bool true) rfl rfl hF4
          · have HFL := Lib.hid (fit_less (i := I) HE.out (by omega))
            have hB5 := hB3.fr hF34 (fun h => h)
            have q0 := fun c : Cls (fun _ => False) w5 => (hB5.fr c.fr (fun h => h)).cell 0
            have q1 := fun c : Cls (fun _ => False) w5 => (hB5.fr c.fr (fun h => h)).cell 1
            simp only [List.getElem?_cons_zero, List.getElem?_cons_succ] at q0 q1
            go_wp2
            (refine wp_region_mix (fun w' => ∃ c : Cls (fun _ => False) w5, w' = c.wo) 16 (by kernel_rfl) (by kernel_rfl) (⟨⟨_, (Fr.refl _ _).drew⟩, rfl⟩) ?_; simp only [List.take_succ_cons, List.take_zero, List.drop_succ_cons, List.drop_zero])
            (refine wpMix_lateN 1 (⟨⟨_, (Fr.refl _ _).drew⟩, rfl⟩) (by kernel_rfl) ?_; simp only [List.take_succ_cons, List.take_zero, List.drop_succ_cons, List.drop_zero]; (repeat (go_big_quiet_step (fail))); refine wpQuiet_nil ?_)
            refine wpMix_eff (by kernel_rfl) ?_
            go_wp2
            refine ⟨⟨⟨_, ((Fr.refl _ _).drew).alloc _⟩, rfl⟩, ?_⟩
            (refine wpMix_lateN 3 (⟨⟨_, (Fr.refl _ _).drew⟩, rfl⟩) (by kernel_rfl) ?_; simp only [List.take_succ_cons, List.take_zero, List.drop_succ_cons, List.drop_zero]; (repeat (go_big_quiet_step (fail))); refine wpQuiet_nil ?_)
            obtain ⟨bl, ol, rfl, -, -⟩ := Ints.pos HL.out (by omega)
            have hLx5 := HL.out.fr (hF4.alloc (.cells #[] 3)) (fun _ _ _ h => h)
            have hT : Rd (w5.alloc (.cells #[] 3)).heap (some ⟨bl, ol, none⟩) I 1 (ivals .i64 (l.take I)) := by
              have := Ints.take hLx5 I
              unfold Ints at this
              rwa [List.length_take, Nat.min_eq_left (by omega)] at this
            have hO5 := Own.made w5 3 1 0 [] rfl (by decide)
            refine wpMix_eff (by kernel_rfl) ?_
            refine wpList_app rfl _ _ 22 rfl Try.underlying22 infoInt rfl (by decide) rfl rfl hO5 hT (ivals_one .i64 (l.take I)) (by omega) (by omega) ?_
            intro a6 c6 w6 ob6 z1 z2 z3
            rw [List.nil_append] at z1
            simp only [Nat.zero_add] at z1 ⊢
            have hF56 : Fr (fun _ => False) w5 w6 := ((Fr.refl _ _).alloc (.cells #[] 3)).drew.trans' z2 (fun q hq h => by cases h; omega)
            have hN6 : ∀ g, ob6 = some g → w5.heap.size ≤ g := fun g hg => by
              rcases z3 with h | ⟨g', h, h'⟩
              · rw [h] at hg; cases hg; omega
              · rw [hg] at h; cases h; simp at h'; omega
            clear z2 z3 hT hLx5 hO5 q0 q1
            go_wp2
            refine ⟨⟨⟨_, hF56⟩, rfl⟩, ?_⟩
            have HD : Hid (Rd w6.heap (some ⟨bl, ol + (I + 1), none⟩) (l.length - (I + 1)) 1 (ivals .i64 (l.drop (I + 1)))) := Lib.hid (by
              have := Ints.drop (HL.out.fr (hF4.trans hF56) (fun _ _ _ h => h)) (I + 1)
              unfold Ints at this
              rwa [List.length_drop] at this)
            (refine wpMix_lateN 4 (⟨⟨_, (Fr.refl _ _).drew⟩, rfl⟩) (by kernel_rfl) ?_; simp only [List.take_succ_cons, List.take_zero, List.drop_succ_cons, List.drop_zero]; (repeat (go_big_quiet_step (fail))); refine wpQuiet_nil ?_)
            refine wpMix_eff (by kernel_rfl) ?_
            refine wpList_app rfl _ _ 22 rfl Try.underlying22 infoInt rfl (by decide) rfl rfl z1 (m := l.length - (I + 1)) ?hrd (ivals_one .i64 (l.drop (I + 1))) (by omega) (by omega) ?_
            case hrd =>
              by_cases hcI : cl = I + 1
              · rw [if_pos hcI]
                have hd0 : l.drop (I + 1) = [] := List.drop_eq_nil_of_le (by omega)
                have hz : l.length - (I + 1) = 0 := by omega
                rw [hd0, hz]
                exact Rd.nil _ _ _
              · rw [if_neg hcI]; exact HD.out
            intro a7 c7 w7 ob7 z1' z2 z3
            have hF57 : Fr (fun _ => False) w5 w7 := Fr.app hF56 z2 hN6
            obtain ⟨M, hM⟩ : ∃ M, M = I + (l.length - (I + 1)) := ⟨_, rfl⟩
            have e7 : ivals .i64 (l.take I) ++ ivals .i64 (l.drop (I + 1)) = ivals .i64 (l.take I ++ l.drop (I + 1)) := by simp [ivals]
            have hl7 : (l.take I ++ l.drop (I + 1)).length = M := by rw [hM, List.length_append, List.length_take, List.length_drop, Nat.min_eq_left (by omega)]
            rw [← hM] at z1' ⊢
            rw [e7] at z1'
            have hMl : M + 1 = l.length := by omega
            have hf := fit_any a n (l.take I ++ l.drop (I + 1)) a7 c7 w7 ha (by unfold Ints; rw [hl7]; exact z1'.rd) (by omega)
            rw [hl7] at hf
            have HML := Lib.hid hMl
            clear z2 z3 e7 z1 z1' hM HD hMl
            generalize (if cl = I + 1 then some (⟨bl, ol, none⟩ : Addr) else some (⟨bl, ol + (I + 1), none⟩ : Addr)) = ax
            go_wp2
            refine ⟨⟨⟨_, hF57⟩, rfl⟩, ?_⟩
            refine wpMix_eff (by kernel_rfl) ?_
            go_wp2_with (fail)
            refine hf.mono ?_
            intro e8 w8 R8
            obtain ⟨x8, k8, c8, er8, rfl, hF8, H8⟩ := R8.len
            have hF58 := hF57.trans hF8
            have H9 : er8 = .nilIface ∧ k8 = M := by
              rcases H8.out with ⟨-, h1, h2⟩ | ⟨q, h1, -⟩
              · exact ⟨h1, h2.trans hl7⟩
              · rw [HFL.out] at h1; cases h1
            obtain ⟨rfl, rfl⟩ := H9
            have hFe := hF4.trans hF58
            clear hf R8 hF8 hF57 hF56 H8 hl7
            go_wp2
            refine ⟨⟨⟨_, hF58⟩, rfl⟩, ?_⟩
            (refine wpMix_lateN 4 (⟨⟨_, (Fr.refl _ _).drew⟩, rfl⟩) (by kernel_rfl) ?_; simp only [List.take_succ_cons, List.take_zero, List.drop_succ_cons, List.drop_zero]; (repeat (go_big_quiet_step (fail))); refine wpQuiet_nil ?_)
            refine wpMix_nil ?_
            have e9 : (((k8 : Int) == (l.length : Int) - 1)) = true := by have := HML.out; simp only [beq_iff_eq]; omega
            go_wp2
            go_ret
            exact RetV.mk (x := .bool true) rfl rfl hFe
  · obtain ⟨y, z, hyz⟩ : ∃ y z, roomR a n l = .tuple #[.int .i64 y, z] := ⟨_, _, rfl⟩
    rw [hyz]
    clear hyz hE H2
    go_wp2
    go_ret
    exact RetV.mk (x := .bool true) rfl rfl hF03
end Go.Proofs.Ytbmeeglehbaggaa
