import Derived.Test.YtgfbkebbnfcgkaaQRt33
import Derived.Test.YtgfbkebbnfcgkaaQRt34
import Derived.BigQuiet
import Derived.Deep.CutBlock
import Derived.Deep.CutRange
import Derived.Deep.DeepCutAuto
section
namespace Go.Proofs.Ytgfbkebbnfcgkaa
open Go.RowKit Go.Maps

theorem infoDm : (Try.prog.info? 28).map (fun i => (i.zero, i.size, i.bytes)) = some (some (.pointer none), 1, 8) := by kernel_rfl
theorem infoR1 : (Try.prog.info? 31).map (fun i => (i.zero, i.size, i.bytes)) = some (some (.slice none 0 0), 1, 24) := by kernel_rfl
theorem infoR2 : (Try.prog.info? 44).map (fun i => (i.zero, i.size, i.bytes)) = some (some (.slice none 0 0), 1, 24) := by kernel_rfl
theorem infoR3 : (Try.prog.info? 43).map (fun i => (i.zero, i.size, i.bytes)) = some (some (.slice none 0 0), 1, 24) := by kernel_rfl
/-- How many of the first are not too far. -/
def cntR (f : List Int) (k : Nat) : Nat := ((List.range k).filter fun q => decide (nth f q + 1 < 16)).length
theorem cntR_yes {f : List Int} {k : Nat} (h : nth f k + 1 < 16) : cntR f (k + 1) = cntR f k + 1 := by
  unfold cntR
  rw [List.range_succ, List.filter_append, List.length_append]
  simp [h]
theorem cntR_no {f : List Int} {k : Nat} (h : ¬ nth f k + 1 < 16) : cntR f (k + 1) = cntR f k := by
  unfold cntR
  rw [List.range_succ, List.filter_append, List.length_append]
  simp [h]
theorem cntR_le (f : List Int) (k : Nat) : cntR f k ≤ k := by
  unfold cntR
  refine Nat.le_trans (List.length_filter_le _ _) (by simp)
set_option maxRecDepth 100000 in
set_option maxHeartbeats 64000000 in
theorem topRouters_any (n : Int) (l : List Lk) (al : Option Addr) (cl : Nat) (w : World) (hL : Links w.heap al l) (hl : l.length ≤ 9223372036854775806) (hw : ∀ x ∈ l, (Lit.int .i64 x.a).wf = true ∧ (Lit.int .i64 x.b).wf = true ∧ (Lit.int .i64 x.c).wf = true) :
    Calls Try.prog 3 #[.int .i64 n, .slice al l.length cl] w (RetV w (.bool true)) := by
  have hcall := costs_any n l al cl w hL (by omega) hw
  have HL := Lib.hid hL
  have HW := Lib.hid hw
  have hfar : ∃ (av : Option Addr) (mv cv : Nat) (ev : Value), True := ⟨none, 0, 0, .nilIface, trivial⟩
  clear hfar hL hw
  go_enter Try.func3, Try.ntmps3
  go_wp2_with (fail)
  refine hcall.mono ?_
  intro e1 w1 R1
  obtain ⟨av, mv, cv, ev, rfl, hF1, hE⟩ : ∃ (av : Option Addr) (mv cv : Nat) (ev : Value), e1 = .returned (.tuple #[.slice av mv cv, ev]) ∧ Fr (fun _ => False) w w1 ∧ ((∃ k, ev = errv k ∧ mv = 0) ∨ (ev = .nilIface ∧ ∃ N : Nat, n = N ∧ N ≤ 8 ∧ graphErr N l = none)) := by
    rcases costsE_cases n l with ⟨k, h1, h2⟩ | ⟨N, rfl, hN1, hN8, h1, h2, hT⟩
    · rw [h2] at R1
      obtain ⟨rfl, hF⟩ := R1
      exact ⟨none, 0, 0, errv k, rfl, hF, .inl ⟨k, rfl, rfl⟩⟩
    · rw [h2] at R1
      obtain ⟨am, cm, obm, G, C, rfl, hM, hF⟩ := R1
      exact ⟨am, _, cm, .nilIface, rfl, hF, .inr ⟨rfl, N, rfl, hN8, h1⟩⟩
  have HE := Lib.hid hE
  have hA := ((Ownd.made w1 3 1 1 [.int .i64 1] rfl (by decide)).alloc (.cells #[.int .u32 1, .int .i64 32] 34)).rd
  have hB := (Ownd.made (w1.alloc (.cells #[.int .i64 1] 3)) 34 2 1 (Nt.cells ⟨1, 32⟩) rfl (by decide)).rd
  have hF1a := (hF1.alloc (.cells #[.int .i64 1] 3)).alloc (.cells #[.int .u32 1, .int .i64 32] 34)
  have hn := dnew_any (N := 1) (M := 1) [1] (some ⟨w1.heap.size, 0, none⟩) 1 [⟨1, 32⟩] (some ⟨w1.heap.size + 1, 0, none⟩) 1 _ hA (by decide) (fun h => by cases h) (by have h := hB; rwa [show (w1.alloc (.cells #[.int .i64 1] 3)).heap.size = w1.heap.size + 1 by simp] at h) (fun x hx => by rw [List.mem_singleton.1 hx]; decide) (by decide) (fun h => by cases h) (by decide) rfl rfl
  clear hcall R1 hE hA hB
  go_wp2_with (fail)
  refine hn.mono ?_
  intro e2 w2 R2
  obtain ⟨D, rfl, hDc, hDo, hlo, hhi, hD, hF2⟩ := R2.okE (by decide)
  have hD2 := hD w2.heap.size (Nat.le_refl _)
  have hF02 := hF1a.trans hF2
  have ht := dtab_any w2 hD2
  have hone : ∀ R : List BestR, TabR D [] R → R.length = 1 := fun R hR => by
    have h : R.map bnet = [⟨1, 32⟩] := nsx hR.srt (List.pairwise_singleton _ _) (fun q => by
      rw [hR.mem, hDo, List.mem_singleton]
      constructor
      · rintro ⟨h | ⟨x, hx, -⟩, -⟩
        · exact h
        · cases hx
      · rintro rfl
        exact ⟨.inl rfl, by rw [bestD_own (by rw [hDo]; exact List.mem_singleton.2 rfl)]; decide⟩)
    have := congrArg List.length h
    simpa using this
  have HONE := Lib.hid hone
  clear hn R2 hDc hDo hlo hhi hD hF2 hD2 hone hF1a hF1
  go_wp2_with (fail)
  refine ht.mono ?_
  rintro e3 w3 ⟨R, aR, cR, ob, rfl, -, hR, hF3⟩
  have hR1 := HONE.out R hR
  rw [show (Value.slice aR R.length cR) = .slice aR 1 cR by rw [hR1]]
  have hF03 := hF02.trans hF3
  clear ht hR hR1 HONE hF02 hF3
  rcases HE.out with ⟨k, rfl, rfl⟩ | ⟨rfl, N, rfl, hN8, hg⟩
  · go_wp2
    go_ret
    exact RetV.mk rfl rfl hF03
  · clear HE
    have hC := costs_cnet hg
    have HG := Lib.hid hg
    have hN1 : 1 ≤ N := by
      have := (graph_ok hg).1
      omega
    clear hg
    go_upto_block 0 with (fail)
    go_cut [9, 10] from 11 to 11 (fun s9 s10 wx => ∃ (Ds : Nat → DC) (ad : Option Addr) (cd : Nat) (obd : Option Nat) (an : Option Addr) (cn : Nat) (obn : Option Nat) (A : Nat → Option Addr) (cA : Nat → Nat), s9 = .slice ad N cd ∧ s10 = .slice an N cn ∧ Mk N (costF N l) w.heap.size wx N Ds ad cd obd an cn obn A cA ∧ Fr (fun _ => False) w wx)
    case first =>
      --[[A
      as_aux_lemma =>
      go_wp2
      go_loopw [11, 9, 10] (fun s11 s9 s10 wr => ∃ (i : Nat) (Ds : Nat → DC) (ad : Option Addr) (cd : Nat) (obd : Option Nat) (an : Option Addr) (cn : Nat) (obn : Option Nat) (A : Nat → Option Addr) (cA : Nat → Nat), i ≤ N ∧ s11 = .int .i64 i ∧ s9 = .slice ad i cd ∧ s10 = .slice an i cn ∧ Mk N (costF N l) w.heap.size wr i Ds ad cd obd an cn obn A cA ∧ Fr (fun _ => False) w wr) (fun s _ _ _ => N - (intOf s).toNat)
      case atStart => exact ⟨0, fun _ => ⟨0, 0, 0, 0, [], [], none, none, 0, 0⟩, none, 0, none, none, 0, none, fun _ => none, fun _ => 0, by omega, rfl, rfl, rfl, Mk.start _ _ _ _ _ _ _, hF03⟩
      case round =>
        generalize wr = wa at *
        obtain ⟨i, Ds, ad, cd, obd, an, cn, obn, A, cA, hi, rfl, rfl, rfl, hM, hF⟩ := hrel
        by_cases hiN : i < N
        · have s1 : decide (i < N) = true := decide_eq_true hiN
          have hsw := hF.size
          have hnear := gnear_any N l al cl i wa (HL.out.fr hF (fun _ _ _ h => h)) (by omega) HW.out HG.out hiN
          have HM := Lib.hid hM
          have h7 := nearL_len hC hiN
          obtain ⟨M, hMl⟩ : ∃ M, M = (nearL N (costF N l) i).length := ⟨_, rfl⟩
          rw [← hMl] at hnear h7
          have HML := Lib.hid hMl
          clear hM hMl
          go_wp2_with (fail)
          refine hnear.mono ?_
          rintro e4 w4 ⟨ak, ck, ok, rfl, hO4, hF4, hN4⟩
          have hFw4 := hF.trans hF4
          clear hnear
          go_wp2
          go_loopw [15, 14] (fun s15 s14 wq => ∃ (j : Nat) (ac : Option Addr) (c : Nat) (ob : Option Nat), j ≤ M ∧ s15 = .int .i64 j ∧ s14 = .slice ac j c ∧ Ownd wq.heap 3 1 ac j c (ivals .i64 (((nearL N (costF N l) i).take j).map (costF N l i))) ob ∧ (∀ g, ob = some g → w4.heap.size ≤ g) ∧ Fr (fun _ => False) w4 wq) (fun s _ _ => M - (intOf s).toNat)
          case atStart => exact ⟨0, none, 0, none, by omega, rfl, rfl, Ownd.nil _ _ _, (fun _ h => nomatch h), Fr.refl _ _⟩
          case round =>
            generalize wr = wq at *
            obtain ⟨j, ac, c, ob, hj, rfl, rfl, hO, hN, hFq⟩ := hrel
            by_cases hjM : j < M
            · have s2 : decide (j < M) = true := decide_eq_true hjM
              obtain ⟨gk, rfl, hok, hgk, hck, -⟩ := hO4.pos (by omega)
              have hFwq := hFw4.trans hFq
              have hjn : j < (nearL N (costF N l) i).length := by rw [← HML.out]; exact hjM
              have hxm := nth_mem (nearL N (costF N l) i) j hjn
              have d0 : wq.cell? ⟨gk, j, none⟩ = some (.int .i64 ((nth (nearL N (costF N l) i) j : Nat) : Int)) := by
                rw [hFq.cell (p := ⟨gk, j, none⟩) hgk (fun h => h), hck j (by omega), ivals_get _ _ _ (by rw [List.length_map]; exact hjn), nth_map _ _ _ hjn]
                rfl
              have htk : (((nearL N (costF N l) i).take (j + 1)).map (costF N l i)) = ((nearL N (costF N l) i).take j).map (costF N l i) ++ [costF N l i (nth (nearL N (costF N l) i) j)] := by
                rw [take_succ_nth _ _ hjn, List.map_append]
                rfl
              have hgq := Nat.lt_of_lt_of_le hgk hFq.size
              have HTK := Lib.hid htk
              clear htk
              generalize nth (nearL N (costF N l) i) j = x at *
              have hxN := (nearL_mem.1 hxm).1
              have hcost := costOf_any l al cl i x wq (HL.out.fr hFwq (fun _ _ _ h => h)) hl
              rw [costOf_eq HG.out hiN hxN] at hcost
              have hTT : at2 (costsM N l) i x = costF N l i x := rfl
              rw [hTT] at hcost
              generalize costF N l i x = cx at *
              have HO := Lib.hid hO
              clear hxm hck hjn hTT hO hO4
              go_wp2_with (fail)
              refine hcost.mono ?_
              rintro e5 w5 ⟨rfl, hF5⟩
              have hOb := (HO.out.fr hF5 (fun _ _ h => h)).alloc (.cells #[.int .i64 cx] 3)
              have hrd := rd_lit w5 3 [.int .i64 cx]
              have hF4b := (hFq.trans hF5).alloc (.cells #[.int .i64 cx] 3)
              clear hcost hF5 hFq
              go_wp2_with (at_builtin; refine wpList_app rfl _ _ 31 rfl Try.underlying31 infoInt rfl (by decide) rfl rfl hOb hrd (by simp [Value.oneCell']) (by omega) (by omega) ?_)
              intro a9 c9 w9 ob9 v1 v2 v3
              have hF9 := Fr.app hF4b v2 hN
              have hN9 : ∀ g', ob9 = some g' → w4.heap.size ≤ g' := app_new hN v3 (by have := hF4b.size; first | omega | (simp only [World.size_alloc] at *; omega))
              have HO9 := Lib.hid (show Ownd w9.heap 3 1 a9 (j + 1) c9 (ivals .i64 (((nearL N (costF N l) i).take (j + 1)).map (costF N l i))) ob9 from by
                rw [HTK.out]
                simpa [ivals] using v1)
              clear v1 v2 v3 hOb hrd hF4b HTK
              go_wp2
              go_roundw
              case rel => exact ⟨j + 1, a9, c9, ob9, by omega, by go_num, rfl, HO9.out, hN9, hF9⟩
              case measure => simp [intOf]; omega
            · obtain rfl : j = M := by omega
              have s2 : decide (j < j) = false := by simp
              have hFwq := hFw4.trans hFq
              have hsq := hFq.size
              have hs4 := hF4.size
              rw [List.take_of_length_le (by rw [← HML.out]; exact Nat.le_refl _)] at hO
              have hlen : ((nearL N (costF N l) i).map (costF N l i)).length = j := by rw [List.length_map]; exact HML.out.symm
              have hOn := (hO.alloc (.cells #[.int .u32 i, .int .i64 32] 34)).rd
              have hB := (Ownd.made wq 34 2 1 (Nt.cells ⟨i, 32⟩) rfl (by decide)).rd
              have hn := dnew_any (N := j) (M := 1) ((nearL N (costF N l) i).map (costF N l i)) ac c [⟨i, 32⟩] (some ⟨wq.heap.size, 0, none⟩) 1 _ (by rw [show Ints _ _ _ = Rd _ _ ((nearL N (costF N l) i).map (costF N l i)).length 1 _ from rfl, hlen]; exact hOn) (by omega) (fun e => by
                refine List.eq_nil_of_length_eq_zero ?_
                rw [hlen]
                rcases hO.is with ⟨_, h, _⟩ | ⟨g, cur, h, _⟩
                · exact h
                · rw [e] at h; cases h) hB (fun x hx => by rw [List.mem_singleton.1 hx]; show (0 : Int) ≤ (i : Int) ∧ (i : Int) < 4294967296; omega) (by simp) (fun h => by cases h) (by simp) hlen.symm rfl
              have hcv : IntKind.u32.wrap (i : Int) = (i : Int) := IntWalk.u32_in _ (by omega)
              have hDE := dnewE_node hC hiN
              have HO4 := Lib.hid hO4
              clear hlen hOn hB hO4
              go_wp2_with (fail)
              refine hn.mono ?_
              intro e6 w6 R6
              obtain ⟨Dn, rfl, hDc, hDo, hDlo, hDhi, hDD, hF6⟩ := R6.okE hDE
              simp only [World.size_alloc] at hDlo
              have hF46 := ((hFq.alloc _).trans hF6)
              have hFa6 := hF4.trans hF46
              have hs6 := hFa6.size
              have hFw6 := hF.trans hFa6
              have hrow : Ownd w6.heap 3 1 ak (nearL N (costF N l) i).length ck (ivals .i64 ((nearL N (costF N l) i).map Int.ofNat)) ok := by
                rw [← HML.out]; exact HO4.out.fr hF46 (fun _ _ h => h)
              have hn1 : ∀ g, ok = some g → wa.heap.size ≤ g ∧ g < Dn.lo := fun g hg => ⟨hN4 g hg, by have := HO4.out.lt g hg; omega⟩
              have hpush := fun (w4 w5 : World) (ad' an' : Option Addr) (cd' cn' : Nat) (obd' obn' : Option Nat) => HM.out.push (w4 := w4) (w5 := w5) (ad' := ad') (an' := an') (cd' := cd') (cn' := cn') (obd' := obd') (obn' := obn') hsw hFa6 hrow hn1 ⟨hDc, hDo⟩ (by omega) hDhi hDD
              rw [← HML.out] at hpush
              have HP := Lib.hid hpush
              have hOb := (HM.out.ds.fr hFa6 (fun _ _ h => h)).alloc (.cells #[.pointer (some ⟨Dn.bd, 0, none⟩)] 28)
              have hrd := rd_lit w6 28 [.pointer (some ⟨Dn.bd, 0, none⟩)]
              clear hn R6 hO hDE hcv hDc hDo hDlo hDhi hDD hF46 hF6 hpush hrow hn1 hFq hFw4 hF4
              go_wp2_with (at_builtin; refine wpList_app rfl _ _ 38 rfl Try.underlying38 infoDm rfl (by decide) rfl rfl hOb hrd (by simp [Value.oneCell']) (by omega) (by omega) ?_)
              intro a9 c9 w9 ob9 v1 v2 v3
              have f4 := ((Fr.refl (fun k => obd = some k) w6).alloc (.cells #[.pointer (some ⟨Dn.bd, 0, none⟩)] 28)).trans v2
              have b4 : ob9 = obd ∨ ∃ g, ob9 = some g ∧ w6.heap.size ≤ g := v3.imp id (fun ⟨g, e1, e2⟩ => ⟨g, e1, by omega⟩)
              have hOc := ((HM.out.nears.fr hFa6 (fun _ _ h => h)).fr f4 (fun g hg e => (HM.out.newd g e).2.2 hg)).alloc (.cells #[.slice ak j ck] 31)
              have hrd2 := rd_lit w9 31 [.slice ak j ck]
              have hFw9 := Fr.app hFw6 f4 (fun g hg => (HM.out.newd g hg).1)
              have HP2 := Lib.hid (fun (w5 : World) (an' : Option Addr) (cn' : Nat) (obn' : Option Nat) => HP.out w9 w5 a9 an' c9 cn' ob9 obn' v1 f4 b4)
              clear v1 v2 v3 hOb hrd HP f4 b4 hFw6 hFa6
              go_wp2_with (at_builtin; refine wpList_app rfl _ _ 23 rfl Try.underlying23 infoR1 rfl (by decide) rfl rfl hOc hrd2 (by simp [Value.oneCell']) (by omega) (by omega) ?_)
              intro a10 c10 w10 ob10 v1 v2 v3
              have f5 := ((Fr.refl (fun k => obn = some k) w9).alloc (.cells #[.slice ak j ck] 31)).trans v2
              have hM' := HP2.out w10 a10 c10 ob10 v1 f5 (v3.imp id (fun ⟨g, e1, e2⟩ => ⟨g, e1, by omega⟩))
              have HM' := Lib.hid hM'
              have hFw10 := Fr.app hFw9 f5 (fun g hg => (HM.out.newn g hg).1)
              clear v1 v2 v3 f5 hOc hrd2 HP2 HM hM' hFw9
              go_wp2
              go_roundw
              case rel => exact ⟨i + 1, _, a9, c9, ob9, a10, c10, ob10, _, _, by omega, by go_num, rfl, rfl, HM'.out, hFw10⟩
              case measure => simp [intOf]; omega
        · obtain rfl : i = N := by omega
          have s1 : decide (i < i) = false := by simp
          have HM := Lib.hid hM
          clear hM
          go_wp2
          go_meet
          case rel => exact ⟨Ds, ad, cd, obd, an, cn, obn, A, cA, rfl, rfl, HM.out, hF⟩
      --]]A
    case rest =>
      as_aux_lemma =>
      obtain ⟨Ds, ad, cd, obd, an, cn, obn, A, cA, rfl, rfl, hM, hF⟩ := hcut
      generalize wc = wb at *
      obtain ⟨F, hF'⟩ : ∃ F : Nat → List Int, ∀ q, q < N → IsFar N (costF N l) q (F q) := by
        have h : ∀ q, ∃ f, q < N → IsFar N (costF N l) q f := fun q => by
          by_cases hq : q < N
          · obtain ⟨f, hf⟩ := exists_far hC hq
            exact ⟨f, fun _ => hf⟩
          · exact ⟨[], fun h => absurd h hq⟩
        exact ⟨fun q => Classical.choose (h q), fun q => Classical.choose_spec (h q)⟩
      have hRI := hM.rinv hC hF'
      have HLO := Lib.hid hM.made.lo
      obtain ⟨gd, gn, G, rfl, rfl, hRd⟩ := hM.rdy (by omega)
      have hsB := hF.size
      obtain ⟨B, hB⟩ : ∃ B, B = wb.heap.size := ⟨_, rfl⟩
      rw [← hB] at hRI hsB
      obtain ⟨C, hCe⟩ : ∃ C, C = costF N l := ⟨_, rfl⟩
      rw [← hCe] at hRI hRd hF' hC
      have HCE := Lib.hid hCe
      have HRI := Lib.hid hRI
      have HRD := Lib.hid hRd
      have HFF := Lib.hid hF'
      have hBb : B ≤ wb.heap.size := by omega
      clear hM hF03 hRI hRd hF' hCe hB
      go_upto_block 4 with (fail)
      go_cut [18] from 19 to 19 (fun s18 wx => ∃ (nows : Nat → Int) (L : Nat → List Td), s18 = .int .i64 N ∧ RInv N C F B wx Ds N nows L ∧ Rdy N C wx Ds gd gn G A cA ∧ Fr (fun _ => False) w wx)
      case first =>
        --[[B
        as_aux_lemma =>
        go_wp2
        go_loopw [18] (fun s18 wr => ∃ (r : Nat) (nows : Nat → Int) (L : Nat → List Td), r ≤ N ∧ s18 = .int .i64 r ∧ RInv N C F B wr Ds r nows L ∧ Rdy N C wr Ds gd gn G A cA ∧ Fr (fun _ => False) w wr) (fun s _ => N - (intOf s).toNat)
        case atStart => exact ⟨0, _, _, by omega, rfl, HRI.out, HRD.out, hF⟩
        case round =>
          generalize wr = wa at *
          clear HRI HRD hF hBb
          obtain ⟨r, nows, L, hr, rfl, hRI, hRd, hFa⟩ := hrel
          by_cases hrN : r < N
          · have s1 : decide (r < N) = true := decide_eq_true hrN
            have hBa := hRI.rts.size
            have HRI := Lib.hid hRI
            have HRD := Lib.hid hRd
            clear hRI hRd
            go_wp2
            go_loopw [20, 19] (fun s20 s19 wr => ∃ (i : Nat) (R : Nat → List BestR) (aS : Option Addr) (cS : Nat) (obS : Option Nat) (A2 : Nat → Option Addr) (c2 : Nat → Nat) (A3 : Nat → Nat → Option Addr) (c3 : Nat → Nat → Nat), i ≤ N ∧ s20 = .int .i64 i ∧ s19 = .slice aS i cS ∧ SayI N C wa.heap.size wr Ds L R i aS cS obS A2 c2 A3 c3 ∧ Fr (fun _ => False) wa wr) (fun s _ _ => N - (intOf s).toNat)
            case atStart => exact ⟨0, fun _ => [], none, 0, none, fun _ => none, fun _ => 0, fun _ _ => none, fun _ _ => 0, by omega, rfl, rfl, SayI.start _ _ _ _ _ _ _ _ _ _ _, Fr.refl _ _⟩
            case round =>
              generalize wr = wi at *
              obtain ⟨i, R, aS, cS, obS, A2, c2, A3, c3, hi, rfl, rfl, hS, hFi⟩ := hrel
              by_cases hiN : i < N
              · skip
                --[[S
                as_aux_lemma =>
                have s2 : decide (i < N) = true := decide_eq_true hiN
                have hsi := hFi.size
                have hRdi := HRD.out.fr0 hFi
                have HS := Lib.hid hS
                have hDi := (HRI.out.rts.dm i hiN).fr0 hFi
                have hcl := (HRI.out.rts.node i hiN).len
                have h7 := nearL_len hC hiN
                have hln := hRdi.ln
                have hld := hRdi.ld
                have en := hRdi.near i hiN
                have ed := hRdi.ds i hiN
                obtain ⟨M, hMl⟩ : ∃ M, M = (nearL N C i).length := ⟨_, rfl⟩
                rw [← hMl] at h7 en hcl
                have HML := Lib.hid hMl
                have HD := Lib.hid hDi
                have HCL := Lib.hid hcl
                clear hS hRdi hMl hDi hcl
                go_wp2
                go_loopw [22, 21] (fun s22 s21 wr => ∃ (j : Nat) (Ri : List BestR) (aT : Option Addr) (cT : Nat) (ob : Option Nat) (a3 : Nat → Option Addr) (k3 : Nat → Nat), j ≤ M ∧ s22 = .int .i64 j ∧ s21 = .slice aT j cT ∧ ToI wi.heap.size wr.heap (upd R i Ri) i j aT cT ob a3 k3 ∧ (0 < j → AllR (Ds i) (L i) Ri) ∧ Fr (fun _ => False) wi wr) (fun s _ _ => M - (intOf s).toNat)
                case atStart => exact ⟨0, [], none, 0, none, fun _ => none, fun _ => 0, by omega, rfl, rfl, ToI.start _ _ _ _ _ _, (fun h => absurd h (Nat.not_lt_zero _)), Fr.refl _ _⟩
                case round =>
                  generalize wr = wj at *
                  obtain ⟨j, Ri, aT, cT, ob, a3, k3, hj, rfl, rfl, hT, hAj, hFj⟩ := hrel
                  have en' := (hFj.cell (p := ⟨gn, i, none⟩) hln (fun h => h)).trans en
                  have ed' := (hFj.cell (p := ⟨gd, i, none⟩) hld (fun h => h)).trans ed
                  have hln' := Nat.lt_of_lt_of_le hln hFj.size
                  have hld' := Nat.lt_of_lt_of_le hld hFj.size
                  have hsj := hFj.size
                  by_cases hjM : j < M
                  · have s3 : decide (j < M) = true := decide_eq_true hjM
                    have htl := dtell_any (j : Int) wj (HD.out.fr0 hFj) (by rw [HCL.out]; omega)
                    have HT := Lib.hid hT
                    have HAJ := Lib.hid hAj
                    clear hT hAj
                    go_wp2_with (fail)
                    refine htl.mono ?_
                    rintro e5 w5 ⟨R', a5, c5, o5, hAR, rfl, hO5, hF5, hN5⟩
                    obtain ⟨Ri', hA', hT', hmsg⟩ := HT.out.tell HAJ.out R' hAR
                    rw [hmsg] at hO5 ⊢
                    have HT' := Lib.hid hT'
                    have HA' := Lib.hid hA'
                    have hml := msgB_len (upd R i Ri') i j
                    obtain ⟨n5, hn5⟩ : ∃ n, n = (msgB (upd R i Ri') i j).length := ⟨_, rfl⟩
                    rw [← hn5] at hml ⊢
                    have HN5 := Lib.hid hn5
                    have HO5 := Lib.hid hO5
                    have hs5 := hF5.size
                    have hOb := (hT'.own.fr hF5 (fun _ _ h => h)).alloc (.cells #[.slice a5 n5 c5] 44)
                    have hrd := rd_lit w5 44 [.slice a5 n5 c5]
                    have hF5b := (hFj.trans hF5).alloc (.cells #[.slice a5 n5 c5] 44)
                    clear htl hAR hO5 hmsg hT' hA' HT HAJ hn5
                    go_wp2_with (at_builtin; refine wpList_app rfl _ _ 43 rfl Try.underlying43 infoR2 rfl (by decide) rfl rfl hOb hrd (by simp [Value.oneCell']) (by omega) (by omega) ?_)
                    intro a9 c9 w9 ob9 v1 v2 v3
                    have f9 := (((Fr.refl (fun k => ob = some k) wj).trans (hF5.none _)).alloc (.cells #[.slice a5 n5 c5] 44)).trans v2
                    have b9 : ob9 = ob ∨ ∃ g, ob9 = some g ∧ wj.heap.size ≤ g := v3.imp id (fun ⟨g, e1, e2⟩ => ⟨g, e1, by omega⟩)
                    have hBj := HT'.out.new
                    have hF9 := Fr.app hF5b v2 hBj
                    have hobl := HT'.out.own.lt
                    have hpush := HT'.out.push (w' := w9) (aT' := a9) (a5 := a5) (cT' := c9) (c5 := c5) (ob' := ob9) (o5 := o5) hsj
                      ((HO5.out.alloc (.cells #[.slice a5 n5 c5] 44)).fr v2 (fun g hg e => by have := hN5 g hg; have := hobl g e; omega))
                      (fun g hg => ⟨hN5 g hg, by
                        have k1 := hN5 g hg
                        have k2 := HO5.out.lt g hg
                        rcases v3 with e | ⟨g', e, e2⟩
                        · rw [e]; intro e3; have := hobl g e3; omega
                        · rw [e]; intro e3; cases e3; omega⟩) (by rw [← HN5.out]; exact v1) f9 b9
                    have HPU := Lib.hid hpush
                    clear v1 v2 v3 f9 b9 hOb hrd hF5b hpush hFj hF5
                    go_wp2
                    go_roundw
                    case rel => exact ⟨j + 1, Ri', a9, c9, ob9, _, _, by omega, by go_num, rfl, HPU.out, fun _ => HA'.out, hF9⟩
                    case measure => simp [intOf]; omega
                  · obtain rfl : j = M := by omega
                    have s3 : decide (j < j) = false := by simp
                    have hpush := fun (w' : World) (aS' : Option Addr) (cS' : Nat) (obS' : Option Nat) => HS.out.push (w' := w') (aS' := aS') (cS' := cS') (obS' := obS') hsi hFj (by rw [← HML.out]; exact hT) (by rw [← HML.out]; exact hAj)
                    rw [← HML.out] at hpush
                    have HPU := Lib.hid hpush
                    have hOb := (HS.out.top.fr hFj (fun _ _ h => h)).alloc (.cells #[.slice aT j cT] 43)
                    have hrd := rd_lit wj 43 [.slice aT j cT]
                    have hFaj := hFi.trans hFj
                    clear hT hAj hpush
                    go_wp2_with (at_builtin; refine wpList_app rfl _ _ 42 rfl Try.underlying42 infoR3 rfl (by decide) rfl rfl hOb hrd (by simp [Value.oneCell']) (by omega) (by omega) ?_)
                    intro a9 c9 w9 ob9 v1 v2 v3
                    have f9 := ((Fr.refl (fun k => obS = some k) wj).alloc (.cells #[.slice aT j cT] 43)).trans v2
                    have hF9 := Fr.app hFaj f9 HS.out.new
                    have hS' := Lib.hid (HPU.out w9 a9 c9 ob9 v1 f9 (v3.imp id (fun ⟨g, e1, e2⟩ => ⟨g, e1, by omega⟩)))
                    clear v1 v2 v3 f9 hOb hrd HPU hFaj hFj
                    go_wp2
                    go_roundw
                    case rel => exact ⟨i + 1, _, a9, c9, ob9, _, _, _, _, by omega, by go_num, rfl, hS'.out, hF9⟩
                    case measure => simp [intOf]; omega
                --]]S
              · obtain rfl : N = i := by omega
                have s2 : decide (N < N) = false := by simp
                obtain ⟨H, h1, h2, h3, h4, h5, h6, h7⟩ := hear_world hC HFF.out HRI.out HRD.out hS hFi hFa hrN HLO.out
                have H1 := Lib.hid h1
                have H2 := Lib.hid h2
                have H3 := Lib.hid h3
                have H4 := Lib.hid h4
                have H5 := Lib.hid h5
                have H6 := Lib.hid h6
                have H7 := Lib.hid h7
                clear h1 h2 h3 h4 h5 h6 h7 hS HRI HRD hFi hFa hBa
                go_wp2
                go_loopw [25] (fun s25 wr => ∃ i : Nat, i ≤ N ∧ s25 = .int .i64 i ∧ H i 0 wr) (fun s _ => N - (intOf s).toNat)
                case atStart => exact ⟨0, by omega, rfl, H1.out⟩
                case round =>
                  generalize wr = wp at *
                  clear H1
                  obtain ⟨i, hi, rfl, hH⟩ := hrel
                  by_cases hiN : i < N
                  · have s3 : decide (i < N) = true := decide_eq_true hiN
                    obtain ⟨M, hMl⟩ : ∃ M, M = (nearL N C i).length := ⟨_, rfl⟩
                    have HML := Lib.hid hMl
                    have h7 := nearL_len hC hiN
                    rw [← hMl] at h7
                    have HH := Lib.hid hH
                    clear hMl hH
                    go_wp2
                    go_loopw [26] (fun s26 wr => ∃ j : Nat, j ≤ M ∧ s26 = .int .i64 j ∧ H i j wr) (fun s _ => M - (intOf s).toNat)
                    case atStart => exact ⟨0, by omega, rfl, HH.out⟩
                    case round =>
                      generalize wr = wq at *
                      clear HH
                      obtain ⟨j, hj, rfl, hHj⟩ := hrel
                      have HHJ := Lib.hid hHj
                      have hRq := H2.out i j wq hHj
                      have hln := hRq.ln
                      have en := hRq.near i hiN
                      rw [← HML.out] at en
                      by_cases hjM : j < M
                      · have s4 : decide (j < M) = true := decide_eq_true hjM
                        have hjn : j < (nearL N C i).length := by rw [← HML.out]; exact hjM
                        obtain ⟨hAi, hGi, hci⟩ := hRq.row i hiN (by omega)
                        have ec := hci j hjn
                        rw [hAi] at en
                        have hkm := nth_mem (nearL N C i) j hjn
                        have hcall := fun W h => H6.out i j W h hiN hjn
                        have hbk := near_back hC hiN hkm
                        generalize nth (nearL N C i) j = k at *
                        have hkN := (nearL_mem.1 hkm).1
                        have hpl := posL_lt hbk
                        have hpa := posL_at hbk
                        have hpn := fun m (hm : m < (nearL N C k).length) (e : nth (nearL N C k) m = i) => (show m = posL (nearL N C k) i by rw [← e]; exact (posL_nth (nearL_nodup N C k) hm).symm)
                        generalize posL (nearL N C k) i = p at *
                        have hli := hRq.ld
                        obtain ⟨P, hP⟩ : ∃ P, P = (nearL N C k).length := ⟨_, rfl⟩
                        have h7k := nearL_len hC hkN
                        rw [← hP] at hpl h7k
                        have HP := Lib.hid hP
                        have HPN := Lib.hid hpn
                        have HPA := Lib.hid hpa
                        have HCALL := Lib.hid hcall
                        clear hHj hRq hci hkm hbk hcall hpn hpa hP hAi
                        go_wp2
                        go_loopw [28] (fun s28 wr => ∃ m : Nat, m ≤ P ∧ s28 = .int .i64 m ∧ H i (if p < m then j + 1 else j) wr) (fun s _ => P - (intOf s).toNat)
                        case atStart => exact ⟨0, by omega, rfl, by rw [if_neg (by omega)]; exact HHJ.out⟩
                        case round =>
                          generalize wr = wm at *
                          clear HHJ en ec hln hli hGi
                          obtain ⟨m, hm, rfl, hHm⟩ := hrel
                          have hRm := H2.out _ _ wm hHm
                          have hln := hRm.ln
                          have en := hRm.near k hkN
                          rw [← HP.out] at en
                          by_cases hmP : m < P
                          · have s5 : decide (m < P) = true := decide_eq_true hmP
                            obtain ⟨hAk, hGk, hck⟩ := hRm.row k hkN (by rw [← HP.out]; omega)
                            have ec := hck m (by rw [← HP.out]; exact hmP)
                            rw [hAk] at en
                            by_cases hmp : m = p
                            · subst hmp
                              rw [HPA.out] at ec
                              rw [if_neg (by omega)] at hHm
                              obtain ⟨gS, g2, rfl, hgS, cS1, hg2, cS2⟩ := H3.out _ _ wm i j hHm hiN hjn
                              have ed := hRm.ds k hkN
                              have hld := hRm.ld
                              have hHd := H5.out _ _ _ _ hHm ((Fr.refl _ _).drew)
                              have hcall := HCALL.out _ hHd
                              have hsm : (msgB R i j).length ≤ 504 := msgB_len R i j
                              generalize (msgB R i j).length = ml at *
                              rw [← HML.out] at cS1
                              have q1 : ((i : Int) == (i : Int)) = true := by simp
                              clear hRm hck hAk hHm hHd
                              go_wp2
                              (refine wp_region_mix (fun _ => True) 23 (by kernel_rfl) (by kernel_rfl) (trivial) ?_; simp only [List.take_succ_cons, List.take_zero, List.drop_succ_cons, List.drop_zero])
                              (refine wpMix_earlyN 23 (by kernel_rfl) (by kernel_rfl) ?_; simp only [List.take_succ_cons, List.take_zero, List.drop_succ_cons, List.drop_zero]; (repeat (go_big_quiet_step (fail))); refine wpQuiet_nil ?_)
                              refine wpMix_nil ?_
                              go_wp2_with (fail)
                              refine hcall.mono ?_
                              rintro e6 w6 ⟨rfl, hH6⟩
                              have HH6 := Lib.hid hH6
                              clear hcall hH6
                              go_wp2
                              go_roundw
                              case rel => exact ⟨m + 1, by omega, by go_num, by rw [if_pos (by omega)]; exact HH6.out⟩
                              case measure => simp [intOf]; omega
                            · have hx : nth (nearL N C k) m ≠ i := fun e => hmp (HPN.out m (by rw [← HP.out]; exact hmP) e)
                              generalize nth (nearL N C k) m = x at *
                              have q1 : ((x : Int) == (i : Int)) = false := by simp only [beq_eq_false_iff_ne, ne_eq]; omega
                              have HHM := Lib.hid hHm
                              clear hRm hck hAk hHm hx
                              go_wp2
                              go_quiet (fail)
                              go_wp2
                              go_roundw
                              case rel => exact ⟨m + 1, by omega, by go_num, by
                                have h := H5.out _ _ _ _ HHM.out ((Fr.refl _ _).drewN nq)
                                by_cases e : p < m
                                · rw [if_pos e] at h; rw [if_pos (by omega)]; exact h
                                · rw [if_neg e] at h; rw [if_neg (by omega)]; exact h⟩
                              case measure => simp [intOf]; omega
                          · obtain rfl : m = P := by omega
                            have s5 : decide (m < m) = false := by simp
                            rw [if_pos hpl] at hHm
                            have HHM := Lib.hid hHm
                            clear hHm hRm
                            go_wp2
                            go_roundw
                            case rel => exact ⟨j + 1, by omega, by go_num, HHM.out⟩
                            case measure => simp [intOf]; omega
                      · obtain rfl : j = M := by omega
                        have s4 : decide (j < j) = false := by simp
                        rw [HML.out] at HHJ
                        have hH' := H4.out i wq HHJ.out
                        have HH' := Lib.hid hH'
                        clear hHj hRq hH'
                        go_wp2
                        go_roundw
                        case rel => exact ⟨i + 1, by omega, by go_num, HH'.out⟩
                        case measure => simp [intOf]; omega
                  · obtain rfl : i = N := by omega
                    have s3 : decide (i < i) = false := by simp
                    obtain ⟨nows', L', k1, k2, k3⟩ := H7.out wp hH
                    have K1 := Lib.hid k1
                    have K2 := Lib.hid k2
                    clear hH k1 k2
                    go_wp2
                    go_roundw
                    case rel => exact ⟨r + 1, nows', L', by omega, by go_num, K1.out, K2.out, k3⟩
                    case measure => simp [intOf]; omega
          · obtain rfl : r = N := by omega
            have s1 : decide (r < r) = false := by simp
            have HRI := Lib.hid hRI
            have HRD := Lib.hid hRd
            clear hRI hRd
            go_wp2
            go_meet
            case rel => exact ⟨nows, L, rfl, HRI.out, HRD.out, hFa⟩
        --]]B
      case rest =>
        as_aux_lemma =>
        obtain ⟨nows, L, rfl, hRI, hRd, hFb⟩ := hcut
        generalize wc = we at *
        clear HRI HRD hF hBb
        have HRI := Lib.hid hRI
        have HRD := Lib.hid hRd
        clear hRI hRd
        go_wp2
        go_loopw [29] (fun s29 wr => ∃ i : Nat, i ≤ N ∧ s29 = .int .i64 i ∧ Fr (fun _ => False) we wr) (fun s _ => N - (intOf s).toNat)
        case atStart => exact ⟨0, by omega, rfl, Fr.refl _ _⟩
        case round =>
          generalize wr = wi at *
          obtain ⟨i, hi, rfl, hFi⟩ := hrel
          by_cases hiN : i < N
          · have s1 : decide (i < N) = true := decide_eq_true hiN
            have hFw := hFb.trans hFi
            have hfar := far_any N l al cl i wi (HL.out.fr hFw (fun _ _ _ h => h)) (by omega) HW.out
            have hfe : farErr N l i = none := by unfold farErr; rw [HG.out]; simp only; rw [if_neg (by omega)]
            rw [hfe] at hfar
            clear hfe
            go_wp2_with (fail)
            refine hfar.mono ?_
            rintro e4 w4 ⟨f, hf, a4, c4, o4, rfl, hO4, hF4, hN4⟩
            simp only [Int.toNat_natCast] at hf hO4 ⊢
            obtain ⟨g4, rfl, -, hg4, hc4, -⟩ := hO4.pos (by omega)
            have hcf : ∀ k, k < N → w4.cell? ⟨g4, k, none⟩ = some (.int .i64 (nth f k)) := fun k hk => by rw [hc4 k (by omega), ivals_get _ _ _ (by rw [hf.len]; exact hk)]
            rw [← HCE.out] at hf
            have hF04 := hFi.trans hF4
            have hR4 := HRD.out.fr0 hF04
            have hD4 := (HRI.out.rts.dm i hiN).fr0 hF04
            have ht := dtab_any w4 hD4
            have ed := hR4.ds i hiN
            have hld := hR4.ld
            have HF := Lib.hid hf
            have HCF := Lib.hid hcf
            clear hfar hf hc4 hcf hO4 hR4 hD4 hF4
            go_wp2_with (fail)
            refine ht.mono ?_
            rintro e5 w5 ⟨Rb, a5, c5, o5, rfl, hA5, hR5, hF5⟩
            obtain ⟨t1, t2⟩ := table_end hC HFF.out hiN (HRI.out.rts.node i hiN) (HRI.out.rts.dm i hiN).ok (HRI.out.snd i hiN) (HRI.out.cpl i hiN) hR5 HF.out
            have hRl := hR5.len
            have hF05 := hF04.trans hF5
            have hg5 := Nat.lt_of_lt_of_le hg4 hF5.size
            have hc5 : ∀ k, k < N → w5.cell? ⟨g4, k, none⟩ = some (.int .i64 (nth f k)) := fun k hk => (hF5.cell (p := ⟨g4, k, none⟩) hg4 (fun h => h)).trans (HCF.out k hk)
            have HC5 := Lib.hid hc5
            have HA5 := Lib.hid hA5.own.rd
            have HT1 := Lib.hid (show Rb.length = cntR f N from t1)
            have HT2 := Lib.hid t2
            have hfb := fun k (hk : k < N) => HF.out.bd k hk
            have HFB := Lib.hid hfb
            obtain ⟨n5, hn5⟩ : ∃ n, n = Rb.length := ⟨_, rfl⟩
            rw [← hn5] at hRl ⊢
            have HN5 := Lib.hid hn5
            clear ht hA5 hR5 t1 t2 hc5 hfb hn5 HCF hF04 hF5 ed hld
            go_wp2
            go_loopw [34, 33] (fun s34 s33 wr => ∃ k : Nat, k ≤ N ∧ s34 = .int .i64 k ∧ s33 = .int .i64 (cntR f k) ∧ wr = w5) (fun s _ _ => N - (intOf s).toNat)
            case atStart => exact ⟨0, by omega, rfl, rfl, rfl⟩
            case round =>
              generalize wr = wk at *
              obtain ⟨k, hk, rfl, rfl, rfl⟩ := hrel
              by_cases hkN : k < N
              · have s2 : decide (k < N) = true := decide_eq_true hkN
                have e0 := HC5.out k hkN
                have hb := HFB.out k hkN
                have hle := cntR_le f k
                have HY := Lib.hid (@cntR_yes f k)
                have HN := Lib.hid (@cntR_no f k)
                generalize cntR f k = c at *
                generalize nth f k = x at *
                by_cases hx : x + 1 < 16
                · have s3 : decide (x + 1 < 16) = true := decide_eq_true hx
                  have HCC := Lib.hid (HY.out hx)
                  clear HY HN
                  go_wp2
                  go_roundw
                  case rel => exact ⟨k + 1, by omega, by go_num, by rw [HCC.out]; go_num, trivial⟩
                  case measure => simp [intOf]; omega
                · have s3 : decide (x + 1 < 16) = false := decide_eq_false hx
                  have HCC := Lib.hid (HN.out hx)
                  clear HY HN
                  go_wp2
                  go_roundw
                  case rel => exact ⟨k + 1, by omega, by go_num, by rw [HCC.out], trivial⟩
                  case measure => simp [intOf]; omega
              · obtain rfl : N = k := by omega
                have s2 : decide (N < N) = false := by simp
                rw [show cntR f N = n5 by rw [HN5.out]; exact HT1.out.symm]
                have s3 : ((n5 : Int) != (n5 : Int)) = false := by simp
                go_wp2
                go_loopw [35] (fun s35 wr => ∃ j : Nat, j ≤ n5 ∧ s35 = .int .i64 j ∧ Fr (fun _ => False) wk wr) (fun s _ => n5 - (intOf s).toNat)
                case atStart => exact ⟨0, by omega, rfl, Fr.refl _ _⟩
                case round =>
                  generalize wr = wj at *
                  obtain ⟨j, hj, rfl, hFj⟩ := hrel
                  by_cases hjn : j < n5
                  · have s4 : decide (j < n5) = true := decide_eq_true hjn
                    have hjR : j < Rb.length := by rw [← HN5.out]; exact hjn
                    obtain ⟨gR, oR, rfl, hgR, hcR⟩ := Recs.pos HA5.out BestR.cells_len (by omega) (by omega)
                    have d0 := (hFj.cell (p := ⟨gR, oR + (j * 4 + 0), none⟩) hgR (fun h => h)).trans (hcR wk rfl j 0 hjR (by omega))
                    have d2 := (hFj.cell (p := ⟨gR, oR + (j * 4 + 2), none⟩) hgR (fun h => h)).trans (hcR wk rfl j 2 hjR (by omega))
                    have hx := HT2.out _ (nth_mem Rb j hjR)
                    generalize nth Rb j = x at *
                    obtain ⟨xa, xn, xm, xh, xA, xC⟩ := x
                    simp only [BestR.cells, List.getElem?_cons_zero, List.getElem?_cons_succ, ← Nat.add_assoc, Nat.add_zero] at d0 d2
                    simp only at hx
                    obtain ⟨q, rfl⟩ : ∃ q : Nat, xa = q := ⟨xa.toNat, by omega⟩
                    simp only [Int.toNat_natCast] at hx
                    obtain ⟨-, hq, rfl⟩ := hx
                    have hqN : q < N := by omega
                    have e0 := (hFj.cell (p := ⟨g4, q, none⟩) hg5 (fun h => h)).trans (HC5.out q hqN)
                    have hfb := HFB.out q hqN
                    have hgj := Nat.lt_of_lt_of_le hg5 hFj.size
                    have hgRj := Nat.lt_of_lt_of_le hgR hFj.size
                    have q1 : decide ((q : Int) < 0) = false := decide_eq_false (by omega)
                    have q2 : decide (N ≤ q) = false := decide_eq_false (by omega)
                    have q3 : ((nth f q + 1) != (nth f q + 1)) = false := by simp
                    generalize nth f q = y at *
                    clear hcR
                    go_wp2
                    go_quiet (fail)
                    go_wp2
                    go_roundw
                    case rel => exact ⟨j + 1, by omega, by go_num, hFj.drewN nq⟩
                    case measure => simp [intOf]; omega
                  · obtain rfl : j = n5 := by omega
                    have s4 : decide (j < j) = false := by simp
                    have hFe := hF05.trans hFj
                    go_wp2
                    go_roundw
                    case rel => exact ⟨i + 1, by omega, by go_num, hFe⟩
                    case measure => simp [intOf]; omega
          · obtain rfl : i = N := by omega
            have s1 : decide (i < i) = false := by simp
            have hFw := hFb.trans hFi
            go_wp2
            go_ret
            exact RetV.mk rfl rfl hFw
end Go.Proofs.Ytgfbkebbnfcgkaa
end
