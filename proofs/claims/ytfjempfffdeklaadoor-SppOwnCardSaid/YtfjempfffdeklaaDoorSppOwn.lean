import Derived.Test.YtfjempfffdeklaaDoorSppL
import Derived.Test.YtfjempfffdeklaaDoorTold
namespace Go.Proofs.YtfjempfffdeklaaDoor
open Go.RowKit

theorem infoIntss : (Tryd.prog.info? 115).map (fun i => (i.zero, i.size, i.bytes)) = some (some (.slice none 0 0), 1, 24) := by kernel_rfl

set_option maxRecDepth 100000 in
set_option maxHeartbeats 4000000 in
theorem sppOwn_any (L : List Rw) (a : Option Addr) (c : Nat) (od : List Int) (ao : Option Addr) (co : Nat) (x : Int) (w : World) (hg : Hd w) (hL : Likes w.heap a L (fun k => k < w.heap.size)) (hl : L.length * 24 ≤ 140737488351232) (ho : Ints w.heap ao od) (hol : od.length ≤ 9223372036854775807)
    (hm : ∀ x ∈ L, x.rs.length * 24 ≤ 140737488351232) (hr : ∀ x ∈ L, ∀ j, j < x.rs.length → (nth x.rs j).length * 8 ≤ 140737488351232) :
    Calls Tryd.prog 12 #[.slice a L.length c, .slice ao od.length co, .int .i64 x] w (RetV w (.bool true)) := by
  have HSZ := Lib.hid (show ∀ i, i < (vals L).length → ∀ j, j < (nth (vals L) i).length → (nth (nth (vals L) i) j).length * 8 ≤ 140737488351232 from fun i hi j hj => by
    rw [vals_len] at hi
    rw [vals_nth L hi] at hj ⊢
    exact hr _ (nth_mem L i hi) j hj)
  have HM := Lib.hid hm
  have HR := Lib.hid hr
  clear hm hr
  go_enter Tryd.func12, Tryd.ntmps12
  go_wp2
  go_loopw [8, 7] (fun s8 s7 wr => ∃ (i : Nat) (a1 : Option Addr) (c1 : Nat) (ob : Option Nat) (L1 : List Rw), i ≤ L.length ∧ L1.length = i ∧ s8 = .int .i64 i ∧ s7 = .slice a1 i c1 ∧ Ownd wr.heap 115 1 a1 i c1 (L1.flatMap Rw.cells) ob ∧ (∀ g, ob = some g → w.heap.size ≤ g) ∧
    Hid (vals L1 = (vals L).take i) ∧ Hid (∀ y ∈ L1, RwOk wr.heap (fun k => w.heap.size ≤ k ∧ ob ≠ some k) y) ∧ Fr (fun _ => False) w wr) (fun s _ _ => L.length - (intOf s).toNat)
  case atStart => exact ⟨0, none, 0, none, [], by omega, rfl, rfl, rfl, Ownd.nil _ _ _, fun g h => (nomatch h), Lib.hid (by simp), Lib.hid (by simp), Fr.refl _ _⟩
  case round =>
    obtain ⟨i, a1, c1, ob, L1, hi, hL1, rfl, rfl, hO, hob, hV, hK, hF⟩ := hrel
    by_cases hlt : i < L.length
    · have hLr := hL.fr0 hF
      obtain ⟨b, off, rfl, hb, hcell⟩ := Recs.pos hLr.top Rw.cells_len (by omega) (by omega)
      have d := hcell wr rfl i 0 hlt (by omega)
      have hmem := nth_mem L i hlt
      have hMy := hLr.mat _ hmem
      have hn := HM.out _ hmem
      have hri := HR.out _ hmem
      have hvt := take_succ_nth (vals L) i (by rw [vals_len]; exact hlt)
      rw [vals_nth L hlt] at hvt
      generalize nth L i = y at *
      obtain ⟨ya, yr, yc, yA, yC⟩ := y
      simp only [Rw.cells, List.getElem?_cons_zero, Nat.mul_one, Nat.add_zero] at d
      simp only at hMy hn hri hvt
      have HVT := Lib.hid hvt
      clear hcell hmem hvt hLr
      go_wp2_with (fail)
      refine (rows_any yr ya yc yA yC wr hMy hn hri).mono ?_
      intro e1 w1 R1
      obtain ⟨ar, cr, obr, Gr, Cr, rfl, hM1, hF1⟩ := R1
      have hF01 := hF.trans hF1
      have hO1 := (hO.fr hF1 (fun _ _ h => h)).alloc (.cells #[.slice ar yr.length cr] 115)
      have hrd := (Ownd.made w1 115 1 1 [.slice ar yr.length cr] rfl (by decide)).rd
      clear hMy
      go_wp2_with (at_builtin; refine wpList_app rfl _ _ 114 rfl Tryd.underlying114 infoIntss rfl (by decide) rfl rfl hO1 hrd (by simp [Value.oneCell']) (by omega) (by omega) ?_)
      intro a6 c6 w6 ob6 z1 z2 z3
      have hFw := Fr.app ((hF.trans hF1).alloc (.cells #[.slice ar yr.length cr] 115)) z2 hob
      have hsz6 := z2.size
      have hob6 : ∀ g, ob6 = some g → w.heap.size ≤ g := app_new hob z3 (by have := (hF.trans hF1).size; omega)
      have hsz := (hF1.alloc (.cells #[.slice ar yr.length cr] 115)).size
      have hsz1 : (w1.alloc (.cells #[.slice ar yr.length cr] 115)).heap.size = w1.heap.size + 1 := by simp
      have hne : ∀ k, k < w1.heap.size → ob ≠ some k → ob6 ≠ some k := fun k hk h1 h2 => by
        rcases z3 with h | ⟨g, h, h'⟩
        · exact h1 (by rw [← h, h2])
        · rw [h2] at h; cases h; omega
      have hs1 := hF1.size
      have hFa : Fr (fun _ => False) wr (w1.alloc (.cells #[.slice ar yr.length cr] 115)) := hF1.alloc _
      have HKN := Lib.hid (show ∀ y ∈ L1 ++ [(⟨ar, yr, cr, fun i => some ⟨Gr i, 0, none⟩, Cr⟩ : Rw)], RwOk w6.heap (fun k => w.heap.size ≤ k ∧ ob6 ≠ some k) y from fun y hy => by
        rcases List.mem_append.1 hy with h | h
        · have h1 := (hK.out y h).weak (T' := fun k => w.heap.size ≤ k ∧ ob6 ≠ some k ∧ ob ≠ some k) (fun k hk ht => ⟨ht.1, hne k (by omega) ht.2, ht.2⟩)
          exact ((h1.fr hFa (fun _ _ h => h)).fr z2 (fun k ht h => ht.2.2 h)).weak (fun k _ ht => ⟨ht.1, ht.2.1⟩)
        · obtain rfl := List.mem_singleton.1 h
          have hob2 : ∀ k, wr.heap.size ≤ k → ob ≠ some k := fun k hk h => by have := hO.lt k h; omega
          have h1 := (RwOk.own hM1).weak (T' := fun k => w.heap.size ≤ k ∧ ob6 ≠ some k ∧ ob ≠ some k) (fun k hk ht => ⟨by have := hF.size; omega, hne k hk (hob2 k ht), hob2 k ht⟩)
          exact ((h1.fr ((Fr.refl (fun _ => False) w1).alloc _) (fun _ _ h => h)).fr z2 (fun k ht h => ht.2.2 h)).weak (fun k _ ht => ⟨ht.1, ht.2.1⟩))
      have HVN := Lib.hid (show vals (L1 ++ [(⟨ar, yr, cr, fun i => some ⟨Gr i, 0, none⟩, Cr⟩ : Rw)]) = (vals L).take (i + 1) by
        rw [HVT.out, ← hV.out]
        simp)
      have z1' : Ownd w6.heap 115 1 a6 (i + 1) c6 ((L1 ++ [(⟨ar, yr, cr, fun i => some ⟨Gr i, 0, none⟩, Cr⟩ : Rw)]).flatMap Rw.cells) ob6 := by
        rw [List.flatMap_append]
        simpa using z1
      clear z1 z2 z3 hsz hsz1 hsz6 hne hs1 hFa hO1 hrd hM1 hF1 hF01 hO hK hV
      go_wp2
      go_roundw
      case rel => exact ⟨i + 1, a6, c6, ob6, _, by omega, by simp [hL1], by go_num, rfl, z1', hob6, HVN, HKN, hFw⟩
      case measure => simp [intOf]; omega
    · obtain rfl : i = L.length := by omega
      generalize wr = wA at *
      have HV1 := Lib.hid (show vals L1 = vals L by rw [hV.out, ← vals_len L, List.take_length])
      rw [← hL1] at hO
      have hLk : Likes wA.heap a1 L1 (fun k => k < wA.heap.size) := Likes.of hO.rd (fun y hy => (hK.out y hy).weak (fun k hk _ => hk)) (fun b off e hn => by
        obtain ⟨g, e1, e2, -⟩ := hO.pos (List.length_pos_iff.2 hn)
        rw [e] at e1
        cases e1
        exact hO.lt _ e2)
      have hl1 : L1.length ≤ 9223372036854775807 := by omega
      have hrun := run_any L1 a1 c1 _ od ao co wA hLk hl1 (Rd.fr0 ho hF (fun _ _ h => h)) hol (by rw [HV1.out]; exact HSZ.out)
      rw [HV1.out, hL1] at hrun
      have HL1 := Lib.hid hL1
      obtain ⟨hb8, hbr⟩ := sppRows_all (P := fun r => r.length * 8 ≤ 140737488351232) (V := vals L) (fun i hi r hr => by
        obtain ⟨j, hj, rfl⟩ := List.getElem_of_mem hr
        rw [← nth_eq _ j hj]
        exact HSZ.out i hi j hj) (by decide) (by decide) od
      obtain ⟨R, hR⟩ : ∃ R, R = sppRun (vals L) od := ⟨_, rfl⟩
      rw [← hR] at hrun hb8 hbr
      have HRR := Lib.hid hR
      clear hR hO hK hV hob hL1
      go_wp2_with (fail)
      refine hrun.mono ?_
      intro e2 w2 R2
      obtain ⟨a2, c2, ob2, A2, C2, G2, rfl, hN2, hF2⟩ := R2.got
      clear R2 hrun
      obtain ⟨rs, hrs⟩ : ∃ rs, rs = sppRows R := ⟨_, rfl⟩
      obtain ⟨no, hno⟩ : ∃ no, no = sppNo R := ⟨_, rfl⟩
      rw [← hrs] at hb8 hbr hN2
      rw [← hrs, ← hno]
      have HRS := Lib.hid hrs
      have HNO := Lib.hid hno
      have HBR := Lib.hid hbr
      clear hrs hno hbr
      have hLk0 : Likes (w2.alloc (.cells #[.slice none 0 0] 115)).heap (some ⟨w2.heap.size, 0, none⟩) [(⟨none, [], 0, fun _ => none, fun _ => 0⟩ : Rw)] (fun _ => True) := Likes.of (Ownd.made w2 115 1 1 [.slice none 0 0] rfl (by decide)).rd (fun y hy => by
        obtain rfl := List.mem_singleton.1 hy
        exact ⟨⟨Rd.nil _ _ _, fun i hi => absurd hi (Nat.not_lt_zero _), fun i hi => absurd hi (Nat.not_lt_zero _)⟩, fun i hi => absurd hi (Nat.not_lt_zero _), Nat.zero_le _, fun _ _ _ _ => trivial, fun i hi => absurd hi (Nat.not_lt_zero _)⟩) (fun _ _ _ _ => trivial)
      have h00 : sppRun (vals [(⟨none, [], 0, fun _ => none, fun _ => 0⟩ : Rw)]) [] = .ok [[0]] := sppRun_ok (sppErr_0 (by decide) (fun i hi v hv => by
        obtain rfl : i = 0 := by simpa using hi
        cases hv)) rfl
      have hrun0 := run_any _ _ 1 _ [] none 0 _ hLk0 (by decide) (Rd.nil _ _ _) (by decide) (fun i hi j hj => by
        obtain rfl : i = 0 := by simpa using hi
        exact absurd hj (Nat.not_lt_zero _))
      rw [h00] at hrun0
      simp only [List.length_cons, List.length_nil, Nat.zero_add] at hrun0
      clear h00 hLk0
      go_wp2_with (fail)
      refine hrun0.mono ?_
      intro e3 w3 R3
      obtain ⟨a3, c3, ob3, A3, C3, G3, rfl, -, hF3⟩ := R3
      clear hrun0
      have hF23 : Fr (fun _ => False) w2 w3 := ((Fr.refl _ _).alloc _).trans hF3
      clear hF3
      have hN3 := hN2.fr0 hF23 (fun _ _ _ h => h)
      have hro := rows_any rs a2 c2 A2 C2 w3 hN3.mat (by omega) (fun i hi => HBR.out _ (nth_mem rs i hi))
      clear hN2
      go_wp2_with (fail)
      refine hro.mono ?_
      intro e4 w4 R4
      obtain ⟨a4, c4, ob4, G4, C4, rfl, hM4, hF4⟩ := R4
      clear hro
      have hN4 := hN3.fr0 hF4 (fun _ _ _ h => h)
      have HLO := Lib.hid (show ∀ j k, j < rs.length → G2 j = some k → wA.heap.size ≤ k ∧ k < w3.heap.size from fun j k hj h => ⟨hN3.rws.gn j k hj h, (hN3.rws.row j hj).lt k h⟩)
      have hF24 := hF23.trans hF4
      have hFr4 := hF2.trans hF24
      clear hN3 hF23 hF4 hF2
      go_wp2
      go_loopw [14] (fun s14 wq => ∃ i : Nat, i ≤ rs.length ∧ s14 = .int .i64 i ∧ Fr (fun k => ∃ j, j < i ∧ G2 j = some k) w4 wq) (fun s _ => rs.length - (intOf s).toNat)
      case atStart => exact ⟨0, by omega, rfl, Fr.refl _ _⟩
      case round =>
        obtain ⟨i, hi, rfl, hFq⟩ := hrel
        generalize wr = wq at *
        by_cases hlt : i < rs.length
        · have hrow := (hN4.rws.row i hlt).fr hFq (fun g hg ⟨j, hj, h⟩ => by have := hN4.rws.inj i j g hlt (by omega) hg h; omega)
          have htop := hN4.top.fr hFq (fun g hg ⟨j, hj, h⟩ => (hN4.obn g hg).2 j (by omega) h)
          obtain ⟨g, rfl, -, hgb, hcc, -⟩ := htop.pos (by omega)
          have d := hcc i (by omega)
          rw [List.getElem?_map, List.getElem?_range hlt] at d
          simp only [Option.map_some] at d
          have hsp := intsSpoil_any (G2 i) (A2 i) (C2 i) (nth rs i) x wq rfl hrow
          clear hcc htop hrow
          go_wp2_with (fail)
          refine hsp.mono ?_
          rintro e5 w5 ⟨rfl, hF5⟩
          clear hsp
          have hF6 : Fr (fun k => ∃ j, j < i + 1 ∧ G2 j = some k) w4 w5 := (hFq.mono (fun k _ ⟨j, hj, h⟩ => ⟨j, by omega, h⟩)).trans (hF5.mono (fun k _ h => ⟨i, by omega, h⟩))
          go_wp2
          go_roundw
          case rel => exact ⟨i + 1, by omega, by go_num, hF6⟩
          case measure => simp [intOf]; omega
        · obtain rfl : i = rs.length := by omega
          have hF1q : Fr (fun _ => False) wA wq := hFr4.trans' hFq (fun k hk ⟨j, hj, h⟩ => by have := (HLO.out j k hj h).1; omega)
          have hFwq := hF.trans hF1q
          have hM5 := hM4.fr hFq (fun k h1 _ ⟨j, hj, h⟩ => by have := (HLO.out j k hj h).2; omega)
          have hLo := hLk.fr0 hF1q
          have hLi := hL.fr0 hFwq
          clear hN4 hM4 hLk hF1q hFr4 hF24 hFq hF
          go_wp2
          go_loopw [15] (fun s15 wz => ∃ (i n : Nat), i ≤ L.length ∧ s15 = .int .i64 i ∧ wz = wq.drewN n) (fun s _ => L.length - (intOf s).toNat)
          case atStart => exact ⟨0, 0, by omega, rfl, rfl⟩
          case round =>
            obtain ⟨i, n, hi, rfl, hw⟩ := hrel
            generalize wr = wz at *
            have hLo' : Likes wz.heap a1 L1 (fun k => k < wA.heap.size) := by rw [hw]; exact hLo
            have hLi' : Likes wz.heap a L (fun k => k < w.heap.size) := by rw [hw]; exact hLi
            have HW := Lib.hid hw
            clear hw
            by_cases hlt : i < L.length
            · have hlt1 : i < L1.length := by rw [HL1.out]; exact hlt
              obtain ⟨b1, o1, rfl, q1, k1⟩ := Recs.pos hLo'.top Rw.cells_len (by omega) (by omega)
              obtain ⟨b2, o2, rfl, q2, k2⟩ := Recs.pos hLi'.top Rw.cells_len (by omega) (by omega)
              have d1 := k1 wz rfl i 0 hlt1 (by omega)
              have d2 := k2 wz rfl i 0 hlt (by omega)
              have m1 := hLo'.mat _ (nth_mem L1 i hlt1)
              have m2 := hLi'.mat _ (nth_mem L i hlt)
              have n1 := hLo'.many _ (nth_mem L1 i hlt1)
              have n2 := hLi'.many _ (nth_mem L i hlt)
              have hee : (nth L1 i).rs = (nth L i).rs := by rw [← vals_nth L1 hlt1, HV1.out, vals_nth L hlt]
              clear k1 k2
              generalize nth L1 i = y1 at *
              generalize nth L i = y2 at *
              obtain ⟨ya, yr, yc, yA, yC⟩ := y1
              obtain ⟨za, zr, zc, zA, zC⟩ := y2
              simp only [Rw.cells, List.getElem?_cons_zero, Nat.mul_one, Nat.add_zero] at d1 d2
              simp only at m1 m2 n1 n2 hee
              subst hee
              have hC : ∀ n, Calls Tryd.prog 68 #[.slice ya yr.length yc, .slice za yr.length zc] (wz.drewN n) fun e w'' => e = .returned (.bool true) ∧ ∃ n, w'' = wz.drewN n := fun n =>
                (srows_eq yr ya za yc zc yA zA yC zC (wz.drewN n) m1 m2 n1).mono (fun e w' h => RetQ.quiet h)
              clear hlt1 m1 m2 n1 n2 hLo' hLi'
              go_wp2
              go_quiet (first | (go_at_call 68; exact hC _))
              go_wp2
              go_roundw
              case rel => exact ⟨i + 1, n + nq, by omega, by go_num, by rw [HW.out]; simp⟩
              case measure => simp [intOf]; omega
            · obtain rfl : i = L.length := by omega
              have hFwz : Fr (fun _ => False) w wz := by rw [HW.out]; exact hFwq.drewN n
              have hFqz : Fr (fun _ => False) wq wz := by rw [HW.out]; exact (Fr.refl _ _).drewN n
              have hM6 := hM5.fr hFqz (fun _ _ _ h => h)
              have hrun := run_any L a c _ od ao co wz hLi' (by omega) (Rd.fr0 ho hFwz (fun _ _ h => h)) hol HSZ.out
              rw [← HRR.out] at hrun
              clear hLo' hLi' hM5 hLo hLi
              go_wp2_with (fail)
              refine hrun.mono ?_
              intro e7 w7 R7
              obtain ⟨a7, c7, ob7, A7, C7, G7, rfl, hN7, hF7⟩ := R7.got
              clear R7 hrun
              rw [← HRS.out] at hN7
              rw [← HRS.out, ← HNO.out]
              have hM7 := hM6.fr hF7 (fun _ _ _ h => h)
              have hsr := srows_eq rs a7 a4 c7 c4 A7 _ C7 _ w7 hN7.mat hM7.mat (by omega)
              have hF77 := hFwz.trans hF7
              clear hN7 hM7 hM6
              go_wp2_with (fail)
              refine hsr.mono ?_
              intro e8 w8 R8
              obtain ⟨rfl, n8, hw8⟩ := R8
              have hF8 : Fr (fun _ => False) w w8 := by rw [hw8]; exact hF77.drewN n8
              clear hw8 hsr
              have htd := told2_any no no w8 (hg.none hF8)
              rw [beq_self_eq_true] at htd
              clear hg
              cases no with
              | none =>
                simp only [errO]
                go_wp2_with (fail)
                refine htd.mono ?_
                rintro e9 w9 ⟨rfl, hF9⟩
                go_wp2
                go_ret
                exact RetV.mk (x := .bool true) rfl rfl (hF8.trans hF9)
              | some k =>
                simp only [errO]
                go_wp2_with (fail)
                refine htd.mono ?_
                rintro e9 w9 ⟨rfl, hF9⟩
                go_wp2
                go_ret
                exact RetV.mk (x := .bool true) rfl rfl (hF8.trans hF9)
end Go.Proofs.YtfjempfffdeklaaDoor
