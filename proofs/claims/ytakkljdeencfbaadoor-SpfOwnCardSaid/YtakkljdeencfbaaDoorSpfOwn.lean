import Derived.Test.YtakkljdeencfbaaDoorSpfGot
import Derived.Test.YtakkljdeencfbaaDoorUps
import Derived.Test.YtakkljdeencfbaaDoorLinkSame
import Derived.Test.YtakkljdeencfbaaDoorOwn1
import Derived.Test.YtakkljdeencfbaaDoorTold
import Derived.Test.YtakkljdeencfbaaDoorOne
namespace Go.Proofs.YtakkljdeencfbaaDoor
open Go.RowKit

theorem infoLk : (Tryd.prog.info? 32).map (fun i => (i.zero, i.size, i.bytes)) = some (some (.agg #[.int .i64 0, .int .i64 0, .int .i64 0]), 3, 24) := by kernel_rfl
theorem lk_one (l : List Lk) : ∀ u ∈ l.flatMap Lk.cells, u.oneCell' = true := fun u hu => by
  obtain ⟨y, _, hy⟩ := List.mem_flatMap.1 hu
  simp only [Lk.cells, List.mem_cons, List.not_mem_nil, or_false] at hy
  rcases hy with rfl | rfl | rfl <;> rfl

set_option maxRecDepth 100000 in
set_option maxHeartbeats 4000000 in
theorem spfOwn_any (n : Int) (l : List Lk) (al : Option Addr) (c : Nat) (s x : Int) (w : World) (hg : Hd w) (hL : Links w.heap al l) (hl : l.length * 24 ≤ 140737488351232) (hw : ∀ x ∈ l, (Lit.int .i64 x.a).wf = true ∧ (Lit.int .i64 x.b).wf = true ∧ (Lit.int .i64 x.c).wf = true) :
    Calls Tryd.prog 6 #[.int .i64 n, .slice al l.length c, .int .i64 s, .int .i64 x] w (RetV w (.bool true)) := by
  go_enter Tryd.func6, Tryd.ntmps6
  go_wp2_with (at_builtin; refine wpList_app rfl _ _ 22 rfl Tryd.underlying22 infoLk rfl (by decide) rfl rfl (Own.made w 32 3 0 [] rfl (by decide)) (hL.fr (S := fun _ => False) ((Fr.refl _ _).alloc _) (fun _ _ _ h => h)) (lk_one l) (by omega) (by omega) ?_)
  intro a1 c1 w1 ob1 hO1 hF1 hN1
  have hF01 : Fr (fun _ => False) w w1 := ((Fr.refl _ _).alloc _).trans' hF1 (fun i hi h => by omega)
  have hN1' : ∀ g, ob1 = some g → w.heap.size ≤ g := fun g h => by
    rcases hN1 with h1 | ⟨g', h1, h2⟩
    · rw [h1] at h; cases h; exact Nat.le_refl _
    · rw [h1] at h; cases h; omega
  clear hN1 hF1
  have hLo : Links w1.heap a1 l := hO1.rd
  go_wp2_with (fail)
  refine (far_any n l a1 c1 s _ hLo (by omega) hw).mono ?_
  intro e2 w2 R2
  cases hE : farErr n l s with
  | some k =>
    rw [hE] at R2
    obtain ⟨rfl, hF2⟩ := R2
    have HE := Lib.hid hE
    clear hE
    go_wp2_with (fail)
    refine (ups_any n l a1 c1 s _ (hLo.fr0 hF2 (fun _ _ h => h)) (by omega) hw).mono ?_
    intro e3 w3 R3
    rw [HE.out] at R3
    obtain ⟨rfl, hF3⟩ := R3
    go_wp2_with (fail)
    refine (one_any _).mono ?_
    rintro e4 w4 ⟨rfl, rfl⟩
    go_wp2_with (fail)
    refine (far_any 2 oneL _ 1 0 _ (one_links w3) (by decide) one_wf).mono ?_
    intro e5 w5 R5
    obtain ⟨g5, c5, rfl, hc5, hg5, hF5⟩ := R5.one
    have hF15 := (hF2.trans hF3).trans (((Fr.refl (fun _ => False) w3).alloc (.cells #[.int .i64 0, .int .i64 1, .int .i64 3] 32)).trans hF5)
    have hF05 := hF01.trans hF15
    clear R5 hF5
    go_wp2_with (fail)
    refine (spoil_nil none 0 x _).mono ?_
    rintro e6 w6 ⟨rfl, hF6⟩
    have hF06 := hF05.trans hF6
    go_wp2_with (fail)
    refine (ups_any n l al c s _ (hL.fr0 hF06 (fun _ _ h => h)) (by omega) hw).mono ?_
    intro e7 w7 R7
    rw [HE.out] at R7
    obtain ⟨rfl, hF7⟩ := R7
    have hF07 := hF06.trans hF7
    go_wp2_with (fail)
    refine (slinks_any l l a1 al c1 c _ (hLo.fr0 (hF15.trans (hF6.trans hF7)) (fun _ _ h => h)) (hL.fr0 hF07 (fun _ _ h => h)) (by omega) (by omega) rfl rfl).mono ?_
    rintro e8 w8 ⟨rfl, n8, rfl⟩
    have hF08 := hF07.drewN n8
    go_wp2_with (fail)
    refine (told2_any (some k) (some k) _ (hg.none hF08)).mono ?_
    rintro e9 w9 ⟨rfl, hF9⟩
    have hF09 := hF08.trans hF9
    go_wp2_with (fail)
    refine (told2_any (some k) (some k) _ (hg.none hF09)).mono ?_
    rintro e10 w10 ⟨rfl, hF10⟩
    have hF010 := hF09.trans hF10
    go_wp2
    go_loopw [21] (fun s21 wr => s21 = .int .i64 0 ∧ wr = w10) (fun _ _ => 0)
    case atStart => exact ⟨rfl, rfl⟩
    case round =>
      obtain ⟨rfl, rfl⟩ := hrel
      go_wp2
      go_ret
      exact RetV.mk rfl rfl hF010
  | none =>
    rw [hE] at R2
    obtain ⟨far, hIF, a2, c2, ob2, rfl, hO2, hF2, hN2⟩ := R2
    have HE := Lib.hid hE
    have hgr := farErr_ok hE
    obtain ⟨hn, -, -⟩ := graph_ok hgr.1
    obtain ⟨N, rfl⟩ : ∃ N : Nat, n = N := ⟨n.toNat, by omega⟩
    obtain ⟨S, rfl⟩ : ∃ k : Nat, s = k := ⟨s.toNat, by omega⟩
    rw [Int.toNat_natCast] at hO2
    rw [Int.toNat_natCast, Int.toNat_natCast] at hIF
    have HIF := Lib.hid hIF
    rw [show ((N : Int)).toNat = N from Int.toNat_natCast N]
    clear hE hgr hIF
    go_wp2_with (fail)
    refine (ups_any N l a1 c1 S _ (hLo.fr0 hF2 (fun _ _ h => h)) (by omega) hw).mono ?_
    intro e3 w3 R3
    rw [HE.out] at R3
    obtain ⟨far3, a3, c3, ob3, A3, C3, G3, hIF3, rfl, hM3, hF3⟩ := R3
    simp only [Int.toNat_natCast] at hM3 hIF3
    obtain rfl := HIF.out.eq hIF3
    rw [show ((N : Int)).toNat = N from Int.toNat_natCast N]
    go_wp2_with (fail)
    refine (one_any _).mono ?_
    rintro e4 w4 ⟨rfl, rfl⟩
    go_wp2_with (fail)
    refine (far_any 2 oneL _ 1 0 _ (one_links w3) (by decide) one_wf).mono ?_
    intro e5 w5 R5
    obtain ⟨g5, c5, rfl, hc5, hg5, hF5⟩ := R5.one
    have hF35 := (((Fr.refl (fun _ => False) w3).alloc (.cells #[.int .i64 0, .int .i64 1, .int .i64 3] 32)).trans hF5)
    have hF15 := (hF2.trans hF3).trans hF35
    have hF05 := hF01.trans hF15
    have hO25 := hO2.fr (hF3.trans hF35) (fun _ _ h => h)
    have hM5 := hM3.fr0 hF35 (fun _ _ _ h => h)
    have hO2lt := hO2.lt
    clear R5 hF5 hM3 hO2 hIF3
    go_wp2_with (fail)
    refine (spoil_own a2 c2 ob2 far x _ hO25).mono ?_
    rintro e6 w6 ⟨rfl, hF6⟩
    have hs1 := hF01.size
    have hs2 := hF2.size
    have hs3 := hF3.size
    have hlt2 : ∀ g, ob2 = some g → g < w2.heap.size := fun g h => hO2lt g h
    have hF06 : Fr (fun _ => False) w w6 := hF05.trans' hF6 (fun i hi h => by have := hN2 i h; omega)
    have hF16 : Fr (fun _ => False) w1 w6 := hF15.trans' hF6 (fun i hi h => by have := hN2 i h; omega)
    have hM6 := hM5.fr hF6 (fun k hk => ⟨fun i hi h => by have := hM5.rws.gn i k hi h; have := hlt2 k hk; omega, fun h => by have := (hM5.obn k h).1; have := hlt2 k hk; omega⟩)
    have hRl : (upsM N (costF N l) S far).length = N := ran_len _ _
    have hRr : ∀ i, i < N → (nth (upsM N (costF N l) S far) i).length ≤ N := fun i hi => by
      rw [show nth (upsM N (costF N l) S far) i = upRow (costF N l) far S i N from nth_ran _ _ _ hi]
      exact upRow_le
    obtain ⟨RS, hRS⟩ : ∃ RS, RS = upsM N (costF N l) S far := ⟨_, rfl⟩
    rw [← hRS] at hM6 hRl hRr
    have HRS := Lib.hid hRS
    obtain ⟨M, rfl⟩ : ∃ M, N = M + 1 := ⟨N - 1, by omega⟩
    obtain ⟨bt, ot, rfl, hbt, hct⟩ := hM6.mat.pos (by omega)
    have d0 := hct w6 rfl M (by omega)
    have hrM := hM6.rws.row M (by omega)
    have hsep : ∀ k, G3 M = some k → (∀ i, i < M → G3 i ≠ some k) ∧ ob3 ≠ some k := fun k hk => ⟨fun i hi h => by have := hM6.rws.inj i M k (by omega) (by omega) h hk; omega, fun h => (hM6.obn k h).2 M (by omega) hk⟩
    clear hct hRS hM5 hO25
    go_wp2_with (fail)
    refine (spoil_own (A3 M) (C3 M) (G3 M) (nth RS M) x _ hrM).mono ?_
    rintro e7 w7 ⟨rfl, hF7⟩
    have hF07 : Fr (fun _ => False) w w7 := hF06.trans' hF7 (fun i hi h => by have := hM6.rws.gn M i (by omega) h; omega)
    have hF17 : Fr (fun _ => False) w1 w7 := hF16.trans' hF7 (fun i hi h => by have := hM6.rws.gn M i (by omega) h; omega)
    have hTop := hM6.top.fr hF7 (fun g h h' => (hsep g h').2 h)
    have hRow : ∀ i, i < M → Own w7.heap 3 1 (A3 i) (nth RS i).length (C3 i) (ivals .i64 (nth RS i)) (G3 i) := fun i hi => (hM6.rws.row i (by omega)).fr hF7 (fun g h h' => (hsep g h').1 i hi h)
    have HROW := Lib.hid hRow
    have HTOP := Lib.hid hTop
    clear hM6 hrM hsep hRow d0 hTop hF7 hF6
    go_wp2_with (fail)
    refine (ups_any (M + 1 : Nat) l al c S _ (hL.fr0 hF07 (fun _ _ h => h)) (by omega) hw).mono ?_
    intro e8 w8 R8
    rw [HE.out] at R8
    obtain ⟨far8, a8, c8, ob8, A8, C8, G8, hIF8, rfl, hM8, hF8⟩ := R8
    rw [Int.toNat_natCast, Int.toNat_natCast] at hIF8 hM8
    obtain rfl := HIF.out.eq hIF8
    rw [← HRS.out] at hM8
    rw [show (((M + 1 : Nat) : Int)).toNat = M + 1 from Int.toNat_natCast (M + 1)]
    have hF08 := hF07.trans hF8
    clear hIF8
    go_wp2_with (fail)
    refine (slinks_any l l a1 al c1 c _ (hLo.fr0 (hF17.trans hF8) (fun _ _ h => h)) (hL.fr0 hF08 (fun _ _ h => h)) (by omega) (by omega) rfl rfl).mono ?_
    rintro e9 w9 ⟨rfl, n9, rfl⟩
    have hF09 := hF08.drewN n9
    go_wp2_with (fail)
    refine (told2_any none none _ (hg.none hF09)).mono ?_
    rintro e10 w10 ⟨rfl, hF10⟩
    have hF010 := hF09.trans hF10
    go_wp2_with (fail)
    refine (told2_any none none _ (hg.none hF010)).mono ?_
    rintro e11 w11 ⟨rfl, hF11⟩
    have hF011 := hF010.trans hF11
    have hF8b : Fr (fun _ => False) w8 w11 := (((Fr.refl _ w8).drewN n9).trans hF10).trans hF11
    have hF7b := hF8.trans hF8b
    have hM11 := hM8.fr0 hF8b (fun _ _ _ h => h)
    obtain ⟨bv, ov, rfl, hbv, hcv⟩ := hM11.mat.pos (by omega)
    have hT11 := HTOP.out.fr hF7b (fun _ _ h => h)
    have hR11 := fun i (hi : i < M) => (HROW.out i hi).fr hF7b (fun _ _ h => h)
    obtain ⟨gt, hgt, -, hgl, hgc, -⟩ := hT11.pos (by omega)
    cases hgt
    have HR11 := Lib.hid hR11
    have HGC := Lib.hid hgc
    have HCV := Lib.hid hcv
    have HM11 := Lib.hid hM11
    have HRL := Lib.hid hRl
    have HRR := Lib.hid hRr
    clear hR11 hgc hcv hM8 hM11 hT11 hRl hRr
    go_wp2
    go_loopw [21] (fun s21 wr => ∃ i : Nat, s21 = .int .i64 i ∧ i ≤ M ∧ Fr (fun _ => False) w11 wr) (fun s _ => M - (intOf s).toNat)
    case atStart => exact ⟨0, rfl, by omega, Fr.refl _ _⟩
    case round =>
      obtain ⟨i, rfl, hi, hF⟩ := hrel
      by_cases hiM : i < M
      · have k1 := (hF.cell (p := ⟨bt, i, none⟩) hgl (fun h => h)).trans (HGC.out i (by rw [HRL.out]; omega))
        have k2 := (hF.cell (p := ⟨bv, ov + i, none⟩) hbv (fun h => h)).trans (HCV.out w11 rfl i (by rw [HRL.out]; omega))
        have r1 := ((HR11.out i hiM).fr hF (fun _ _ h => h)).rd
        have r2 := ((HM11.out.rws.row i (by rw [HRL.out]; omega)).fr hF (fun _ _ h => h)).rd
        have hli := HRR.out i (by omega)
        simp only [List.getElem?_map, List.getElem?_range (show i < RS.length by rw [HRL.out]; omega), Option.map_some] at k1
        generalize nth RS i = R at *
        go_wp2
        (refine wp_region_mix (fun _ => True) 8 (by kernel_rfl) (by kernel_rfl) (trivial) ?_; simp only [List.take_succ_cons, List.take_zero, List.drop_succ_cons, List.drop_zero])
        (refine wpMix_earlyN 8 (by kernel_rfl) (by kernel_rfl) ?_; simp only [List.take_succ_cons, List.take_zero, List.drop_succ_cons, List.drop_zero]; (repeat (go_big_quiet_step (fail))); refine wpQuiet_nil ?_)
        refine wpMix_nil ?_
        go_wp2_with (fail)
        refine (ints_any R R (A3 i) (A8 i) (C3 i) (C8 i) _ (r1.fr0 (Fr.refl (fun _ => False) wr).drew (fun _ _ h => h)) (r2.fr0 (Fr.refl (fun _ => False) wr).drew (fun _ _ h => h)) (by omega) (by omega)).mono ?_
        rintro e12 w12 ⟨rfl, n12, rfl⟩
        go_wp2
        go_roundw
        case rel => exact ⟨i + 1, by go_num, by omega, hF.drewN (1 + n12)⟩
        case measure => simp [intOf]; omega
      · obtain rfl : i = M := by omega
        go_wp2
        go_ret
        exact RetV.mk rfl rfl (hF011.trans hF)
end Go.Proofs.YtakkljdeencfbaaDoor
