/- TrieOrder's walk: nets that are put in either order find the same, at every list of nets and every address. -/
import Derived.Test.YtfjempfffdeklaaDoorTwoT
import Derived.Test.YtfjempfffdeklaaDoorTrieList
import Derived.Test.YtfjempfffdeklaaDoorTold
namespace Go.Proofs.YtfjempfffdeklaaDoor
open Go.RowKit

theorem newTrie (w : World) (base : Nat) (hb : base ≤ w.heap.size) : ∃ N V, IsTrie (w.alloc (.cells #[.bool false, .int .i64 0, .pointer none, .pointer none, .int .i64 0] 184)).heap base w.heap.size N [] V ∧ ∀ k, Tof N k → k = w.heap.size := by
  refine ⟨_, _, isTrie_new w base hb, ?_⟩
  rintro k ⟨a, j, h⟩
  simp only at h
  split at h
  · cases h; rfl
  · cases h
set_option maxRecDepth 100000 in
set_option maxHeartbeats 16000000 in
theorem trieOrder_any (l : List Nt) (al : Option Addr) (cl : Nat) (x : Int) (w : World) (hg : Hd w) (hL : Recs w.heap al 2 Nt.cells l) (hw : ∀ x ∈ l, 0 ≤ x.a ∧ x.a < 4294967296) (hll : l.length ≤ 9223372036854775807) (hx : 0 ≤ x ∧ x < 4294967296) :
    Calls Tryd.prog 11 #[.slice al l.length cl, .int .u32 x] w (RetV w (.bool true)) := by
  have HL := Lib.hid hL
  have HW := Lib.hid hw
  clear hL hw
  go_enter Tryd.func11, Tryd.ntmps11
  go_wp2_with (fail)
  refine (trieNew_any w).mono ?_
  rintro e1 w1 ⟨rfl, rfl⟩
  obtain ⟨N1, V1, hS0, hS1⟩ := newTrie w w.heap.size (Nat.le_refl _)
  have hF0 := (Fr.refl (fun _ => False) w).alloc (.cells #[.bool false, .int .i64 0, .pointer none, .pointer none, .int .i64 0] 184)
  have hsz : (w.alloc (.cells #[.bool false, .int .i64 0, .pointer none, .pointer none, .int .i64 0] 184)).heap.size = w.heap.size + 1 := by simp
  generalize w.alloc (.cells #[.bool false, .int .i64 0, .pointer none, .pointer none, .int .i64 0] 184) = w1 at *
  go_wp2_with (fail)
  refine (trieNew_any w1).mono ?_
  rintro e2 w2 ⟨rfl, rfl⟩
  obtain ⟨N2, V2, hT0, hT1⟩ := newTrie w1 w.heap.size (by omega)
  have hFt := (Fr.refl (fun _ => False) w1).alloc (.cells #[.bool false, .int .i64 0, .pointer none, .pointer none, .int .i64 0] 184)
  have hsb := hS0.fr0 hFt
  have hF02 := hF0.trans hFt
  have K0 : TwoT (w1.alloc (.cells #[.bool false, .int .i64 0, .pointer none, .pointer none, .int .i64 0] 184)) w.heap.size w.heap.size w1.heap.size _ _ _ _ _ _ := ⟨hsb, hT0, fun k h1 h2 => by
    have := hS1 k h1
    have := hT1 k h2
    omega⟩
  clear hS0 hF0 hT0 hFt hsb hS1 hT1
  generalize w1.alloc (.cells #[.bool false, .int .i64 0, .pointer none, .pointer none, .int .i64 0] 184) = w2 at *
  obtain ⟨bt, hbt⟩ : ∃ bt, bt = w1.heap.size := ⟨_, rfl⟩
  rw [← hbt] at K0 ⊢
  clear hbt hsz
  have hp := put_any 0 0 3 _ K0.s (by omega) hF02.size
  have hpe : putE [] 0 0 = none := by unfold putE; rw [show netErr 0 0 = none by decide]; rfl
  go_wp2_with (fail)
  refine hp.mono ?_
  intro e3 w3 R3
  obtain ⟨rfl, N3, V3, hT3, -, -, hF3, hN3⟩ := R3.okE hpe
  have K3 := K0.putS hT3 hF3 hN3
  have hF03 := Fr.trieP K0.s hF02 (Nat.le_refl _) hF3
  rw [show putC [] (⟨0, 0⟩ : Nt) = [⟨0, 0⟩] by decide] at K3
  have hd := drop_any (D := []) 0 0 w.heap.size w3 K3.s (by omega) K3.s.top (by simp) (by simp) List.Pairwise.nil rfl
  have HK3 := Lib.hid K3
  clear hp R3 hpe K0 hT3 hF02 hF3 hN3 K3
  go_wp2_with (fail)
  refine hd.mono ?_
  rintro e4 w4 ⟨rfl, hT4, hF4⟩
  have K4 := HK3.out.putS hT4 hF4 (fun k hk => .inl hk)
  have hF04 := Fr.trieP HK3.out.s hF03 (Nat.le_refl _) hF4
  clear hd hT4 hF4 hF03 HK3
  by_cases hbig : 64 < l.length
  · clear K4
    go_wp2
    go_ret
    exact RetV.mk rfl rfl hF04
  · go_wp2
    obtain ⟨z, hz⟩ : ∃ z, z = decide (64 < (l.length : Int)) := ⟨_, rfl⟩
    rw [← hz]
    clear hz
    go_loopw [7] (fun s7 wr => ∃ (i : Nat) (N : Int → Nat → Option Nat) (C : List Nt) (V : Nt → Int) (N' : Int → Nat → Option Nat) (C' : List Nt) (V' : Nt → Int), i ≤ l.length ∧ s7 = .int .i64 i ∧ TwoT wr w.heap.size w.heap.size bt N C V N' C' V' ∧ Hid (Filled l (l.take i) C V) ∧ Hid (Filled l (l.drop (l.length - i)) C' V') ∧ Fr (fun _ => False) w wr) (fun s _ => l.length - (intOf s).toNat)
    case atStart => exact ⟨0, N3, [], V3, N2, [], V2, by omega, rfl, K4, Lib.hid (by simpa using Filled.nil l V3), Lib.hid (by simpa using Filled.nil l V2), hF04⟩
    case round =>
      clear K4 hF04
      obtain ⟨i, N, C, V, N', C', V', hi, rfl, hK, hfs, hft, hF⟩ := hrel
      by_cases hil : i < l.length
      · have hLr := HL.out.fr hF (fun _ _ _ h => h)
        obtain ⟨g, o, rfl, hgl, hgc⟩ := Recs.pos HL.out Nt.cells_len (by omega) (by omega)
        have hm1 := Lib.hid (take_mem_succ l hil)
        have hm2 := Lib.hid (drop_mem_succ l hil)
        have hx1 := HW.out _ (nth_mem l i hil)
        have hx2 := HW.out _ (nth_mem l (l.length - 1 - i) (by omega))
        have q0 := fun (W : World) (f : Fr (fun _ => False) w W) => (f.cell (p := ⟨g, o + (i * 2 + 0), none⟩) hgl (fun h => h)).trans (hgc w rfl i 0 hil (by omega))
        have q1 := fun (W : World) (f : Fr (fun _ => False) w W) => (f.cell (p := ⟨g, o + (i * 2 + 1), none⟩) hgl (fun h => h)).trans (hgc w rfl i 1 hil (by omega))
        have q2 := fun (W : World) (f : Fr (fun _ => False) w W) => (f.cell (p := ⟨g, o + ((l.length - 1 - i) * 2 + 0), none⟩) hgl (fun h => h)).trans (hgc w rfl (l.length - 1 - i) 0 (by omega) (by omega))
        have q3 := fun (W : World) (f : Fr (fun _ => False) w W) => (f.cell (p := ⟨g, o + ((l.length - 1 - i) * 2 + 1), none⟩) hgl (fun h => h)).trans (hgc w rfl (l.length - 1 - i) 1 (by omega) (by omega))
        generalize nth l i = y at *
        generalize nth l (l.length - 1 - i) = y' at *
        obtain ⟨ya, yn⟩ := y
        obtain ⟨za, zn⟩ := y'
        obtain ⟨j, hj⟩ : ∃ j, j = l.length - 1 - i := ⟨_, rfl⟩
        rw [← hj] at q2 q3
        have hji : (l.length : Int) - 1 - (i : Int) = (j : Int) := by omega
        have hjl : j < l.length := by omega
        have HJ := Lib.hid hj
        clear hj
        simp only [Nt.cells, List.getElem?_cons_zero, List.getElem?_cons_succ, ← Nat.add_assoc, Nat.add_zero] at q0 q1 q2 q3 hx1 hx2
        have HQ := Lib.hid (And.intro q2 q3)
        have qa := fun c : Cls (fun _ => False) wr => q0 c.wo (hF.trans c.fr)
        have qb := fun c : Cls (fun _ => False) wr => q1 c.wo (hF.trans c.fr)
        have ra := q0 wr hF
        have rb := q1 wr hF
        have hgw := Nat.lt_of_lt_of_le hgl hF.size
        clear q0 q1 q2 q3 hgc
        go_wp2
        (refine wp_region_mix (fun w' => ∃ c : Cls (fun _ => False) wr, w' = c.wo) 11 (by kernel_rfl) (by kernel_rfl) (⟨⟨_, (Fr.refl _ _).drew⟩, rfl⟩) ?_; simp only [List.take_succ_cons, List.take_zero, List.drop_succ_cons, List.drop_zero])
        (refine wpMix_lateN 5 (⟨⟨_, (Fr.refl _ _).drew⟩, rfl⟩) (by kernel_rfl) ?_; simp only [List.take_succ_cons, List.take_zero, List.drop_succ_cons, List.drop_zero]; (repeat (go_big_quiet_step (fail))); refine wpQuiet_nil ?_)
        (refine wpMix_earlyN 5 (by kernel_rfl) (by kernel_rfl) ?_; simp only [List.take_succ_cons, List.take_zero, List.drop_succ_cons, List.drop_zero]; (repeat (go_big_quiet_step (fail))); refine wpQuiet_nil ?_)
        refine wpMix_eff (by kernel_rfl) ?_
        go_wp2_with (fail)
        refine (plc_any l ya yn (some ⟨g, o, none⟩) cl wr.drew (hLr.fr (S := fun _ => False) (Fr.refl _ _).drew (fun _ _ _ h => h)) (by omega) rfl).mono ?_
        rintro e5 w5 ⟨p, rfl, hF5, hp⟩
        have hF15 : Fr (fun _ => False) wr w5 := (Fr.refl (fun _ => False) wr).drew.trans hF5
        have hK5 := hK.fr0 hF15
        have hF05 := hF.trans hF15
        have hput := put_any ya yn p w5 hK5.s hx1 hF05.size
        clear qa qb ra rb hF5
        go_wp2
        refine ⟨⟨⟨_, hF15⟩, rfl⟩, ?_⟩
        refine wpMix_nil ?_
        go_wp2_with (fail)
        refine hput.mono ?_
        intro e6 w6 R6
        obtain ⟨v6, N6, C6, V6, rfl, hK6, hf6, hF06⟩ := putIs (M' := l.take (i + 1)) R6 hK5 hfs.out hp hm1.out (by simp; omega) (by simp; omega) hF05 (Nat.le_refl _)
        have HF6 := Lib.hid hf6
        have qa := fun c : Cls (fun _ => False) w6 => HQ.out.1 c.wo (hF06.trans c.fr)
        have qb := fun c : Cls (fun _ => False) w6 => HQ.out.2 c.wo (hF06.trans c.fr)
        have ra := HQ.out.1 w6 hF06
        have rb := HQ.out.2 w6 hF06
        have hgw6 := Nat.lt_of_lt_of_le hgl hF06.size
        have hLr6 := HL.out.fr hF06 (fun _ _ _ h => h)
        clear hput R6 hf6 hK5 hF05 hF15 hK hF hLr hp hgw
        go_wp2
        (refine wp_region_mix (fun w' => ∃ c : Cls (fun _ => False) w6, w' = c.wo) 11 (by kernel_rfl) (by kernel_rfl) (⟨⟨_, (Fr.refl _ _).drew⟩, rfl⟩) ?_; simp only [List.take_succ_cons, List.take_zero, List.drop_succ_cons, List.drop_zero])
        (refine wpMix_lateN 5 (⟨⟨_, (Fr.refl _ _).drew⟩, rfl⟩) (by kernel_rfl) ?_; simp only [List.take_succ_cons, List.take_zero, List.drop_succ_cons, List.drop_zero]; (repeat (go_big_quiet_step (fail))); refine wpQuiet_nil ?_)
        (refine wpMix_earlyN 5 (by kernel_rfl) (by kernel_rfl) ?_; simp only [List.take_succ_cons, List.take_zero, List.drop_succ_cons, List.drop_zero]; (repeat (go_big_quiet_step (fail))); refine wpQuiet_nil ?_)
        refine wpMix_eff (by kernel_rfl) ?_
        go_wp2_with (fail)
        refine (plc_any l za zn (some ⟨g, o, none⟩) cl w6.drew (hLr6.fr (S := fun _ => False) (Fr.refl _ _).drew (fun _ _ _ h => h)) (by omega) rfl).mono ?_
        rintro e7 w7 ⟨p, rfl, hF7, hp⟩
        have hF67 : Fr (fun _ => False) w6 w7 := (Fr.refl (fun _ => False) w6).drew.trans hF7
        have hK7 := hK6.fr0 hF67
        have hF07 := hF06.trans hF67
        have hput := put_any za zn p w7 hK7.t hx2 hF07.size
        clear qa qb ra rb hF7
        go_wp2
        refine ⟨⟨⟨_, hF67⟩, rfl⟩, ?_⟩
        refine wpMix_nil ?_
        go_wp2_with (fail)
        refine hput.mono ?_
        intro e8 w8 R8
        obtain ⟨v8, N8, C8, V8, rfl, hK8, hf8, hF08⟩ := putIt (M' := l.drop (l.length - (i + 1))) R8 hK7 hft.out hp hm2.out (by simp; omega) (by simp; omega) hF07 (Nat.le_refl _)
        have HF8 := Lib.hid hf8
        clear hput R8 hf8 hK7 hF07 hF67 hK6 hF06 hLr6 hp
        go_wp2
        go_roundw
        case rel => exact ⟨i + 1, N6, C6, V6, N8, C8, V8, by omega, by go_num, hK8, HF6, HF8, hF08⟩
        case measure => simp [intOf]; omega
      · obtain rfl : i = l.length := by omega
        have h1 := find_any x wr hK.s hx
        obtain ⟨hCC, hVV⟩ := filled_same hfs.out hft.out (fun y => by simp) hK.s.srt hK.t.srt
        subst hCC
        have hF1 := findV_same hVV x
        have h2 := fun (W : World) (f : Fr (fun _ => False) wr W) => find_any x W (hK.fr0 f).t hx
        rw [← hF1] at h2
        have h3 := fun (W : World) (f : Fr (fun _ => False) wr W) => list_any W (hK.fr0 f).s
        have h4 := fun (W : World) (f : Fr (fun _ => False) wr W) => list_any W (hK.fr0 f).t
        have hcl := hK.s.len
        have hgr := hg.none hF
        clear hfs hft hVV hF1 hK
        obtain ⟨fa, fl, fv, fe, hfv⟩ : ∃ (fa fl fv : Int) (fe : Option Int), findV C V x = .tuple #[.agg #[.int .u32 fa, .int .i64 fl], .int .i64 fv, errT fe] := by
          unfold findV
          cases deepK C x 33 with
          | none => exact ⟨0, 0, 0, some 2, rfl⟩
          | some k => exact ⟨cutA x k, k, V ⟨cutA x k, k⟩, none, rfl⟩
        rw [hfv] at h1 h2
        clear hfv
        obtain ⟨cs, hcs⟩ : ∃ cs : Nat, cs = C.length := ⟨_, rfl⟩
        rw [← hcs] at h3 h4 hcl
        have HCS := Lib.hid hcs
        clear hcs
        go_wp2_with (fail)
        refine h1.mono ?_
        rintro e5 w5 ⟨rfl, hF5⟩
        have hFa := hF5.alloc (.cells #[.int .u32 fa, .int .i64 fl] 37)
        have B5 := Blk.made w5 37 [.int .u32 fa, .int .i64 fl]
        clear h1 hF5
        obtain ⟨W5, hW5⟩ : ∃ W, W = w5.alloc (.cells #[.int .u32 fa, .int .i64 fl] 37) := ⟨_, rfl⟩
        rw [← hW5] at hFa B5
        have h2' := h2 _ hFa
        go_wp2_with (fail)
        rw [← hW5]
        refine h2'.mono ?_
        rintro e6 w6 ⟨rfl, hF6⟩
        have hF06 := hFa.trans hF6
        have hFb := hF6.alloc (.cells #[.int .u32 fa, .int .i64 fl] 37)
        have hFc := hF06.alloc (.cells #[.int .u32 fa, .int .i64 fl] 37)
        have B6 := Blk.made w6 37 [.int .u32 fa, .int .i64 fl]
        have B56 := B5.fr hFb (fun h => h)
        clear h2 h2' hW5 hFa B5 hF6 hF06 hFb
        obtain ⟨W6, hW6⟩ : ∃ W, W = w6.alloc (.cells #[.int .u32 fa, .int .i64 fl] 37) := ⟨_, rfl⟩
        rw [← hW6] at hFc B6 B56
        have ht := told2_any fe fe W6 (hgr.none hFc)
        go_wp2_with (fail)
        rw [← hW6]
        refine ht.mono ?_
        rintro e7 w7 ⟨rfl, hF7⟩
        rw [show (errN fe == errN fe) = true by simp]
        have hF07 := hFc.trans hF7
        have B67 := B6.fr hF7 (fun h => h)
        have B57 := B56.fr hF7 (fun h => h)
        clear ht hW6 hFc B6 B56 hF7
        have ha := h3 _ hF07
        go_wp2_with (fail)
        refine ha.mono ?_
        rintro e8 w8 ⟨a8, c8, ob8, rfl, hO8, hF8, -⟩
        have hF08 := hF07.trans hF8
        have B68 := B67.fr hF8 (fun h => h)
        have B58 := B57.fr hF8 (fun h => h)
        have hb := h4 _ hF08
        clear ha h3 h4 hF07 B67 B57 hF8
        go_wp2_with (fail)
        refine hb.mono ?_
        rintro e9 w9 ⟨a9, c9, ob9, rfl, hO9, hF9, -⟩
        have hF09 := hF08.trans hF9
        have B69 := B68.fr hF9 (fun h => h)
        have B59 := B58.fr hF9 (fun h => h)
        have hO89 := hO8.fr hF9 (fun _ _ h => h)
        have h10 := snets_any C C a8 a9 c8 c9 w9 (by show Rd _ _ _ _ _; rw [← HCS.out]; exact hO89.rd) (by show Rd _ _ _ _ _; rw [← HCS.out]; exact hO9.rd) (by rw [← HCS.out]; omega) (by rw [← HCS.out]; omega) HCS.out HCS.out
        rw [decide_eq_true rfl] at h10
        clear hb hF08 B68 B58 hF9 hO8 hO9 hO89
        go_wp2_with (fail)
        refine h10.mono ?_
        intro e11 w11 R11
        obtain ⟨rfl, hF11⟩ := R11.v
        have hFe := Lib.hid (hF.trans (hF09.trans hF11))
        have Bx := B69.fr hF11 (fun h => h)
        have By := B59.fr hF11 (fun h => h)
        have x0 := Bx.cell 0
        have x1 := Bx.cell 1
        have y0 := By.cell 0
        have y1 := By.cell 1
        have lx := Bx.lt
        have ly := By.lt
        simp only [List.getElem?_cons_zero, List.getElem?_cons_succ] at x0 x1 y0 y1
        clear h10 R11 hF09 hF11 Bx By B69 B59
        go_wp2
        go_ret
        exact RetV.mk rfl rfl hFe.out
end Go.Proofs.YtfjempfffdeklaaDoor
