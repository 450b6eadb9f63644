import Derived.Test.YtfglidaicjjpfaaGreatDoorQTel16
import Derived.Test.YtfglidaicjjpfaaGreatDoorInsLib
import Derived.Deep.CutBlock
import Derived.Deep.CutRange
section
namespace Go
theorem Rd.takeK {H : Array Obj} {a : Option Addr} {n sz : Nat} {xs : List Value} (h : Rd H a n sz xs) (k : Nat) (hk : k ≤ n) : Rd H a k sz (xs.take (k * sz)) := by
  have hl := h.len
  have hm : k * sz ≤ n * sz := Nat.mul_le_mul_right _ hk
  refine ⟨by rw [List.length_take, hl, Nat.min_eq_left hm], ?_⟩
  rcases h.at' with h1 | ⟨b, off, h1, h2, h3⟩
  · left; rw [h1]; simp
  · right
    refine ⟨b, off, h1, h2, fun w hw i hi => ?_⟩
    rw [List.length_take] at hi
    rw [h3 w hw i (by omega), List.getElem?_take, if_pos (by omega)]
theorem Rd.dropK {H : Array Obj} {b off n sz : Nat} {xs : List Value} (h : Rd H (some ⟨b, off, none⟩) n sz xs) (k : Nat) (hk : k ≤ n) : Rd H (some ⟨b, off + k * sz, none⟩) (n - k) sz (xs.drop (k * sz)) := by
  have hl := h.len
  refine ⟨by rw [List.length_drop, hl, Nat.sub_mul], ?_⟩
  rcases h.at' with h1 | ⟨b', off', h1, h2, h3⟩
  · left; rw [h1]; simp
  · cases h1
    right
    refine ⟨b, off + k * sz, rfl, h2, fun w hw i hi => ?_⟩
    rw [List.length_drop] at hi
    rw [Nat.add_assoc, h3 w hw (k * sz + i) (by omega), List.getElem?_drop]
end Go
namespace Go.Proofs.YtfglidaicjjpfaaGreatDoor
open Go.RowKit

theorem nt_flat_one (l : List Nt) : ∀ u ∈ l.flatMap Nt.cells, u.oneCell' = true := fun u hu => by
  obtain ⟨y, _, hy⟩ := List.mem_flatMap.1 hu
  exact nt_one y u hy
theorem ordered_step (l : List Nt) (i : Nat) (h : i < l.length) : ordered (l.take (i + 1)) = nIns (ordered (l.take i)) (nth l i) := by rw [take_succ_nth l i h, ordered_snoc]

/-- What stands at the end of a round of Ordered. -/
theorem ordered_rel (l : List Nt) (i : Nat) (a3 : Option Addr) (c3 : Nat) (ob3 : Option Nat) (w wc w2 w3 : World) (ob2 : Option Nat) (cA cB : List Value) (x : Nt) (n3 : Nat) (xs : List Value) (hil : i < l.length) (he : n3 = i + 1) (hxs : xs = cA ++ Nt.cells x ++ cB)
    (hS : cA ++ Nt.cells x ++ cB = (ordered (l.take (i + 1))).flatMap Nt.cells)
    (v1 : Ownd w3.heap 52 2 a3 n3 c3 xs ob3) (v2 : Fr (fun k => ob2 = some k) w2 w3) (v3 : ob3 = ob2 ∨ ∃ g, ob3 = some g ∧ w2.heap.size ≤ g)
    (hF : Fr (fun _ => False) w w2) (hN : ∀ g, ob2 = some g → wc.heap.size ≤ g) (hs : w.heap.size ≤ wc.heap.size) :
    ∃ (i' : Nat) (a : Option Addr) (c : Nat) (ob : Option Nat), i' ≤ l.length ∧ Value.int .i64 ((i : Int) + 1) = .int .i64 (i' : Nat) ∧ Value.slice a3 n3 c3 = .slice a i' c ∧ Ownd w3.heap 52 2 a i' c ((ordered (l.take i')).flatMap Nt.cells) ob ∧ Fr (fun _ => False) w w3 ∧ (∀ g, ob = some g → w.heap.size ≤ g) ∧ (i' = 0 → a = none ∧ c = 0) := by
  subst he
  rw [hxs, hS] at v1
  refine ⟨i + 1, a3, c3, ob3, by omega, rfl, rfl, v1, Fr.app hF v2 (fun g h => Nat.le_trans hs (hN g h)), fun g h => ?_, fun h => absurd h (by omega)⟩
  rcases v3 with v3 | ⟨g', v3, h4⟩
  · rw [v3] at h; exact Nat.le_trans hs (hN g h)
  · rw [v3] at h; cases h; exact Nat.le_trans hF.size h4

set_option maxRecDepth 100000 in
set_option maxHeartbeats 4000000 in
theorem ordered_any {n : Nat} (l : List Nt) (al : Option Addr) (cl : Nat) (w : World) (hL : Recs w.heap al 2 Nt.cells l) (hl : l.length ≤ 1000000) (hn : n = l.length) :
    Calls Tryz.prog 55 #[.slice al n cl] w (RetNew w 52 2 l.length ((ordered l).flatMap Nt.cells) id) := by
  subst hn
  go_enter Tryz.func55, Tryz.ntmps55
  go_wp2
  go_loopw [4, 3] (fun s4 s3 wr => ∃ (i : Nat) (a : Option Addr) (c : Nat) (ob : Option Nat), i ≤ l.length ∧ s4 = .int .i64 i ∧ s3 = .slice a i c ∧ Ownd wr.heap 52 2 a i c ((ordered (l.take i)).flatMap Nt.cells) ob ∧ Fr (fun _ => False) w wr ∧ (∀ g, ob = some g → w.heap.size ≤ g) ∧ (i = 0 → a = none ∧ c = 0)) (fun s _ _ => l.length - (intOf s).toNat)
  case atStart => exact ⟨0, none, 0, none, by omega, rfl, rfl, Ownd.nil _ _ _, Fr.refl _ _, (fun g h => nomatch h), fun _ => ⟨rfl, rfl⟩⟩
  case round =>
    obtain ⟨i, a, c, ob, hi, rfl, rfl, hO, hF, hN, hz⟩ := hrel
    by_cases hil : i < l.length
    · obtain ⟨bl, ol, rfl, hbl, hcl⟩ := Recs.pos hL Nt.cells_len (by omega) (by omega)
      have d0 := hcl w rfl i 0 hil (by omega)
      have d1 := hcl w rfl i 1 hil (by omega)
      have hst := ordered_step l i hil
      have hol : (ordered (l.take i)).length = i := by rw [ordered_len, List.length_take]; omega
      obtain ⟨x, hx⟩ : ∃ x, x = nth l i := ⟨_, rfl⟩
      rw [← hx] at d0 d1 hst
      generalize ordered (l.take i) = O at *
      obtain ⟨xa, xn⟩ := x
      simp only [Nt.cells, List.getElem?_cons_zero, List.getElem?_cons_succ, ← Nat.add_assoc, Nat.add_zero] at d0 d1
      have HST := Lib.hid hst
      have HOL := Lib.hid hol
      have haa : (a = none ∧ i = 0 ∧ c = 0) ∨ ∃ b off, a = some ⟨b, off, none⟩ := by
        by_cases hi0 : i = 0
        · exact .inl ⟨(hz hi0).1, hi0, (hz hi0).2⟩
        · obtain ⟨g, hg, -⟩ := hO.pos (by omega)
          exact .inr ⟨g, 0, hg⟩
      have hIle := nIdx_le O ⟨xa, xn⟩
      rw [hol] at hIle
      have hcap := hO.cap
      have HIN := Lib.hid (show nIns O ⟨xa, xn⟩ = O.take (nIdx O ⟨xa, xn⟩) ++ ⟨xa, xn⟩ :: O.drop (nIdx O ⟨xa, xn⟩) from rfl)
      clear hcl hx hst hol
      -- the place
      go_upto_block 2 with (fail)
      go_cut [5] from 7 to 46 (fun s5 wx => s5 = .int .i64 (nIdx O ⟨xa, xn⟩ : Nat) ∧ Fr (fun _ => False) wr wx)
      case first =>
        go_wp2
        go_loopw [5] (fun s5 wx => ∃ (k : Nat), k ≤ i ∧ s5 = .int .i64 k ∧ Fr (fun _ => False) wr wx ∧ Hid (∀ j, j < k → ntLt (nth O j) ⟨xa, xn⟩)) (fun s _ => i - (intOf s).toNat)
        case atStart => exact ⟨0, by omega, rfl, Fr.refl _ _, Lib.hid (fun j hj => absurd hj (Nat.not_lt_zero _))⟩
        case round =>
          obtain ⟨k, hk, rfl, hFx, hE⟩ := hrel
          have hFw := hF.trans hFx
          have e0 := (hFw.cell (p := ⟨bl, ol + i * 2, none⟩) hbl (fun h => h)).trans d0
          have e1 := (hFw.cell (p := ⟨bl, ol + i * 2 + 1, none⟩) hbl (fun h => h)).trans d1
          by_cases hki : k < i
          · obtain ⟨g, rfl, rfl, hg, hc, -⟩ := hO.pos (by omega)
            have p0 := (hFx.cell (p := ⟨g, k * 2 + 0, none⟩) hg (fun h => h)).trans ((hc (k * 2 + 0) (by omega)).trans (flat_get _ 2 Nt.cells_len _ _ _ (by rw [HOL.out]; exact hki) (by omega)))
            have p1 := (hFx.cell (p := ⟨g, k * 2 + 1, none⟩) hg (fun h => h)).trans ((hc (k * 2 + 1) (by omega)).trans (flat_get _ 2 Nt.cells_len _ _ _ (by rw [HOL.out]; exact hki) (by omega)))
            obtain ⟨y, hy⟩ : ∃ y, y = nth O k := ⟨_, rfl⟩
            rw [← hy] at p0 p1
            obtain ⟨ya, yn⟩ := y
            simp only [Nt.cells, List.getElem?_cons_zero, List.getElem?_cons_succ, Nat.add_zero] at p0 p1
            have HY := Lib.hid hy
            clear hc hy
            cases hah : lessB ya yn xa xn with
            | true =>
              have HA := Lib.hid (show ntLt ⟨ya, yn⟩ ⟨xa, xn⟩ from of_decide_eq_true hah)
              have HAH := Lib.hid hah
              clear hah
              go_wp2
              (refine wp_region_mix (fun _ => True) 13 (by kernel_rfl) (by kernel_rfl) (trivial) ?_; simp only [List.take_succ_cons, List.take_zero, List.drop_succ_cons, List.drop_zero])
              (refine wpMix_earlyN 13 (by kernel_rfl) (by kernel_rfl) ?_; simp only [List.take_succ_cons, List.take_zero, List.drop_succ_cons, List.drop_zero]; (repeat (go_big_quiet_step (fail))); refine wpQuiet_nil ?_)
              refine wpMix_nil ?_
              go_wp2_with (go_at_call 83; refine (rless_any ya yn xa xn _).mono ?_)
              intro e8 w8 R8
              rw [HAH.out] at R8
              obtain ⟨rfl, hF8⟩ := R8
              go_wp2
              go_roundw
              case rel => exact ⟨k + 1, by omega, by go_num, hFx.drew.trans hF8, Lib.hid (fun j hj => by
                rcases Nat.lt_succ_iff_lt_or_eq.1 hj with h | h
                · exact hE.out j h
                · subst h; rw [← HY.out]; exact HA.out)⟩
              case measure => simp [intOf]; omega
            | false =>
              have HK := Lib.hid (show nIdx O ⟨xa, xn⟩ = k from nIdx_unique O ⟨xa, xn⟩ k (by rw [HOL.out]; exact hk) hE.out (fun _ => by rw [← HY.out]; exact of_decide_eq_false hah))
              have HAH := Lib.hid hah
              clear hah
              go_wp2
              (refine wp_region_mix (fun _ => True) 13 (by kernel_rfl) (by kernel_rfl) (trivial) ?_; simp only [List.take_succ_cons, List.take_zero, List.drop_succ_cons, List.drop_zero])
              (refine wpMix_earlyN 13 (by kernel_rfl) (by kernel_rfl) ?_; simp only [List.take_succ_cons, List.take_zero, List.drop_succ_cons, List.drop_zero]; (repeat (go_big_quiet_step (fail))); refine wpQuiet_nil ?_)
              refine wpMix_nil ?_
              go_wp2_with (go_at_call 83; refine (rless_any ya yn xa xn _).mono ?_)
              intro e8 w8 R8
              rw [HAH.out] at R8
              obtain ⟨rfl, hF8⟩ := R8
              have hF9 := hFx.drew.trans hF8
              go_wp2
              go_meet
              case rel => exact ⟨by rw [HK.out], hF9⟩
          · have HK := Lib.hid (show nIdx O ⟨xa, xn⟩ = k from nIdx_unique O ⟨xa, xn⟩ k (by rw [HOL.out]; exact hk) hE.out (fun h => absurd h (by rw [HOL.out]; omega)))
            go_wp2
            (refine wp_region_mix (fun _ => True) 13 (by kernel_rfl) (by kernel_rfl) (trivial) ?_; simp only [List.take_succ_cons, List.take_zero, List.drop_succ_cons, List.drop_zero])
            (refine wpMix_earlyN 13 (by kernel_rfl) (by kernel_rfl) ?_; simp only [List.take_succ_cons, List.take_zero, List.drop_succ_cons, List.drop_zero]; (repeat (go_big_quiet_step (fail))); refine wpQuiet_nil ?_)
            refine wpMix_nil ?_
            go_wp2
            go_meet
            case rel => exact ⟨by rw [HK.out], hFx.drew⟩
      case rest =>
        obtain ⟨rfl, hFx⟩ := hcut
        have hFw := hF.trans hFx
        have e0 := (hFw.cell (p := ⟨bl, ol + i * 2, none⟩) hbl (fun h => h)).trans d0
        have e1 := (hFw.cell (p := ⟨bl, ol + i * 2 + 1, none⟩) hbl (fun h => h)).trans d1
        have hO1 := hO.fr hFx (fun _ _ h => h)
        have hNI := HIN.out
        generalize nIdx O ⟨xa, xn⟩ = I at *
        have hlt : ((O.take I).flatMap Nt.cells).length = I * 2 := by rw [flat_len _ _ Nt.cells_len, List.length_take, HOL.out]; omega
        have hrdA : Rd wc.heap a I 2 ((O.take I).flatMap Nt.cells) := by
          have := Rd.takeK hO1.rd I hIle
          rwa [flat_take Nt.cells 2 Nt.cells_len] at this
        have hrdB : ∀ b off, a = some ⟨b, off, none⟩ → Rd wc.heap (some ⟨b, off + I * 2, none⟩) (i - I) 2 ((O.drop I).flatMap Nt.cells) := fun b off h => by
          subst h
          have := Rd.dropK hO1.rd I hIle
          rwa [flat_drop Nt.cells 2 Nt.cells_len] at this
        have hrdC : c = I → Rd wc.heap a (i - I) 2 ((O.drop I).flatMap Nt.cells) := fun h => by
          have : I = i := by omega
          subst this
          rw [List.drop_of_length_le (by rw [HOL.out]; omega), Nat.sub_self]
          exact Rd.nil _ _ _
        have hsum : (O.take I).flatMap Nt.cells ++ Nt.cells ⟨xa, xn⟩ ++ (O.drop I).flatMap Nt.cells = (nIns O ⟨xa, xn⟩).flatMap Nt.cells := by rw [hNI]; simp
        have h1A := nt_flat_one (O.take I)
        have h1B := nt_flat_one (O.drop I)
        generalize (O.take I).flatMap Nt.cells = cA at *
        generalize (O.drop I).flatMap Nt.cells = cB at *
        rw [← HST.out] at hsum
        have HS := Lib.hid hsum
        have HN1 := Lib.hid hNI
        have HRA := Lib.hid hrdA
        have HRB := Lib.hid hrdB
        have HRC := Lib.hid hrdC
        have H1A := Lib.hid h1A
        have H1B := Lib.hid h1B
        clear hsum hNI hrdA hrdB hrdC h1A h1B HIN hlt d0 d1
        have hfirst : ∀ (w : World), Ownd w.heap 52 2 none 0 0 [] none := fun w => Ownd.nil _ _ _
        go_wp2_with (at_builtin; refine wpList_app rfl _ _ 23 rfl Tryz.underlying23 infoNt rfl (by decide) rfl rfl (hfirst _) HRA.out H1A.out (by omega) (by omega) ?_)
        intro a1 c1 w1 ob1 z1 z2 z3
        have hF1 : Fr (fun _ => False) wc w1 := z2.mono (fun _ _ h => by cases h)
        have hN1 : ∀ g, ob1 = some g → wc.heap.size ≤ g := fun g h => by
          rcases z3 with z3 | ⟨g', z3, h4⟩
          · rw [z3] at h; cases h
          · rw [z3] at h; cases h; exact h4
        have hsw := hFw.size
        have f0 := (hF1.cell (p := ⟨bl, ol + i * 2, none⟩) (show bl < wc.heap.size by omega) (fun h => h)).trans e0
        have f1 := (hF1.cell (p := ⟨bl, ol + i * 2 + 1, none⟩) (show bl < wc.heap.size by omega) (fun h => h)).trans e1
        clear z2 z3 e0 e1 hfirst
        have hrd := rd_lit w1 52 [.int .u32 xa, .int .i64 xn]
        go_wp2_with (at_builtin; refine wpList_app rfl _ _ 23 rfl Tryz.underlying23 infoNt rfl (by decide) rfl rfl (z1.alloc _) hrd (by simp [Value.oneCell']) (by omega) (by omega) ?_)
        intro a2 c2 w2 ob2 y1 y2 y3
        have hF2 : Fr (fun _ => False) wc w2 := Fr.app (hF1.alloc _) y2 (fun k hk => hN1 k hk)
        have hN2 : ∀ g, ob2 = some g → wc.heap.size ≤ g := fun g h => by
          rcases y3 with y3 | ⟨g', y3, h4⟩
          · rw [y3] at h; exact hN1 g h
          · rw [y3] at h; cases h; have := hF1.size; (try simp at h4); omega
        have HRB2 : Hid (∀ b off, a = some ⟨b, off, none⟩ → Rd w2.heap (some ⟨b, off + I * 2, none⟩) (i - I) 2 cB) := Lib.hid (fun b off h => (HRB.out b off h).fr hF2 (fun _ _ _ h => h))
        have HRC2 : Hid (c = I → Rd w2.heap a (i - I) 2 cB) := Lib.hid (fun h => (HRC.out h).fr hF2 (fun _ _ _ h => h))
        have hF2w := hFw.trans hF2
        clear y2 y3 hN1 hF1 f0 f1 hrd z1 HRA HRB HRC H1A hO1 hO
        have hend : I + 1 + (i - I) = i + 1 := by omega
        rcases haa with ⟨rfl, rfl, rfl⟩ | ⟨b, off, rfl⟩
        · obtain rfl : I = 0 := by omega
          have HRD := Lib.hid (HRC2.out rfl)
          go_wp2_with (at_builtin; refine wpList_app rfl _ _ 23 rfl Tryz.underlying23 infoNt rfl (by decide) rfl rfl y1 HRD.out H1B.out (by omega) (by omega) ?_)
          intro a3 c3 w3 ob3 v1 v2 v3
          clear HRD
          go_wp2
          go_roundw
          case rel => exact ordered_rel l 0 a3 c3 ob3 w wc w2 w3 ob2 cA cB ⟨xa, xn⟩ _ _ hil rfl (by simp [Nt.cells]) HS.out v1 v2 v3 hF2w hN2 hsw
          case measure => simp [intOf]; omega
        · by_cases hcI : c = I
          · have HRD := Lib.hid (HRC2.out hcI)
            go_wp2_with (at_builtin; refine wpList_app rfl _ _ 23 rfl Tryz.underlying23 infoNt rfl (by decide) rfl rfl y1 HRD.out H1B.out (by omega) (by omega) ?_)
            intro a3 c3 w3 ob3 v1 v2 v3
            clear HRD
            go_wp2
            go_roundw
            case rel => exact ordered_rel l i a3 c3 ob3 w wc w2 w3 ob2 cA cB ⟨xa, xn⟩ _ _ hil rfl (by simp [Nt.cells]) HS.out v1 v2 v3 hF2w hN2 hsw
            case measure => simp [intOf]; omega
          · have HRD := Lib.hid (HRB2.out b off rfl)
            go_wp2_with (at_builtin; refine wpList_app rfl _ _ 23 rfl Tryz.underlying23 infoNt rfl (by decide) rfl rfl y1 HRD.out H1B.out (by omega) (by omega) ?_)
            intro a3 c3 w3 ob3 v1 v2 v3
            clear HRD
            go_wp2
            go_roundw
            case rel => exact ordered_rel l i a3 c3 ob3 w wc w2 w3 ob2 cA cB ⟨xa, xn⟩ _ _ hil rfl (by simp [Nt.cells]) HS.out v1 v2 v3 hF2w hN2 hsw
            case measure => simp [intOf]; omega
    · obtain rfl : i = l.length := by omega
      rw [List.take_length] at hO
      go_wp2
      go_ret
      exact ⟨a, c, ob, rfl, hO, hF, hN⟩
end Go.Proofs.YtfglidaicjjpfaaGreatDoor
end
