import Derived.Test.YtakkljdeencfbaaAsyncS
namespace Go.Proofs.Ytakkljdeencfbaa
open Go.RowKit

/-- How far by what was heard, of the first k. -/
def farV (c h : List Int) (b : Nat) : Nat → Int
  | 0 => 16
  | k + 1 => if k ≠ b ∧ nth c k < 16 then min (farV c h b k) (wrap64 (nth c k + nth h k)) else farV c h b k
/-- What comes of taking. -/
def takeE (n : Nat) (C : Nat → List Int) (q : Nat → Nat → List Int) (a b : Int) : Option Int :=
  match nearE n C a b with
  | some k => some k
  | none => if (q a.toNat b.toNat).length = 0 then some 2 else none
def takeV (n : Nat) (C : Nat → List Int) (q : Nat → Nat → List Int) (a b : Int) : Int :=
  match takeE n C q a b with
  | some _ => 0
  | none => nth (q a.toNat b.toNat) 0
def takeH (n : Nat) (C hd : Nat → List Int) (q : Nat → Nat → List Int) (a b : Int) : Nat → List Int :=
  match takeE n C q a b with
  | some _ => hd
  | none => ANet.upd hd b.toNat ((hd b.toNat).set a.toNat (nth (q a.toNat b.toNat) 0))
def takeQ (n : Nat) (C : Nat → List Int) (q : Nat → Nat → List Int) (a b : Int) : Nat → Nat → List Int :=
  match takeE n C q a b with
  | some _ => q
  | none => ANet.upd q a.toNat (ANet.upd (q a.toNat) b.toNat (q a.toNat b.toNat).tail)
def takeF (n : Nat) (to : Int) (C hd : Nat → List Int) (f : List Int) (q : Nat → Nat → List Int) (a b : Int) : List Int :=
  match takeE n C q a b with
  | some _ => f
  | none => if b = to then f else f.set b.toNat (farV (C b.toNat) (takeH n C hd q a b b.toNat) b.toNat n)
def TakePost (base sb n : Nat) (to : Int) (C hd' : Nat → List Int) (f' : List Int) (q' : Nat → Nat → List Int) (er : Option Int) (v : Int) (w : World) (e : Ending) (w' : World) : Prop :=
  e = .returned (.tuple #[.int .i64 v, errO er]) ∧ (∃ L', ANet w'.heap base sb n n n to C hd' f' q' L') ∧ Fr (fun g => base ≤ g) w w'
set_option maxRecDepth 100000 in
set_option maxHeartbeats 2000000 in
theorem take_any {base sb n : Nat} {to : Int} {C hd : Nat → List Int} {f : List Int} {q : Nat → Nat → List Int} {L : AL} {w : World} (a b : Int) (h : ANet w.heap base sb n n n to C hd f q L) (hbase : base ≤ w.heap.size) :
    Calls Try.prog 13 #[.pointer (some ⟨sb, 0, none⟩), .int .i64 a, .int .i64 b] w (TakePost base sb n to C (takeH n C hd q a b) (takeF n to C hd f q a b) (takeQ n C q a b) (takeE n C q a b) (takeV n C q a b) w) := by
  obtain ⟨Q', hQ'⟩ : ∃ x, x = takeQ n C q a b := ⟨_, rfl⟩
  obtain ⟨E', hE'⟩ : ∃ x, x = takeE n C q a b := ⟨_, rfl⟩
  obtain ⟨F', hF'⟩ : ∃ x, x = takeF n to C hd f q a b := ⟨_, rfl⟩
  obtain ⟨H', hH'⟩ : ∃ x, x = takeH n C hd q a b := ⟨_, rfl⟩
  obtain ⟨V', hV'⟩ : ∃ x, x = takeV n C q a b := ⟨_, rfl⟩
  rw [← hQ', ← hE', ← hF', ← hH', ← hV']
  have HQ := Lib.hid hQ'
  have HE := Lib.hid hE'
  have HF := Lib.hid hF'
  have HH := Lib.hid hH'
  have HV := Lib.hid hV'
  clear hQ' hE' hF' hH' hV'
  have hn := h.n8
  go_enter Try.func13, Try.ntmps13
  go_wp2_with (fail)
  refine (near_any a b h).mono ?_
  rintro e1 w1 ⟨rfl, hF1⟩
  have h1 := h.fr0 hF1
  cases hne : nearE n C a b with
  | some k =>
    have hX : takeE n C q a b = some k := by unfold takeE; rw [hne]
    have G1 := Lib.hid (HE.out.trans hX)
    have G2 := Lib.hid (HQ.out.trans (by unfold takeQ; rw [hX]))
    have G3 := Lib.hid (HF.out.trans (by unfold takeF; rw [hX]))
    have G4 := Lib.hid (HH.out.trans (by unfold takeH; rw [hX]))
    have G5 := Lib.hid (HV.out.trans (by unfold takeV; rw [hX]))
    have H3 := Lib.hid h1
    clear hne hX h h1
    rw [show errO (some k) = errv k from rfl]
    go_wp2
    go_ret2
    rw [G1.out, G2.out, G3.out, G4.out, G5.out]
    exact ⟨rfl, ⟨_, H3.out⟩, hF1.none _⟩
  | none =>
    rw [show errO none = .nilIface from rfl]
    obtain ⟨ha, hb, -⟩ := nearE_none hne
    obtain ⟨i, rfl⟩ := Int.eq_ofNat_of_zero_le ha.1
    obtain ⟨k, rfl⟩ := Int.eq_ofNat_of_zero_le hb.1
    have hi : i < n := by omega
    have hk : k < n := by omega
    obtain ⟨-, -, c2, -, -⟩ := h1.cells
    obtain ⟨g, hwt, hg, hwtb, d1, hwr, hd2, hfz⟩ := h1.rowW hi
    have d2 := hd2 k hk
    rw [hwt] at c2
    have hO := h1.qO i k hi hk
    have h20 := h1.q20 i k hi hk
    have hE0 : takeE n C q i k = if (q i k).length = 0 then some 2 else none := by unfold takeE; rw [hne]; rfl
    by_cases hz : (q i k).length = 0
    · have hX := hE0.trans (if_pos hz)
      have G1 := Lib.hid (HE.out.trans hX)
      have G2 := Lib.hid (HQ.out.trans (by unfold takeQ; rw [hX]))
      have G3 := Lib.hid (HF.out.trans (by unfold takeF; rw [hX]))
      have G4 := Lib.hid (HH.out.trans (by unfold takeH; rw [hX]))
      have G5 := Lib.hid (HV.out.trans (by unfold takeV; rw [hX]))
      have H3 := Lib.hid h1
      have e0 : (((q i k).length : Int) == 0) = true := by simp [hz]
      clear hne hX h h1 hE0 hd2 hfz hwt hz
      go_wp2
      go_ret2
      rw [G1.out, G2.out, G3.out, G4.out, G5.out]
      exact ⟨rfl, ⟨_, H3.out⟩, hF1.none _⟩
    · have hX := hE0.trans (if_neg hz)
      have G1 := Lib.hid (HE.out.trans hX)
      obtain ⟨d, tl, hq⟩ : ∃ d tl, q i k = d :: tl := by
        cases hqq : q i k with
        | nil => rw [hqq] at hz; exact absurd rfl hz
        | cons d tl => exact ⟨d, tl, rfl⟩
      have G2 := Lib.hid (HQ.out.trans (show takeQ n C q i k = ANet.upd q i (ANet.upd (q i) k tl) by unfold takeQ; rw [hX]; simp [hq]))
      have hth : takeH n C hd q i k = ANet.upd hd k ((hd k).set i d) := by unfold takeH; rw [hX]; simp [hq, nth]
      have G3 := Lib.hid (HF.out.trans (show takeF n to C hd f q i k = if (k : Int) = to then f else f.set k (farV (C k) ((hd k).set i d) k n) by unfold takeF; rw [hX]; simp only [Int.toNat_natCast]; rw [hth, ANet.upd_same]))
      have G4 := Lib.hid (HH.out.trans hth)
      have G5 := Lib.hid (HV.out.trans (show takeV n C q i k = d by unfold takeV; rw [hX]; simp [hq, nth]))
      have e0 : (((q i k).length : Int) == 0) = false := by simpa using hz
      rw [hq] at hO h20
      have hql : (q i k).length = tl.length + 1 := by rw [hq]; rfl
      rw [hql] at d2 e0
      obtain ⟨gq, hqa, hqb, hgq, hqc, -⟩ := hO.pos (by simp)
      have dq := hqc 0 (by simp)
      simp only [ivals, List.map_cons, List.getElem?_cons_zero] at dq
      rw [hqa] at d2 hO
      have hcap := hO.cap
      have hrd : Ints w1.heap (some ⟨gq, 0, none⟩) (d :: tl) := hO.rd
      have hrd1 := hrd.drop 1
      simp only [List.drop_succ_cons, List.drop_zero] at hrd1
      have hlo1 : ∀ g, L.qb i k = some g → base ≤ g := fun g hg => h1.lo g (by rw [h1.rq i k g hi hk hg]; omega)
      have hlo2 : base ≤ L.wr i := h1.lo _ (by rw [h1.rwr i hi]; omega)
      have hbase1 : base ≤ w1.heap.size := Nat.le_trans hbase hF1.size
      have H3 := Lib.hid h1
      have HFZ := Lib.hid hfz
      simp only [List.length_cons] at h20 hcap
      have hro : ∀ x y r t, L.role x = r → L.role y = t → r ≠ t → x ≠ y := fun x y r t hx hy hrt e => hrt (by rw [← hx, ← hy, e])
      obtain ⟨gh, hht, hgh, m1, hhr, -, hhf⟩ := h1.rowH hk
      obtain ⟨gc, hct, hgc, m2, hcr, -⟩ := h1.rowC hk
      obtain ⟨-, hfb, hfc, hff⟩ := h1.rowF
      obtain ⟨c0, c1, -, c3, c4⟩ := h1.cells
      obtain ⟨gh', hht', hghb, -, -, -⟩ := h1.hT.pos (by omega)
      obtain ⟨gc', hct', hgcb, -, -, -⟩ := h1.cT.pos (by omega)
      rw [hht] at hht'
      cases hht'
      rw [hct] at hct'
      cases hct'
      have r1 := h1.rs
      have r2 := h1.rct _ hgcb
      have r3 := h1.rht _ hghb
      have r4 := h1.rf
      have r5 := h1.rcr k hk
      have r6 := h1.rwr i hi
      have r7 := h1.rhr k hk
      have x1 := hro _ _ _ _ r1 r6 (by omega)
      have x2 := hro _ _ _ _ r3 r6 (by omega)
      have x3 := hro _ _ _ _ r7 r6 (by omega)
      have x4 := hro _ _ _ _ r4 r6 (by omega)
      have x5 := hro _ _ _ _ r2 r6 (by omega)
      have x6 := hro _ _ _ _ r5 r6 (by omega)
      have y1 := hro _ _ _ _ r1 r7 (by omega)
      have y2 := hro _ _ _ _ r4 r7 (by omega)
      have y3 := hro _ _ _ _ r2 r7 (by omega)
      have y4 := hro _ _ _ _ r5 r7 (by omega)
      have z1 := hro _ _ _ _ r1 r4 (by omega)
      have z2 := hro _ _ _ _ r2 r4 (by omega)
      have z3 := hro _ _ _ _ r5 r4 (by omega)
      have hlo3 : base ≤ L.hr k := h1.lo _ (by rw [r7]; omega)
      have hlo4 : base ≤ L.fb := h1.lo _ (by rw [r4]; omega)
      have hsb := h1.sB.lt
      have dh : w1.cell? ⟨L.hr k, i, none⟩ = some (.int .i64 (nth (hd k) i)) := by
        obtain ⟨_, -, -, -, -, h, -⟩ := h1.rowH hk
        exact h i hi
      have df := hfc k hk
      have ff := hff k
      have fh := hhf i
      have fw := HFZ.out k
      rw [hht] at c3
      rw [hct] at c1
      have hA : (L.qc i k = 1 ∧ tl = []) ∨ ¬ L.qc i k = 1 := by
        by_cases h : L.qc i k = 1
        · exact .inl ⟨h, List.length_eq_zero_iff.1 (by omega)⟩
        · exact .inr h
      clear hne hX h h1 hE0 hwt hd2 hfz hz hq hql hth hqc hro r1 r2 r3 r4 r5 r6 r7 hfc hff hhf
      rcases hA with ⟨hA, rfl⟩ | hA
      all_goals
        go_wp2_with (fail)
        first
        | refine (clone_int (some ⟨gq, 1, none⟩) tl (L.qc i k - 1) w1 (by omega) hrd1 (by intro h; cases h)).mono ?_
        | refine (clone_int (some ⟨gq, 0, none⟩) [] 0 w1 (by simp) (Rd.nil _ _ _) (by intro h; cases h)).mono ?_
        rintro e2 w2 ⟨a2, c2', ob2, rfl, hO2, hF2, hN2⟩
        have hP2 := Lib.hid (ANet.setQ H3.out hi hk (hF2.none _) hO2 (.inr hN2) (by omega) hbase1)
        have hF02 : Fr (fun g => base ≤ g) w w2 := (hF1.trans hF2).none _
        have mv : ∀ (x : Nat) (y : Nat) (v : Value), x < w1.heap.size → w1.cell? ⟨x, y, none⟩ = some v → w2.cell? ⟨x, y, none⟩ = some v := fun x y v hx h => (hF2.cell (p := ⟨x, y, none⟩) hx (fun h => h)).trans h
        have mf : ∀ (x : Nat) (y : Nat), x < w1.heap.size → w1.frozen? ⟨x, y, none⟩ = false → w2.frozen? ⟨x, y, none⟩ = false := fun x y hx h => (hF2.frozen (p := ⟨x, y, none⟩) hx (fun h => h)).trans h
        have ml : ∀ x : Nat, x < w1.heap.size → x < w2.heap.size := fun x hx => Nat.lt_of_lt_of_le hx hF2.size
        have k0 := mv _ _ _ hsb c0
        have k1 := mv _ _ _ hsb c1
        have k3 := mv _ _ _ hsb c3
        have k4 := mv _ _ _ hsb c4
        have k5 := mv _ _ _ hgh m1
        have k6 := mv _ _ _ hgc m2
        have k7 := mv _ _ _ hhr dh
        have k8 := mv _ _ _ hfb df
        have k9 := mv _ _ _ hwr d2
        have l1 := mf _ _ hwr fw
        have l2 := mf _ _ hhr fh
        have l3 := mf _ _ hfb ff
        have s1 := ml _ hsb
        have s2 := ml _ hgh
        have s3 := ml _ hgc
        have s4 := ml _ hhr
        have s5 := ml _ hfb
        have s6 := ml _ hwr
        have s7 := ml _ hcr
        clear mv mf ml hO2 c0 c1 c3 c4 m1 m2 dh df d2 fw fh ff hrd hrd1 hO
        have hP3 := Lib.hid (hP2.out.setH k hk i d)
        have hF12 : Fr (fun g => base ≤ g) w1 w2 := hF2.none _
        have hF3 : ∀ v : Value, Fr (fun g => base ≤ g) w ((w2.setCell ⟨L.wr i, k, none⟩ v).setCell ⟨L.hr k, i, none⟩ (.int .i64 d)) := fun v => (hF02.setCell (fun _ => hlo2) _).setCell (fun _ => hlo3) _
        have HF3 := Lib.hid hF3
        by_cases hto : (k : Int) = to
        · have G6 := Lib.hid (G3.out.trans (if_pos hto))
          have e1 : ((k : Int) != to) = false := by simp [hto]
          clear hto hF3
          go_wp2
          go_ret2
          rw [G1.out, G2.out, G6.out, G4.out, G5.out]
          exact ⟨rfl, ⟨_, hP3.out⟩, HF3.out _⟩
        · have G6 := Lib.hid (G3.out.trans (if_neg hto))
          have e1 : ((k : Int) != to) = true := by simpa using hto
          have hP4 := Lib.hid (hP3.out.setF k 16)
          have hF4 := Lib.hid (fun v => (HF3.out v).setCell (p := ⟨L.fb, k, none⟩) (fun _ => hlo4) (.int .i64 16))
          clear hto hF3
          go_wp2
          go_loopw [77] (fun s77 wr => ∃ j : Nat, s77 = .int .i64 j ∧ j ≤ n ∧ Hid (ANet wr.heap base sb n n n to C (ANet.upd hd k ((hd k).set i d)) (f.set k (farV (C k) ((hd k).set i d) k j)) (ANet.upd q i (ANet.upd (q i) k _)) (L.putQ i k a2 c2' ob2)) ∧ Fr (fun g => base ≤ g) w wr) (fun s _ => n - (intOf s).toNat)
          case atStart => exact ⟨0, rfl, by omega, hP4.out, hF4.out _⟩
          case round =>
            clear k0 k1 k3 k4 k5 k6 k7 k8 k9 l1 l2 l3 s1 s2 s3 s4 s5 s6 s7 hF02 hF12
            obtain ⟨j, rfl, hj, hA, hF⟩ := hrel
            by_cases hjn : j < n
            · obtain ⟨-, c1, -, c3, c4⟩ := hA.out.cells
              obtain ⟨gc', -, -, -, -, hcv⟩ := hA.out.rowC hk
              obtain ⟨gh', hht', -, m1, -, hhv, -⟩ := hA.out.rowH hk
              obtain ⟨hfl, -, hfc, hff⟩ := hA.out.rowF
              have dc : wr.cell? ⟨L.cr k, j, none⟩ = some (.int .i64 (nth (C k) j)) := hcv j hjn
              have dh := hhv j hjn
              have df := hfc k hk
              have ff := hff k
              rw [ANet.upd_same] at dh
              rw [nth_set _ _ _ _ (by rw [List.length_set] at hfl; omega), if_pos rfl] at df
              rw [hht'] at c3
              have hfv : farV (C k) ((hd k).set i d) k (j + 1) = if j ≠ k ∧ nth (C k) j < 16 then min (farV (C k) ((hd k).set i d) k j) (wrap64 (nth (C k) j + nth ((hd k).set i d) j)) else farV (C k) ((hd k).set i d) k j := rfl
              have hset := fun v => (hA.out.setF k v)
              have hset2 := Lib.hid (fun v => (by have := hset v; rw [List.set_set] at this; exact this : ANet _ base sb n n n to C _ (f.set k v) _ _))
              obtain ⟨V, hV⟩ : ∃ V, V = farV (C k) ((hd k).set i d) k j := ⟨_, rfl⟩
              rw [← hV] at df hfv
              have HFV := Lib.hid hfv
              have HV2 := Lib.hid hV
              clear hcv hhv hfc hff hfv hV hset
              generalize nth (C k) j = cc at *
              generalize nth ((hd k).set i d) j = hh at *
              have HSK : ¬ (j ≠ k ∧ cc < 16) → Hid (ANet wr.heap base sb n n n to C (ANet.upd hd k ((hd k).set i d)) (f.set k (farV (C k) ((hd k).set i d) k (j + 1))) (ANet.upd q i (ANet.upd (q i) k _)) (L.putQ i k a2 c2' ob2)) := fun hno => Lib.hid (by
                rw [HFV.out, if_neg hno, HV2.out]
                exact hA.out)
              have HSK' := Lib.hid HSK
              clear HSK
              by_cases hjk : j = k
              · have hX := Lib.hid (HSK'.out (fun h => h.1 hjk))
                have e2 : ((j : Int) != (k : Int)) = false := by simp [hjk]
                clear hjk
                go_wp2
                go_roundw
                case rel => exact ⟨j + 1, by go_num, by omega, hX.out, hF⟩
                case measure => simp [intOf]; omega
              · have e2 : ((j : Int) != (k : Int)) = true := by simp; omega
                by_cases hc : cc < 16
                · have e3 : decide (cc < 16) = true := by simpa using hc
                  have hX := Lib.hid (HFV.out.trans (if_pos ⟨hjk, hc⟩))
                  clear hjk hc
                  go_wp2
                  (refine wp_region_mix (fun _ => True) 25 (by kernel_rfl) (by kernel_rfl) (trivial) ?_; simp only [List.take_succ_cons, List.take_zero, List.drop_succ_cons, List.drop_zero])
                  (refine wpMix_earlyN 25 (by kernel_rfl) (by kernel_rfl) ?_; simp only [List.take_succ_cons, List.take_zero, List.drop_succ_cons, List.drop_zero]; (repeat (go_big_quiet_step (fail))); refine wpQuiet_nil ?_)
                  refine wpMix_nil ?_
                  go_wp2
                  refine ⟨⟨j + 1, by simp, by omega, ?_, (hF.setCell (fun _ => hlo4) _).drew⟩, by simp [intOf]; omega⟩
                  have hx1 := hset2.out (if wrap64 (cc + hh) < V then wrap64 (cc + hh) else V)
                  have hmn : min V (wrap64 (cc + hh)) = if wrap64 (cc + hh) < V then wrap64 (cc + hh) else V := by rw [Int.min_def]; split <;> split <;> omega
                  exact Lib.hid (by rw [hX.out, hmn]; exact hx1)
                · have e3 : decide (cc < 16) = false := by simpa using hc
                  have hX := Lib.hid (HSK'.out (fun h => hc h.2))
                  clear hjk hc
                  go_wp2
                  go_roundw
                  case rel => exact ⟨j + 1, by go_num, by omega, hX.out, hF⟩
                  case measure => simp [intOf]; omega
            · obtain rfl : j = n := by omega
              go_wp2
              go_ret2
              rw [G1.out, G2.out, G6.out, G4.out, G5.out]
              exact ⟨rfl, ⟨_, hA.out⟩, hF⟩
end Go.Proofs.Ytakkljdeencfbaa
