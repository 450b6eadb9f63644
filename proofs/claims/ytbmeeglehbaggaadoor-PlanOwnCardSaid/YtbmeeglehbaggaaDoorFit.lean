import Derived.Test.YtbmeeglehbaggaaDoorPlan
namespace Go.Proofs.YtbmeeglehbaggaaDoor
open Go.RowKit

def fitE (a n : Int) (l : List Int) : Option Int := match roomE a n l with
  | some e => some e
  | none => if roomV n l < 0 then some 4 else none
def iotaN (n : Nat) : List Int := (List.range n).map Int.ofNat
theorem iotaN_succ (n : Nat) : iotaN (n + 1) = iotaN n ++ [(n : Int)] := by simp [iotaN, List.range_succ]
theorem iotaN_ok (n : Nat) : OkD n n (iotaN n) := ⟨by simp [iotaN], fun x hx => by simp [iotaN] at hx; obtain ⟨a, h, rfl⟩ := hx; omega⟩
/-- The nets so far, and where the next one begins. -/
def fitL (a : Int) (l d : List Int) : List Nt × Int := d.foldl (fun s i => (s.1.set i.toNat ⟨s.2 % 4294967296, nth l i.toNat⟩, s.2 + sizeN (nth l i.toNat))) (List.replicate l.length ⟨0, 0⟩, a)
def ordL (l : List Int) : List Int := stabD (ltI (keyI l)) (iotaN l.length) l.length
def fitO (a : Int) (l : List Int) : List Nt := (fitL a l (ordL l)).1
def RetFit (w : World) (a n : Int) (l : List Int) (e : Ending) (w' : World) : Prop := match fitE a n l with
  | some er => RetV w (.tuple #[.slice none 0 0, errv er]) e w'
  | none => RetNew w 38 2 l.length ((fitO a l).flatMap Nt.cells) (fun v => .tuple #[v, .nilIface]) e w'
theorem fitL_len (a : Int) (l d : List Int) : (fitL a l d).1.length = l.length := by
  unfold fitL
  have : ∀ (s : List Nt × Int), s.1.length = l.length → (d.foldl (fun s i => (s.1.set i.toNat ⟨s.2 % 4294967296, nth l i.toNat⟩, s.2 + sizeN (nth l i.toNat))) s).1.length = l.length := by
    induction d with
    | nil => exact fun s h => h
    | cons x d ih => exact fun s h => ih _ (by simpa using h)
  exact this _ (by simp)
theorem nt_set2 (L : List Nt) (i : Nat) (x : Nt) (h : i < L.length) : ((L.flatMap Nt.cells).set (i * 2) (.int .u32 x.a)).set (i * 2 + 1) (.int .i64 x.n) = (L.set i x).flatMap Nt.cells := by
  induction L generalizing i with
  | nil => simp at h
  | cons y L ih =>
    cases i with
    | zero => rfl
    | succ i =>
      have := ih i (by simpa using h)
      simp only [List.flatMap_cons, List.set_cons_succ]
      rw [← this, show (i + 1) * 2 = (i * 2) + 1 + 1 by omega]
      rfl
theorem RetFit.bad {w w' : World} {a n : Int} {l : List Int} {e : Ending} {er : Int} (h : fitE a n l = some er) (hr : RetV w (.tuple #[.slice none 0 0, errv er]) e w') : RetFit w a n l e w' := by
  unfold RetFit; rw [h]; exact hr
theorem RetFit.ok {w w' : World} {a n : Int} {l : List Int} {e : Ending} (h : fitE a n l = none) (hr : RetNew w 38 2 l.length ((fitO a l).flatMap Nt.cells) (fun v => .tuple #[v, .nilIface]) e w') : RetFit w a n l e w' := by
  unfold RetFit; rw [h]; exact hr

set_option maxRecDepth 100000 in
theorem ins_nil (bl : Nat) (w : World) : Calls Tryd.prog 79 #[.slice none 0 0, .int .i64 0, .int .i64 0, .func (.func 38) #[] #[.pointer (some ⟨bl, 0, none⟩)]] w (fun e w' => e = .returned (.tuple #[]) ∧ w = w') := by
  go_enter Tryd.func79, Tryd.ntmps79
  go_wp2
  go_loopw [8] (fun s8 wr => s8 = .int .i64 1 ∧ wr = w) (fun _ _ => 0)
  case atStart => exact ⟨rfl, rfl⟩
  case round =>
    obtain ⟨rfl, rfl⟩ := hrel
    go_wp2
    go_end0
    exact ⟨rfl, rfl⟩
set_option maxRecDepth 100000 in
theorem sortStable_nil (bl : Nat) (w : World) : Calls Tryd.prog 37 #[.slice none 0 0, .func (.func 38) #[] #[.pointer (some ⟨bl, 0, none⟩)]] w (fun e w' => e = .returned (.tuple #[]) ∧ w = w') := by
  have h0 : Calls Tryd.prog 64 #[.slice none 0 0, .int .i64 0, .func (.func 38) #[] #[.pointer (some ⟨bl, 0, none⟩)]] w (fun e w' => e = .returned (.tuple #[]) ∧ w = w') := by
    go_enter Tryd.func64, Tryd.ntmps64
    go_wp2
    go_loopw [7, 8] (fun s7 s8 wr => s7 = .int .i64 0 ∧ s8 = .int .i64 20 ∧ wr = w) (fun _ _ _ => 0)
    case atStart => exact ⟨rfl, rfl, rfl⟩
    case round =>
      obtain ⟨rfl, rfl, rfl⟩ := hrel
      go_wp2_with (fail)
      refine (ins_nil bl _).mono ?_
      rintro e1 w1 ⟨rfl, rfl⟩
      go_wp2
      go_loopw [6] (fun s6 wx => s6 = .int .i64 20 ∧ wx = wr) (fun _ _ => 0)
      case atStart => exact ⟨rfl, rfl⟩
      case round =>
        obtain ⟨rfl, rfl⟩ := hrel
        go_wp2
        go_end0
        exact ⟨rfl, rfl⟩
  go_enter Tryd.func37, Tryd.ntmps37
  go_wp2_with (fail)
  refine h0.mono ?_
  rintro e1 w1 ⟨rfl, rfl⟩
  go_wp2
  go_end0
  exact ⟨rfl, rfl⟩

set_option maxRecDepth 100000 in
set_option maxHeartbeats 4000000 in
theorem fit_any (a n : Int) (l : List Int) (al : Option Addr) (cl : Nat) (w : World) (ha : 0 ≤ a ∧ a < 4294967296) (hL : Ints w.heap al l) (hll : l.length ≤ 9223372036854775807) :
    Calls Tryd.prog 14 #[.agg #[.int .u32 a, .int .i64 n], .slice al l.length cl] w (RetFit w a n l) := by
  obtain ⟨w0, hw0⟩ : ∃ x : World, x = (w.alloc (.cells #[.int .u32 a, .int .i64 n] 38)).alloc (.cells #[.slice al l.length cl] 30) := ⟨_, rfl⟩
  have hF0 : Fr (fun _ => False) w w0 := hw0 ▸ (((Fr.refl (fun _ => False) w).alloc _).alloc _)
  have hL0 : Ints w0.heap al l := hL.fr hF0 (fun _ _ _ h => h)
  have hr := room_any a n l al cl w0 ha hL0 hll
  have hB0 : Blk w0.heap w.heap.size 38 [.int .u32 a, .int .i64 n] := by
    rw [hw0]; exact (Blk.made w 38 [.int .u32 a, .int .i64 n]).fr ((Fr.refl (fun _ => False) _).alloc _) (fun h => h)
  have hB1 : Blk w0.heap (w.heap.size + 1) 30 [.slice al l.length cl] := by
    rw [hw0]
    have := Blk.made (w.alloc (.cells #[.int .u32 a, .int .i64 n] 38)) 30 [.slice al l.length cl]
    simpa using this
  have HB0 := Lib.hid hB0
  have HB1 := Lib.hid hB1
  have HL := Lib.hid hL
  have HF0 := Lib.hid hF0
  clear hB0 hB1 hL0 hL hF0
  go_enter Tryd.func14, Tryd.ntmps14
  go_wp2_with (fail)
  rw [← hw0]
  clear hw0
  refine hr.mono ?_
  rintro e1 w1 ⟨rfl, hF1⟩
  clear hr
  have hF := HF0.out.trans hF1
  have hB0 := HB0.out.fr hF1 (fun h => h)
  have hB1 := HB1.out.fr hF1 (fun h => h)
  clear HB0 HB1 HF0 hF1
  cases hE : roomE a n l with
  | some er =>
    have HV := Lib.hid (show fitE a n l = some er by unfold fitE; rw [hE])
    rw [roomR_bad hE]
    clear hE
    go_wp2
    go_ret2
    exact RetFit.bad HV.out (RetV.mk (x := .tuple #[.slice none 0 0, errv er]) rfl rfl hF)
  | none =>
    rw [roomR_ok hE]
    by_cases hneg : roomV n l < 0
    · have HV := Lib.hid (show fitE a n l = some 4 by unfold fitE; rw [hE]; exact if_pos hneg)
      generalize roomV n l = r at *
      clear hE
      go_wp2
      go_ret2
      exact RetFit.bad HV.out (RetV.mk (x := .tuple #[.slice none 0 0, errv 4]) rfl rfl hF)
    · have HV := Lib.hid (show fitE a n l = none by unfold fitE; rw [hE]; exact if_neg hneg)
      have hb0 := hB0.cell 0
      have hb1 := hB1.cell 0
      simp only [List.getElem?_cons_zero] at hb0 hb1
      have hl64 : l.length ≤ 64 := by
        unfold roomE at hE; split at hE
        · cases hE
        · split at hE
          · cases hE
          · omega
      have HOK : Hid (∀ k ∈ l, 0 ≤ k ∧ k ≤ 32) := Lib.hid (by
        unfold roomE at hE; split at hE
        · cases hE
        · split at hE
          · cases hE
          · split at hE
            · assumption
            · cases hE)
      generalize roomV n l = r at *
      clear hE
      go_wp2
      go_loopw [28, 8] (fun s28 s8 wr => ∃ (k : Nat) (ao : Option Addr) (co : Nat) (ob : Option Nat), s28 = .int .i64 k ∧ s8 = .slice ao k co ∧ k ≤ l.length ∧ Ownd wr.heap 3 1 ao k co (ivals .i64 (iotaN k)) ob ∧ Fr (fun _ => False) w1 wr ∧ (∀ g, ob = some g → w1.heap.size ≤ g) ∧ (k = 0 → ao = none ∧ co = 0)) (fun s28 _ _ => l.length - (intOf s28).toNat)
      case atStart => exact ⟨0, none, 0, none, rfl, rfl, by omega, Ownd.nil _ _ _, Fr.refl _ _, (fun g h => nomatch h), fun _ => ⟨rfl, rfl⟩⟩
      case round =>
        obtain ⟨k, ao, co, ob, rfl, rfl, hk, hO, hFr, hN, hnil⟩ := hrel
        have hb0r := (hB0.fr hFr (fun h => h))
        have hb1r := (hB1.fr hFr (fun h => h))
        have hc0 := hb0r.cell 0
        have hc1 := hb1r.cell 0
        simp only [List.getElem?_cons_zero] at hc0 hc1
        by_cases hkn : k < l.length
        · have hrd := (Ownd.made wr 3 1 1 [.int .i64 (k : Int)] rfl (by decide)).rd
          go_wp2_with (at_builtin; refine wpList_app rfl _ _ 30 rfl Tryd.underlying30 infoInt rfl (by decide) rfl rfl (hO.alloc _) hrd (ivals_one .i64 [(k : Int)]) (by omega) (by omega) ?_)
          intro a' c' w6 ob' z1 z2 z3
          have e : ivals .i64 (iotaN k) ++ [.int .i64 (k : Int)] = ivals .i64 (iotaN (k + 1)) := by rw [iotaN_succ]; simp [ivals]
          rw [e] at z1
          have hF6 := Fr.app (hFr.alloc (.cells #[.int .i64 (k : Int)] 3)) z2 hN
          have hN6 : ∀ g, ob' = some g → w1.heap.size ≤ g := fun g h => by
            rcases z3 with z3 | ⟨g', z3, z4⟩
            · exact hN g (by rw [← z3, h])
            · rw [z3] at h; cases h
              have := hFr.size
              have z5 := Nat.le_of_succ_le (show wr.heap.size + 1 ≤ g by simpa using z4)
              omega
          clear z2 z3 e hrd hO hFr hb0r hb1r
          go_wp2
          go_roundw
          case rel => exact ⟨k + 1, a', c', ob', by go_num, rfl, hkn, z1, hF6, hN6, fun h => absurd h (Nat.succ_ne_zero k)⟩
          case measure => simp [intOf]; omega
        · obtain rfl : k = l.length := by omega
          by_cases hz : l.length = 0
          · have hl0 : l = [] := List.eq_nil_of_length_eq_zero hz
            obtain ⟨rfl, rfl⟩ := hnil hz
            have hFw := hF.trans hFr
            clear hO hnil hN hb0 hb1 hB0
            subst hl0
            have hs := sortStable_nil (w.heap.size + 1) wr
            have hHV := Lib.hid (show (fitO a []).flatMap Nt.cells = [] by
              rw [List.eq_nil_of_length_eq_zero (show (fitO a []).length = 0 from fitL_len a [] _)]; rfl)
            simp only [List.length_nil] at *
            go_wp2_with (fail)
            refine hs.mono ?_
            rintro e3 w3 ⟨rfl, rfl⟩
            clear hs
            go_wp2_with (at_make; refine wpList_mk rfl _ _ 40 rfl Tryd.underlying40 infoNt rfl 0 rfl rfl rfl rfl (by omega) (by omega) ?_)
            intro w4 hB4 hF4 hs4
            have hFn := Lib.hid (hFw.trans hF4)
            have hO4 := hB4.own (n := 0) (cap := 0) (sz := 2) (Nat.le_refl _) (by simp [maxLen]) (by simp)
            have HO4 := Lib.hid (show Ownd w4.heap 38 2 (some ⟨wr.heap.size, 0, none⟩) 0 0 ((fitO a []).flatMap Nt.cells) (some wr.heap.size) by rw [hHV.out]; simpa using hO4)
            have hb04 := hb0r.fr hF4 (fun h => h)
            have hc04 := hb04.cell 0
            simp only [List.getElem?_cons_zero] at hc04
            have hsz := Lib.hid hFw.size
            clear hO4 hB4 hF4 hFw hFr hF hb0r hb1r hc0 hc1 hHV
            go_wp2
            go_loopw [47] (fun s47 wx => s47 = .int .i64 0 ∧ wx = w4) (fun _ _ => 0)
            case atStart => exact ⟨rfl, rfl⟩
            case round =>
              obtain ⟨rfl, rfl⟩ := hrel
              go_wp2
              go_ret2
              exact RetFit.ok HV.out ⟨_, _, _, rfl, HO4.out, hFn.out, fun g' e => by cases e; exact hsz.out⟩
          · clear hnil
            obtain ⟨g, rfl, rfl, -, -, -⟩ := hO.pos (by omega)
            have hg := hN g rfl
            have hgne : ∀ k, k < w1.heap.size → k ≠ g := fun k hk => by omega
            have hLr : Ints wr.heap al l := HL.out.fr (hF.trans hFr) (fun _ _ _ h => h)
            have hlw := hB1.lt
            have hc := cmpOk_fit l al cl (w.heap.size + 1) g wr hb1r hLr hll (hgne _ hlw) (fun b off e => hgne b (by obtain ⟨b', off', e', h1, -⟩ := Ints.pos HL.out (by omega); rw [e'] at e; cases e; have := hF.size; omega))
            have hs := sortStable_any (keyI l) g (w.heap.size + 1) l.length co l.length (iotaN l.length) wr hc hO (iotaN_ok _) hl64
            have HD : Hid (stabD (ltI (keyI l)) (iotaN l.length) l.length = ordL l) := Lib.hid rfl
            generalize stabD (ltI (keyI l)) (iotaN l.length) l.length = d at *
            clear hc hO hLr
            go_wp2_with (fail)
            refine hs.mono ?_
            rintro e3 w3 ⟨rfl, hO3, hd3, hF3⟩
            clear hs
            have hb03 := hb0r.fr hF3 (by omega)
            have hb13 := hb1r.fr hF3 (by omega)
            have hc03 := hb03.cell 0
            have hc13 := hb13.cell 0
            simp only [List.getElem?_cons_zero] at hc03 hc13
            go_wp2_with (at_make; refine wpList_mk rfl _ _ 40 rfl Tryd.underlying40 infoNt rfl l.length rfl rfl rfl rfl (by omega) (by omega) ?_)
            intro w4 hB4 hF4 hs4
            have hO4 := hO3.fr hF4 (fun _ _ h => h)
            have hb04 := hb03.fr hF4 (fun h => h)
            have hb14 := hb13.fr hF4 (fun h => h)
            have hF34 : Fr (fun k => k = g) wr w4 := hF3.trans (hF4.none _)
            have hFw : Fr (fun _ => False) w w4 := (hF.trans hFr).trans' hF34 (fun i hi h => by have := hF.size; omega)
            have hgw3 : g < w3.heap.size := hO3.lt g rfl
            have HB4 : Hid (Blk w4.heap w3.heap.size 38 ((fitL a l (d.take 0)).1.flatMap Nt.cells)) := Lib.hid (hB4.eq (by show _ = (List.replicate l.length (⟨0, 0⟩ : Nt)).flatMap Nt.cells; rw [List.flatMap_def, List.map_replicate]))
            have HA0 : Hid (a = (fitL a l (d.take 0)).2) := Lib.hid rfl
            have hc04 := hb04.cell 0
            have hc14 := hb14.cell 0
            simp only [List.getElem?_cons_zero] at hc04 hc14
            clear hB4 hF3 hF4 hO3 hc03 hc13 hb03 hb13
            go_wp2
            go_loopw [47, 11] (fun s47 s11 wx => ∃ (k : Nat) (at' : Int), s47 = .int .i64 k ∧ s11 = .int .i64 at' ∧ k ≤ l.length ∧ 0 ≤ at' ∧ at' ≤ 4294967296 * ((k : Int) + 1) ∧ Hid (at' = (fitL a l (d.take k)).2) ∧ Blk wx.heap w3.heap.size 38 ((fitL a l (d.take k)).1.flatMap Nt.cells) ∧ Fr (fun k => k = w3.heap.size) w4 wx) (fun s47 _ _ => l.length - (intOf s47).toNat)
            case atStart => exact ⟨0, a, rfl, rfl, by omega, ha.1, by omega, HA0, HB4.out, Fr.refl _ _⟩
            case round =>
              clear HB4 HA0
              obtain ⟨k, q, rfl, rfl, hk, hq0, hq1, hQ, hB, hFx⟩ := hrel
              have hb05 := hb04.fr hFx (by have := hb04.lt; have := hF.size; have := hFr.size; omega)
              have hb15 := hb14.fr hFx (by omega)
              have hc05 := hb05.cell 0
              have hc15 := hb15.cell 0
              simp only [List.getElem?_cons_zero] at hc05 hc15
              have hO5 := hO4.fr hFx (fun g' e h => by cases e; omega)
              by_cases hkl : k < l.length
              · obtain ⟨g', e', -, hgs, hcs, -⟩ := hO5.pos (by omega)
                cases e'
                have d0 := (hcs k (by omega)).trans (ivals_get .i64 d k (by rw [hd3.len]; exact hkl))
                have hv := hd3.nth hkl
                have htk := take_succ_nth d k (by rw [hd3.len]; exact hkl)
                obtain ⟨v, hvv⟩ : ∃ v, v = nth d k := ⟨_, rfl⟩
                rw [← hvv] at d0 hv htk
                clear hcs hvv
                obtain ⟨i, rfl⟩ := Int.eq_ofNat_of_zero_le hv.1
                have hil : i < l.length := by omega
                obtain ⟨b, o, rfl, hb, hcl⟩ := Ints.pos HL.out (by omega)
                have hbx : b < w4.heap.size := Nat.lt_of_lt_of_le hb hFw.size
                have hbw : b < wr.heap.size := Nat.lt_of_lt_of_le hbx hFx.size
                have hbne : ¬ b = w3.heap.size := by have := hF.size; have := hFr.size; omega
                have d1 := (hFx.cell (p := ⟨b, o + i, none⟩) hbx hbne).trans ((hFw.cell (p := ⟨b, o + i, none⟩) hb (fun h => h)).trans (hcl w rfl i hil))
                have hm := HOK.out _ (nth_mem l i hil)
                have hst : fitL a l (d.take (k + 1)) = ((fitL a l (d.take k)).1.set i ⟨q % 4294967296, nth l i⟩, q + sizeN (nth l i)) := by
                  rw [htk, fitL, List.foldl_append, ← fitL, hQ.out]; rfl
                obtain ⟨v, hvv⟩ : ∃ v, v = nth l i := ⟨_, rfl⟩
                rw [← hvv] at d1 hm hst
                clear hcl hvv htk hv
                obtain ⟨p, rfl⟩ := Int.eq_ofNat_of_zero_le hm.1
                have hp32 : p ≤ 32 := by omega
                obtain ⟨S1, hS1⟩ : ∃ s, s = sizeN p := ⟨_, rfl⟩
                have hb1 : 1 ≤ S1 ∧ S1 ≤ 4294967296 := hS1 ▸ sizeN_bd ⟨by omega, by omega⟩
                have HW1 := Lib.hid (show wrap64 (2 ^ (32 - p)) = S1 by rw [hS1, sizeN_nat hp32] at *; exact wrap64_of hb1)
                have k1 : 0 ≤ q + S1 ∧ q + S1 ≤ 4294967296 * (((k + 1 : Nat) : Int) + 1) := by omega
                have HK := Lib.hid k1
                have HWR := Lib.hid (show wrap64 (q + S1) = q + S1 from wrap64_in (by omega))
                rw [← hS1] at hst
                have HST := Lib.hid hst
                have hlen : (fitL a l (d.take k)).1.length = l.length := fitL_len a l _
                have HS := Lib.hid ((hB.set (i * 2) (.int .u32 (q % 4294967296))).set (i * 2 + 1) (.int .i64 p))
                have f0 := hB.frozen (i * 2)
                have f1 := hB.frozen (i * 2 + 1)
                have c0 := (hB.cell (i * 2 + 0)).trans (flat_get Nt.cells 2 Nt.cells_len _ i 0 (by omega) (by omega))
                have c1 := (hB.cell (i * 2 + 1)).trans (flat_get Nt.cells 2 Nt.cells_len _ i 1 (by omega) (by omega))
                generalize nth (fitL a l (d.take k)).1 i = y at c0 c1
                simp only [Nt.cells, List.getElem?_cons_zero, List.getElem?_cons_succ, Nat.add_zero] at c0 c1
                have hBl := hB.lt
                clear k1 hb1 hS1 hst hB hQ hm
                have HFN := Lib.hid ((hFx.setCell (p := ⟨w3.heap.size, i * 2, none⟩) (fun _ => rfl) (.int .u32 (q % 4294967296))).setCell (p := ⟨w3.heap.size, i * 2 + 1, none⟩) (fun _ => rfl) (.int .i64 p))
                go_wp2
                go_roundw
                case rel => exact ⟨k + 1, q + S1, by go_num, by rw [HW1.out, HWR.out], hkl, HK.out.1, HK.out.2, Lib.hid (by rw [HST.out]), HS.out.eq (by rw [HST.out]; exact nt_set2 _ i ⟨_, _⟩ (by rw [hlen]; exact hil)), HFN.out⟩
                case measure => simp [intOf]; omega
              · obtain rfl : k = l.length := by omega
                have HR := Lib.hid (show (fitL a l (d.take l.length)).1 = fitO a l by rw [fitO, ← HD.out, List.take_of_length_le (by rw [hd3.len]; exact Nat.le_refl _)])
                have HFN := Lib.hid (hFw.trans' hFx (fun i hi h => by have := hF.size; have := hFr.size; omega))
                have hOO := hB.own (n := l.length) (cap := l.length) (sz := 2) (Nat.le_refl _) (by simp [maxLen]; omega) (by rw [flat_len Nt.cells 2 Nt.cells_len, fitL_len])
                rw [List.take_of_length_le (by rw [flat_len Nt.cells 2 Nt.cells_len, fitL_len]; exact Nat.le_refl _), HR.out] at hOO
                have HOO := Lib.hid hOO
                clear hOO
                clear hB hFx
                go_wp2
                go_ret2
                exact RetFit.ok HV.out ⟨_, _, _, rfl, HOO.out, HFN.out, fun g' e => by cases e; have := hF.size; have := hFr.size; omega⟩

end Go.Proofs.YtbmeeglehbaggaaDoor
