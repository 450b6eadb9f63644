import Derived.Test.YtfjempfffdeklaaDoorLineNew
import Derived.Test.YtfjempfffdeklaaDoorGOk
namespace Go.Proofs.YtfjempfffdeklaaDoor
open Go.RowKit

abbrev costF (n : Nat) (l : List Lk) (i k : Nat) : Int := at2 (costsM n l) i k
theorem th_set2 (L : List Th) (i : Nat) (x : Th) (h : i < L.length) : ((L.flatMap Th.cells).set (i * 2) (.int .i64 x.f)).set (i * 2 + 1) (.int .i64 x.x) = (L.set i x).flatMap Th.cells := by
  induction L generalizing i with
  | nil => simp at h
  | cons y L ih =>
    cases i with
    | zero => rfl
    | succ i =>
      have := ih i (by simpa using h)
      rw [List.set_cons_succ, List.flatMap_cons, List.flatMap_cons, ← this]
      rw [show (i + 1) * 2 = i * 2 + 1 + 1 by omega]
      rfl
theorem toldT_bd {p : Bool} {R : Nat → Nat → Th} {k i o : Nat} (h : 0 ≤ (R k o).f ∧ (R k o).f ≤ 16) : 0 ≤ toldT p R k i o ∧ toldT p R k i o ≤ 16 := by
  unfold toldT; split
  · omega
  · exact h
theorem stepTh_bd {C : Nat → Nat → Int} {p : Bool} {n : Nat} {R : Nat → Nat → Th} (hC : ∀ i k, i < n → k < n → 0 ≤ C i k ∧ C i k ≤ 16) (hR : ∀ i o, i < n → o < n → 0 ≤ (R i o).f ∧ (R i o).f ≤ 16) {i o : Nat} (hi : i < n) (ho : o < n) : 0 ≤ (stepTh C p n R i o).f ∧ (stepTh C p n R i o).f ≤ 16 := by
  have s := scan_is (okT C i o) (fun k => C i k + toldT p R k i o) (startT i o) n
  have h0 := LineT.start_f i o
  refine ⟨?_, by have := s.le; exact Int.le_trans this h0.2⟩
  show 0 ≤ (scanT _ _ _ _).f
  rcases s.got with e | ⟨k, k1, k2, e, -⟩
  · rw [e]; exact h0.1
  · rw [e]
    have := (hC i k hi k1).1
    have := (toldT_bd (p := p) (i := i) (hR k o k1 ho)).1
    simp only
    omega
/-- A row on the way: the first thoughts are made anew. -/
def midT (S : Nat → Nat → Th) (o : Nat) (i q : Nat) : Th := if q < o then S i q else startT i q
theorem mid_start (S : Nat → Nat → Th) (n i : Nat) : rowTh (midT S 0) n i = rowTh startT n i := rowTh_congr (fun _ _ => if_neg (Nat.not_lt_zero _))
theorem mid_set (S : Nat → Nat → Th) {n i o : Nat} (ho : o < n) : (rowTh (midT S o) n i).set o (S i o) = rowTh (midT S (o + 1)) n i := by
  refine ext_nth (by rw [List.length_set, rowTh_len, rowTh_len]) (fun q hq => ?_)
  rw [List.length_set, rowTh_len] at hq
  rw [nth_set _ _ _ _ (by rw [rowTh_len]; exact ho), rowTh_nth _ hq, rowTh_nth _ hq]
  unfold midT
  by_cases e : q = o
  · subst e; rw [if_pos rfl, if_pos (by omega)]
  · rw [if_neg e]
    by_cases h : q < o
    · rw [if_pos h, if_pos (by omega)]
    · rw [if_neg h, if_neg (by omega)]
theorem mid_same (S : Nat → Nat → Th) {n i o : Nat} (ho : o < n) : (rowTh (midT S o) n i).set o (startT i o) = rowTh (midT S o) n i := by
  refine ext_nth (by rw [List.length_set, rowTh_len]) (fun q hq => ?_)
  rw [List.length_set, rowTh_len] at hq
  rw [nth_set _ _ _ _ (by rw [rowTh_len]; exact ho), rowTh_nth _ hq]
  split
  · rename_i e; subst e; unfold midT; rw [if_neg (by omega)]
  · rfl
theorem mid_end (S : Nat → Nat → Th) (n i : Nat) : rowTh (midT S n) n i = rowTh S n i := rowTh_congr (fun _ ho => if_pos ho)
/-- New rows. -/
def RetRows (w : World) (n : Nat) (S : Nat → Nat → Th) (e : Ending) (w' : World) : Prop :=
  ∃ a c ob G C, e = .returned (.slice a n c) ∧ TMat w'.heap n n S a c ob G C ∧ Fr (fun _ => False) w w' ∧ (∀ g, ob = some g → w.heap.size ≤ g) ∧ ∀ i, i < n → w.heap.size ≤ G i

set_option maxRecDepth 100000 in
set_option maxHeartbeats 8000000 in
theorem lstepped_any {w : World} {bs n : Nat} {l : List Lk} {p : Bool} {R : Nat → Nat → Th} {T : Nat → Prop} (hNb : Nb w) (h : LineAt w bs n l p R T) (hw : ∀ x ∈ l, (Lit.int .i64 x.a).wf = true ∧ (Lit.int .i64 x.b).wf = true ∧ (Lit.int .i64 x.c).wf = true) :
    Calls Tryd.prog 90 #[.pointer (some ⟨bs, 0, none⟩)] w (RetRows w n (stepTh (costF n l) p n R)) := by
  have hn := h.n8
  have HA := Lib.hid h
  obtain ⟨S, hS⟩ : ∃ S, S = stepTh (costF n l) p n R := ⟨_, rfl⟩
  rw [← hS]
  have HS := Lib.hid (show ∀ i o, S i o = scanT (okT (costF n l) i o) (fun k => costF n l i k + toldT p R k i o) (startT i o) n from fun i o => by rw [hS]; rfl)
  clear hS
  obtain ⟨al, cl, ar, cr, ob, G, C, h⟩ := h
  obtain ⟨b0, -, b2, -, bl⟩ := h.bcells
  have hok := h.ok
  have hll := (graph_ok hok).2.2
  have hcc := costs_any (n : Int) l al cl w h.lk (by omega) hw
  rcases costsE_cases (n : Int) l with ⟨k, e, -⟩ | ⟨m, hm, -, -, -, hce, hct⟩
  · rw [hok] at e; cases e
  · obtain rfl : n = m := by omega
    have HCE := Lib.hid hce
    have HCT := Lib.hid hct
    obtain ⟨lb, hlb⟩ : ∃ q, q = l.length := ⟨_, rfl⟩
    rw [← hlb] at b0 hcc
    clear h hok hce hct hm hw hll hlb
    go_enter Tryd.func90, Tryd.ntmps90
    go_wp2_with (fail)
    refine hcc.mono ?_
    intro e1 w1 R1
    obtain ⟨a1, c1, ob1, G1, C1, rfl, hM1, hF1⟩ := R1.get HCE.out HCT.out.sq.len
    have hA1 := HA.out.fr0 hF1
    have hNb1 := hNb.fr hF1 (fun h => h)
    have HM1 := Lib.hid hM1
    have hs1 := hF1.size
    clear R1 hcc hM1 hNb b0 b2 bl HA
    go_wp2
    go_loopw [34, 6] (fun s34 s6 wr => ∃ (i : Nat) (a : Option Addr) (c : Nat) (ob : Option Nat) (G C : Nat → Nat), i ≤ n ∧ s34 = .int .i64 i ∧ s6 = .slice a i c ∧ TMat wr.heap n i S a c ob G C ∧ (∀ g, ob = some g → w1.heap.size ≤ g) ∧ (∀ j, j < i → w1.heap.size ≤ G j) ∧ Fr (fun _ => False) w1 wr) (fun s _ _ => n - (intOf s).toNat)
    case atStart => exact ⟨0, none, 0, none, fun _ => 0, fun _ => 0, by omega, rfl, rfl, TMat.nil _ _ _ _ _, (fun _ h => nomatch h), (fun _ h => absurd h (Nat.not_lt_zero _)), Fr.refl _ _⟩
    case round =>
      obtain ⟨i, ao, co, oo, Go, Co, hi, rfl, rfl, hT, hob, hG, hF⟩ := hrel
      by_cases hlt : i < n
      · obtain ⟨nb0, nb1, nb2⟩ := hNb1.fr hF (fun h => h)
        have hlit := rd_lit wr 154 [.int .i64 16, .int .i64 (-1)]
        have hrp := repeat_th ⟨16, -1⟩ (some ⟨wr.heap.size, 0, none⟩) 1 n _ hlit (by omega) (by omega)
        go_wp2_with (fail)
        refine hrp.mono ?_
        rintro e4 w4 ⟨a4, c4, ob4, rfl, hO4, hF4, hN4⟩
        obtain ⟨g, rfl, rfl, hg, hc, hfz⟩ := hO4.pos (by omega)
        have hgn4 : wr.heap.size < g := by have := hN4 g rfl; simp at this; omega
        have hci := (hc (i * 2 + 0) (by omega)).trans (flat_get Th.cells 2 Th.cells_len (List.replicate n (⟨16, -1⟩ : Th)) i 0 (by simpa using hlt) (by omega))
        have hfi := hfz (i * 2)
        have hset := hO4.set rfl (i * 2) (.int .i64 0)
        rw [row0_eq startT hlt (fun _ _ => rfl), ← mid_start S] at hset
        have hFa := ((Fr.refl (fun _ => False) wr).alloc (.cells #[.int .i64 16, .int .i64 (-1)] 154)).trans hF4
        have hFs : Fr (fun k => k = g) w4 (w4.setCell ⟨g, i * 2, none⟩ (.int .i64 0)) := (Fr.refl (fun k => k = g) w4).setCell (p := ⟨g, i * 2, none⟩) (fun _ => rfl) _
        have hT4 := hT.fr0 hFa
        have hF14 := hF.trans hFa
        have hobn : oo ≠ some g := fun h => by have := hT.top.lt g h; omega
        have hGn : ∀ j, j < i → Go j ≠ g := fun j hj h => by have := (hT.row j hj).lt _ rfl; omega
        have hg1 : w1.heap.size < g := by have := hF.size; omega
        rw [nth_replicate _ _ _ hlt] at hci
        simp only [Th.cells, List.getElem?_cons_zero, Nat.add_zero] at hci
        clear hrp hO4 hF4 hN4 hc hfz hFa hlit nb0 nb1 nb2 hT hF
        go_wp2
        go_loopw [46] (fun s46 wx => ∃ o : Nat, o ≤ n ∧ s46 = .int .i64 o ∧ Ownd wx.heap 154 2 (some ⟨g, 0, none⟩) n c4 ((rowTh (midT S o) n i).flatMap Th.cells) (some g) ∧ Fr (fun k => k = g) w4 wx) (fun s _ => n - (intOf s).toNat)
        case atStart => exact ⟨0, by omega, rfl, hset, hFs⟩
        case round =>
          clear hset hFs
          obtain ⟨o, ho, rfl, hO, hFx⟩ := hrel
          by_cases hlo : o < n
          · have hF1x := (hF14.none (fun k => k = g)).trans hFx
            have hMx := HM1.out.fr hF1x (fun k _ hk h => by have h : k = g := h; omega)
            obtain ⟨bt, ot, rfl, d1, -, -⟩ := OMat.cells hMx HCT.out.sq.len HCT.out.sq.rows i o hlt hlo
            have hst : Ownd wr.heap 154 2 (some ⟨g, 0, none⟩) n c4 (((rowTh (midT S o) n i).set o (scanT (okT (costF n l) i o) (fun k => costF n l i k + toldT p R k i o) (startT i o) 0)).flatMap Th.cells) (some g) := by
              rw [show scanT (okT (costF n l) i o) (fun k => costF n l i k + toldT p R k i o) (startT i o) 0 = startT i o from rfl, mid_same S hlo]; exact hO
            clear hO hF1x hMx
            go_wp2
            go_loopw [54] (fun s54 wy => ∃ k : Nat, k ≤ n ∧ s54 = .int .i64 k ∧ Ownd wy.heap 154 2 (some ⟨g, 0, none⟩) n c4 (((rowTh (midT S o) n i).set o (scanT (okT (costF n l) i o) (fun k => costF n l i k + toldT p R k i o) (startT i o) k)).flatMap Th.cells) (some g) ∧ Fr (fun k => k = g) w4 wy) (fun s _ => n - (intOf s).toNat)
            case atStart => exact ⟨0, by omega, rfl, hst, hFx⟩
            case round =>
              clear hst hFx d1
              obtain ⟨k, hk, rfl, hO, hFy⟩ := hrel
              by_cases hlk : k < n
              · have hF1y := (hF14.none (fun k => k = g)).trans hFy
                have hMy := HM1.out.fr hF1y (fun k _ hk h => by have h : k = g := h; omega)
                obtain ⟨_, _, e0, -, d2, -⟩ := OMat.cells hMy HCT.out.sq.len HCT.out.sq.rows i k hlt hlk
                have hAy := hA1.fr hF1y (fun k hk h => by have h : k = g := h; have := hA1.lt k hk; omega)
                have hbd := HCT.out.bd i k hlt hlk
                have hsc : Hid (∀ a, scanT (okT (costF n l) i o) (fun k => costF n l i k + toldT p R k i o) (startT i o) (k + 1) = scan1 (okT (costF n l) i o) (fun k => costF n l i k + toldT p R k i o) a k ∨ a ≠ scanT (okT (costF n l) i o) (fun k => costF n l i k + toldT p R k i o) (startT i o) k) := Lib.hid (fun a => by
                  by_cases e : a = scanT (okT (costF n l) i o) (fun k => costF n l i k + toldT p R k i o) (startT i o) k
                  · left; rw [e, scanT_succ]
                  · exact .inr e)
                have hTB := toldT_bd (p := p) (i := i) (hA1.rb k o hlk hlo)
                have hcall := ltold_any k i o hAy hlk hlo
                obtain ⟨g', h1, -, -, hc, hfz⟩ := hO.pos (by omega)
                cases h1
                obtain ⟨acc2, hacc2⟩ : ∃ a, a = scanT (okT (costF n l) i o) (fun k => costF n l i k + toldT p R k i o) (startT i o) (k + 1) := ⟨_, rfl⟩
                rw [← hacc2] at hsc
                have HEQ2 := Lib.hid hacc2
                clear hacc2
                generalize scanT (okT (costF n l) i o) (fun k => costF n l i k + toldT p R k i o) (startT i o) k = acc at *
                have hacc : acc2 = if okT (costF n l) i o k = true ∧ costF n l i k + toldT p R k i o < acc.f then ⟨costF n l i k + toldT p R k i o, k⟩ else acc := (hsc.out acc).resolve_right (fun h => h rfl)
                have hcell : ∀ j, j < 2 → wr.cell? ⟨g, o * 2 + j, none⟩ = (Th.cells acc)[j]? := fun j hj => by
                  rw [hc (o * 2 + j) (by omega), flat_get Th.cells 2 Th.cells_len _ o j (by rw [List.length_set, rowTh_len]; exact hlo) hj, nth_set _ _ _ _ (by rw [rowTh_len]; exact hlo), if_pos rfl]
                have x0 := hcell 0 (by omega)
                have x1 := hcell 1 (by omega)
                have fz0 := hfz (o * 2)
                have fz1 := hfz (o * 2 + 1)
                simp only [Th.cells, List.getElem?_cons_zero, List.getElem?_cons_succ, Nat.add_zero] at x0 x1
                have hA1' : (¬ o = i ∧ ¬ k = i ∧ ¬ nth (nth (costsM n l) i) k = 16) → nth (nth (costsM n l) i) k + toldT p R k i o < acc.f → acc2 = ⟨nth (nth (costsM n l) i) k + toldT p R k i o, k⟩ := fun h1 h2 => by rw [hacc]; exact if_pos ⟨decide_eq_true h1, h2⟩
                have hA2' : ¬ ((¬ o = i ∧ ¬ k = i ∧ ¬ nth (nth (costsM n l) i) k = 16) ∧ nth (nth (costsM n l) i) k + toldT p R k i o < acc.f) → acc2 = acc := fun h => by rw [hacc]; exact if_neg (fun q => h ⟨of_decide_eq_true q.1, q.2⟩)
                have hbd : 0 ≤ nth (nth (costsM n l) i) k ∧ nth (nth (costsM n l) i) k ≤ 16 := hbd
                have HA1 := Lib.hid hA1'
                have HA2 := Lib.hid hA2'
                clear hA1' hA2' hacc
                have HL : Hid (∀ x : Th, ((((rowTh (midT S o) n i).set o acc).flatMap Th.cells).set (o * 2) (.int .i64 x.f)).set (o * 2 + 1) (.int .i64 x.x) = ((rowTh (midT S o) n i).set o x).flatMap Th.cells) := Lib.hid (fun x => by rw [th_set2 _ _ _ (by rw [List.length_set, rowTh_len]; exact hlo), List.set_set])
                generalize nth (nth (costsM n l) i) k = x at *
                generalize toldT p R k i o = tl at *
                clear hc hfz hsc hMy hcell e0 hF1y hAy
                by_cases hskip : o = i ∨ k = i ∨ x = 16
                · have HE := Lib.hid (HA2.out (fun q => by have := q.1; omega))
                  have q : ((o : Int) == i) = true ∨ (((o : Int) == i) = false ∧ ((k : Int) == i) = true) ∨ (((o : Int) == i) = false ∧ ((k : Int) == i) = false ∧ (x == 16) = true) := by
                    simp only [beq_iff_eq, beq_eq_false_iff_ne, ne_eq]
                    omega
                  have HO := Lib.hid (show Ownd wr.heap 154 2 (some ⟨g, 0, none⟩) n c4 (((rowTh (midT S o) n i).set o acc2).flatMap Th.cells) (some g) by rw [HE.out]; exact hO)
                  clear hskip hO x0 x1 fz0 fz1
                  rcases q with q1 | ⟨q1, q2⟩ | ⟨q1, q2, q3⟩
                  all_goals
                    go_wp2
                    go_roundw
                    case rel => exact ⟨k + 1, by omega, by go_num, by rw [← HEQ2.out]; exact HO.out, hFy⟩
                    case measure => simp [intOf]; omega
                · have q1 : ((o : Int) == i) = false := by simp only [beq_eq_false_iff_ne, ne_eq]; omega
                  have q2 : ((k : Int) == i) = false := by simp only [beq_eq_false_iff_ne, ne_eq]; omega
                  have q3 : (x == 16) = false := by simp only [beq_eq_false_iff_ne, ne_eq]; omega
                  have HNS := Lib.hid (show ¬ o = i ∧ ¬ k = i ∧ ¬ x = 16 by omega)
                  clear hskip
                  go_wp2_with (fail)
                  refine hcall.mono ?_
                  rintro e5 w5 ⟨rfl, hF5⟩
                  have hO5 := hO.fr hF5 (fun _ _ h => h)
                  have hgl := hO.lt g rfl
                  have y0 := (hF5.cell (p := ⟨g, o * 2, none⟩) hgl (fun h => h)).trans x0
                  have y1 := (hF5.cell (p := ⟨g, o * 2 + 1, none⟩) hgl (fun h => h)).trans x1
                  have yz0 := (hF5.frozen (p := ⟨g, o * 2, none⟩) hgl (fun h => h)).trans fz0
                  have yz1 := (hF5.frozen (p := ⟨g, o * 2 + 1, none⟩) hgl (fun h => h)).trans fz1
                  have hFy5 := hFy.trans (hF5.none _)
                  by_cases hd : x + tl < acc.f
                  · have HE := Lib.hid (HA1.out HNS.out hd)
                    have hset := (hO5.set rfl (o * 2) (.int .i64 (x + tl))).set rfl (o * 2 + 1) (.int .i64 k)
                    have HO := Lib.hid (show Ownd ((w5.setCell ⟨g, o * 2, none⟩ (.int .i64 (x + tl))).setCell ⟨g, o * 2 + 1, none⟩ (.int .i64 k)).heap 154 2 (some ⟨g, 0, none⟩) n c4 (((rowTh (midT S o) n i).set o acc2).flatMap Th.cells) (some g) by rw [HE.out, ← HL.out]; exact hset)
                    have HF := Lib.hid ((hFy5.setCell (p := ⟨g, o * 2, none⟩) (fun _ => rfl) (.int .i64 (x + tl))).setCell (p := ⟨g, o * 2 + 1, none⟩) (fun _ => rfl) (.int .i64 k))
                    clear hcall hO hO5 hset hF5 hFy hFy5 x0 x1 fz0 fz1
                    go_wp2
                    go_roundw
                    case rel => exact ⟨k + 1, by omega, by go_num, by rw [← HEQ2.out]; exact HO.out, HF.out⟩
                    case measure => simp [intOf]; omega
                  · have HE := Lib.hid (HA2.out (fun q => hd q.2))
                    have HO := Lib.hid (show Ownd w5.heap 154 2 (some ⟨g, 0, none⟩) n c4 (((rowTh (midT S o) n i).set o acc2).flatMap Th.cells) (some g) by rw [HE.out]; exact hO5)
                    clear hcall hO hO5 hF5 hFy x0 x1 fz0 fz1
                    go_wp2
                    go_roundw
                    case rel => exact ⟨k + 1, by omega, by go_num, by rw [← HEQ2.out]; exact HO.out, hFy5⟩
                    case measure => simp [intOf]; omega
              · obtain rfl : k = n := by omega
                have hO2 : Ownd wr.heap 154 2 (some ⟨g, 0, none⟩) k c4 ((rowTh (midT S (o + 1)) k i).flatMap Th.cells) (some g) := by rw [← mid_set S hlo, HS.out]; exact hO
                clear hO
                go_wp2
                go_roundw
                case rel => exact ⟨o + 1, by omega, by go_num, hO2, hFy⟩
                case measure => simp [intOf]; omega
          · obtain rfl : o = n := by omega
            rw [mid_end] at hO
            have hF14y := hF14.trans' hFx (fun k hk h => by have h : k = g := h; omega)
            have hTy := hT4.fr hFx (fun q hq h => hobn (by rw [hq]; exact congrArg some h)) (fun j hj h => hGn j hj h)
            have hgl := hO.lt g rfl
            have hrd := (Ownd.made wr 151 1 1 [.slice (some ⟨g, 0, none⟩) o c4] rfl (by decide)).rd
            have htop := hTy.top.alloc (.cells #[.slice (some ⟨g, 0, none⟩) o c4] 151)
            go_wp2_with (at_builtin; refine wpList_app rfl _ _ 148 rfl Tryd.underlying148 infoThs rfl (by decide) rfl rfl htop hrd (by simp [Value.oneCell']) (by omega) (by omega) ?_)
            intro a' c' w6 ob' z1 z2 z3
            have hFal := (Fr.refl (fun _ => False) wr).alloc (.cells #[.slice (some ⟨g, 0, none⟩) o c4] 151)
            have hP := TMat.push (hTy.fr0 hFal) (hO.alloc (.cells #[.slice (some ⟨g, 0, none⟩) o c4] 151)) hobn z1 z2 (by simpa using z3)
            have hszy := hF14y.size
            have hob6 : ∀ q, ob' = some q → w1.heap.size ≤ q := fun q hq => by
              rcases z3 with z3 | ⟨q2, z3, z4⟩
              · exact hob q (z3 ▸ hq)
              · rw [z3] at hq; cases hq; omega
            have hG6 : ∀ j, j < i + 1 → w1.heap.size ≤ (if j < i then Go j else g) := fun j hj => by
              by_cases h : j < i
              · rw [if_pos h]; exact hG j h
              · rw [if_neg h]; omega
            have hF6 := (hF14y.trans hFal).trans' z2 (fun q hq h => by have := hob q h; omega)
            clear z1 z2 z3 hrd htop hFal hTy hO
            go_wp2
            go_roundw
            case rel => exact ⟨i + 1, a', c', ob', _, _, by omega, by go_num, rfl, hP, hob6, hG6, hF6⟩
            case measure => simp [intOf]; omega
      · obtain rfl : i = n := by omega
        go_wp2
        go_ret
        exact ⟨ao, co, oo, Go, Co, rfl, hT, hF1.trans hF, fun g hg => by have := hob g hg; omega, fun j hj => by have := hG j hj; omega⟩
end Go.Proofs.YtfjempfffdeklaaDoor
