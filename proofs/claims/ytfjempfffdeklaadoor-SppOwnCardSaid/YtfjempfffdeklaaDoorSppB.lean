import Derived.Test.YtfjempfffdeklaaDoorSppW
import Derived.Test.YtfjempfffdeklaaDoorEqInts
namespace Go.Proofs.YtfjempfffdeklaaDoor
open Go.RowKit

set_option maxRecDepth 100000 in
set_option maxHeartbeats 1000000 in
theorem best1_any (y x : List Int) (ay ax : Option Addr) (cy cx b8 : Nat) (w : World) (h8 : w.cell? ⟨b8, 0, none⟩ = some (.slice ax x.length cx)) (l8 : b8 < w.heap.size) (hy : Ints w.heap ay y) (hx : Ints w.heap ax x) (h1 : 1 < x.length) (hc : x.length ≤ cx) (hly : y.length ≤ 9223372036854775807) (hlx : x.length ≤ 9223372036854775807) :
    Calls Tryd.prog 131 #[.slice ay y.length cy, .pointer (some ⟨b8, 0, none⟩)] w (RetV w (.bool (decide (y = x.drop 1)))) := by
  obtain ⟨b, o, rfl, hb, -⟩ := Ints.pos hx (by omega)
  have heq := equal_any y (x.drop 1) ay (some ⟨b, o + 1, none⟩) cy (cx - 1) w hy (hx.drop 1) hly (by simp; omega)
  rw [List.length_drop] at heq
  obtain ⟨B, hB⟩ : ∃ B, B = decide (y = x.drop 1) := ⟨_, rfl⟩
  rw [← hB] at heq ⊢
  have hcap : ¬ cx = 1 := by omega
  clear hB hx hy
  go_enter Tryd.func131, Tryd.ntmps131
  go_wp2_with (fail)
  refine heq.mono ?_
  intro e1 w1 R1
  obtain ⟨rfl, n, rfl⟩ := R1
  clear heq
  go_wp2
  go_ret
  exact RetV.mk (x := .bool B) rfl rfl ((Fr.refl _ _).drewN n)

def IdxD (w : World) (ws : List (List Int)) (x : List Int) (e : Ending) (w' : World) : Prop := ∃ i : Int, e = .returned (.int .i64 i) ∧ Fr (fun _ => False) w w' ∧ decide (i ≥ 0) = decide (x ∈ ws)
set_option maxRecDepth 100000 in
set_option maxHeartbeats 1000000 in
theorem idxD_any (ws : List (List Int)) (x : List Int) (aw ax : Option Addr) (cw cx b8 : Nat) (A : Nat → Option Addr) (C : Nat → Nat) (w : World) (hM : Mat w.heap aw ws A C) (hlw : ws.length ≤ 9223372036854775807) (h8 : w.cell? ⟨b8, 0, none⟩ = some (.slice ax x.length cx)) (l8 : b8 < w.heap.size) (hx : Ints w.heap ax x) (h1 : 1 < x.length) (hc : x.length ≤ cx) (hlx : x.length ≤ 9223372036854775807) :
    Calls Tryd.prog 144 #[.slice aw ws.length cw, .func (.func 131) #[] #[.pointer (some ⟨b8, 0, none⟩)]] w (IdxD w ws (x.drop 1)) := by
  go_enter Tryd.func144, Tryd.ntmps144
  go_wp2
  go_loopw [8] (fun s8 wr => ∃ (k : Nat), k ≤ ws.length ∧ s8 = .int .i64 k ∧ Fr (fun _ => False) w wr ∧ Hid (x.drop 1 ∉ ws.take k)) (fun s _ => ws.length - (intOf s).toNat)
  case atStart => exact ⟨0, by omega, rfl, Fr.refl _ _, Lib.hid (by simp)⟩
  case round =>
    obtain ⟨k, hk, rfl, hF, hno⟩ := hrel
    by_cases hkl : k < ws.length
    · have hM' := hM.fr hF (fun _ _ h => h)
      have hx' := Rd.fr0 hx hF (fun _ _ h => h)
      have g8 := (hF.cell (p := ⟨b8, 0, none⟩) l8 (fun h => h)).trans h8
      have l8' := Nat.lt_of_lt_of_le l8 hF.size
      obtain ⟨b, off, rfl, hbb, hcell⟩ := hM'.pos (by omega)
      have d := hcell wr rfl k hkl
      have hrow := hM'.row k hkl
      have hrl := hM'.lens k hkl
      have hmem := nth_mem ws k hkl
      have htk := take_succ_nth ws k hkl
      generalize nth ws k = y at *
      have HM := Lib.hid hmem
      have HT := Lib.hid htk
      by_cases hyx : y = x.drop 1
      · have HE := Lib.hid hyx
        have hb1 := best1_any y x (A k) ax (C k) cx b8 wr g8 l8' hrow hx' h1 hc hrl hlx
        rw [decide_eq_true hyx] at hb1
        clear hcell hmem htk hyx hM' hx' hrow
        go_wp2_with (fail)
        refine hb1.mono ?_
        rintro e1 w1 ⟨rfl, hF1⟩
        clear hb1
        go_wp2
        go_ret
        exact ⟨k, rfl, hF.trans hF1, by rw [decide_eq_true (show x.drop 1 ∈ ws by rw [← HE.out]; exact HM.out)]; simp⟩
      · have HN := Lib.hid (show x.drop 1 ∉ ws.take (k + 1) by
          rw [HT.out, List.mem_append]
          rintro (h | h)
          · exact hno.out h
          · exact hyx (List.mem_singleton.1 h).symm)
        have hb1 := best1_any y x (A k) ax (C k) cx b8 wr g8 l8' hrow hx' h1 hc hrl hlx
        rw [decide_eq_false hyx] at hb1
        clear hcell hmem htk hyx hM' hx' hrow hno
        go_wp2_with (fail)
        refine hb1.mono ?_
        rintro e1 w1 ⟨rfl, hF1⟩
        clear hb1
        go_wp2
        go_roundw
        case rel => exact ⟨k + 1, by omega, by go_num, hF.trans hF1, HN⟩
        case measure => simp [intOf]; omega
    · obtain rfl : k = ws.length := by omega
      have HN := Lib.hid (show x.drop 1 ∉ ws by have := hno.out; rwa [List.take_length] at this)
      go_wp2
      go_ret
      exact ⟨-1, rfl, hF, by rw [decide_eq_false HN.out]; rfl⟩

set_option maxRecDepth 100000 in
set_option maxHeartbeats 1000000 in
theorem hasD_any (ws : List (List Int)) (x : List Int) (aw ax : Option Addr) (cw cx b8 : Nat) (A : Nat → Option Addr) (C : Nat → Nat) (w : World) (hM : Mat w.heap aw ws A C) (hlw : ws.length ≤ 9223372036854775807) (h8 : w.cell? ⟨b8, 0, none⟩ = some (.slice ax x.length cx)) (l8 : b8 < w.heap.size) (hx : Ints w.heap ax x) (h1 : 1 < x.length) (hc : x.length ≤ cx) (hlx : x.length ≤ 9223372036854775807) :
    Calls Tryd.prog 130 #[.slice aw ws.length cw, .func (.func 131) #[] #[.pointer (some ⟨b8, 0, none⟩)]] w (RetV w (.bool (decide (x.drop 1 ∈ ws)))) := by
  have hi := idxD_any ws x aw ax cw cx b8 A C w hM hlw h8 l8 hx h1 hc hlx
  obtain ⟨B, hB⟩ : ∃ B, B = decide (x.drop 1 ∈ ws) := ⟨_, rfl⟩
  rw [← hB]
  have HB := Lib.hid hB
  clear hB hM hx
  go_enter Tryd.func130, Tryd.ntmps130
  go_wp2_with (fail)
  refine hi.mono ?_
  rintro e1 w1 ⟨i, rfl, hF1, hd⟩
  have HI := Lib.hid (HB.out.trans hd.symm)
  clear hi hd
  go_wp2
  go_ret
  exact ⟨by rw [HI.out]; rfl, hF1⟩

set_option maxRecDepth 100000 in
set_option maxHeartbeats 2000000 in
theorem best_any (L : List Rw) (a : Option Addr) (c : Nat) (T : Nat → Prop) (ws : List (List Int)) (aw : Option Addr) (cw b0 : Nat) (A : Nat → Option Addr) (C : Nat → Nat) (i : Nat) (w : World) (hL : Likes w.heap a L T) (hl : L.length ≤ 8) (hi : i < L.length)
    (hM : Mat w.heap aw ws A C) (hlw : ws.length ≤ 9223372036854775807) (h0 : w.cell? ⟨b0, 0, none⟩ = some (.slice aw ws.length cw)) (l0 : b0 < w.heap.size) (hsz : ∀ j, j < (nth (vals L) i).length → (nth (nth (vals L) i) j).length * 8 ≤ 140737488351232) :
    Calls Tryd.prog 114 #[.slice a L.length c, .slice (some ⟨b0, 0, none⟩) 1 1, .int .i64 i] w (RetNew w 3 1 (bestL (nth (vals L) i) ws i).length (ivals .i64 (bestL (nth (vals L) i) ws i)) id) := by
  obtain ⟨X, hX⟩ : ∃ X, X = bestL (nth (vals L) i) ws i := ⟨_, rfl⟩
  rw [← hX]
  have HX := Lib.hid hX
  clear hX
  by_cases hi0 : i = 0
  · subst hi0
    obtain rfl : X = [0] := HX.out
    clear hM hL hsz
    go_enter Tryd.func114, Tryd.ntmps114
    go_wp2
    go_ret
    exact ⟨_, _, _, rfl, Ownd.made w 3 1 1 [.int .i64 0] rfl (by decide), (Fr.refl _ _).alloc _, fun g hg => by cases hg; exact Nat.le_refl _⟩
  · obtain ⟨g, o, rfl, hg, hc⟩ := Recs.pos hL.top Rw.cells_len (by omega) (by omega)
    have d := hc w rfl i 0 hi (by omega)
    have hmem := nth_mem L i hi
    have hMy := hL.mat _ hmem
    have hCy := hL.cap _ hmem
    have hYy := hL.many _ hmem
    have hvn := vals_nth L hi
    rw [hvn] at HX hsz
    generalize nth L i = y at *
    obtain ⟨ya, yr, yc, yA, yC⟩ := y
    simp only [Rw.cells, List.getElem?_cons_zero, Nat.mul_one, Nat.add_zero] at d
    simp only at hMy hCy hYy HX hsz
    have hi0' : ((i : Int) == 0) = false := by simp; omega
    have HI := Lib.hid hi0
    clear hc hmem hL hvn hi0
    go_enter Tryd.func114, Tryd.ntmps114
    go_wp2
    go_loopw [17] (fun s17 wr => ∃ (k : Nat), k ≤ yr.length ∧ s17 = .int .i64 k ∧ Fr (fun _ => False) w wr ∧ Hid (∀ j, j < k → likedB ws (nth yr j) = false)) (fun s _ => yr.length - (intOf s).toNat)
    case atStart => exact ⟨0, by omega, rfl, Fr.refl _ _, Lib.hid (fun j hj => absurd hj (Nat.not_lt_zero _))⟩
    case round =>
      obtain ⟨k, hk, rfl, hF, hno⟩ := hrel
      by_cases hkl : k < yr.length
      · have hMy' := hMy.fr hF (fun _ _ h => h)
        obtain ⟨b, off, rfl, hbb, hcell⟩ := hMy'.pos (by omega)
        have d2 := hcell wr rfl k hkl
        have hrow := hMy'.row k hkl
        have hrl := hMy'.lens k hkl
        have hcc := hCy k hkl
        have hss := hsz k hkl
        have HN := Lib.hid (show likedB ws (nth yr k) = true → X = nth yr k from fun h => HX.out.trans (bestL_at HI.out hkl h hno.out))
        have HR := Lib.hid (show likedB ws (nth yr k) = false → ∀ j, j < k + 1 → likedB ws (nth yr j) = false from fun h j hj => by
          rcases Nat.lt_succ_iff_lt_or_eq.1 hj with h2 | h2
          · exact hno.out j h2
          · subst h2; exact h)
        generalize nth yr k = x at *
        have m0 := (hF.cell (p := ⟨b0, 0, none⟩) l0 (fun h => h)).trans h0
        have l0' := Nat.lt_of_lt_of_le l0 hF.size
        have hMw := hM.fr hF (fun _ _ h => h)
        clear hcell hno hMy'
        by_cases h1 : 1 < x.length
        · obtain ⟨W, hW⟩ : ∃ W, W = wr.alloc (.cells #[.slice (yA k) x.length (yC k)] 38) := ⟨_, rfl⟩
          have hFW : Fr (fun _ => False) wr W := by rw [hW]; exact (Fr.refl _ _).alloc _
          have e8 : W.cell? ⟨wr.heap.size, 0, none⟩ = some (.slice (yA k) x.length (yC k)) := by rw [hW]; exact (Blk.made wr 38 [.slice (yA k) x.length (yC k)]).cell 0
          have l8 : wr.heap.size < W.heap.size := by rw [hW]; simp
          have hx' := Rd.fr0 hrow hFW (fun _ _ h => h)
          have hh := hasD_any ws x aw (yA k) cw (yC k) wr.heap.size A C W (hMw.fr hFW (fun _ _ h => h)) hlw e8 l8 hx' h1 hcc hrl
          have hpn : yA k = none → x = [] := fun h => by
            obtain ⟨_, _, h2, -⟩ := Ints.pos hrow (by omega)
            rw [h] at h2; cases h2
          subst hW
          by_cases hin : x.drop 1 ∈ ws
          · have HE := Lib.hid (HN.out (decide_eq_true ⟨h1, hin⟩))
            rw [decide_eq_true hin] at hh
            clear hin
            go_wp2_with (fail)
            refine hh.mono ?_
            rintro e1 w1 ⟨rfl, hF1⟩
            clear hh
            have e81 := (hF1.cell (p := ⟨wr.heap.size, 0, none⟩) l8 (fun h => h)).trans e8
            have l81 := Nat.lt_of_lt_of_le l8 hF1.size
            have hcl := clone_int (yA k) x (yC k) w1 hss (Rd.fr0 hx' hF1 (fun _ _ h => h)) hpn
            go_wp2_with (fail)
            refine hcl.mono ?_
            intro e2 w2 R2
            obtain ⟨a2, c2, ob2, rfl, hO2, hF2, hN2⟩ := R2
            clear hcl
            go_wp2
            go_ret
            rw [HE.out]
            exact ⟨a2, c2, ob2, rfl, hO2, ((hF.trans hFW).trans hF1).trans hF2, fun q hq => Nat.le_trans (Nat.le_trans hF.size (Nat.le_trans (Nat.le_of_lt l8) hF1.size)) (hN2 q hq)⟩
          · have HE := Lib.hid (HR.out (decide_eq_false (fun h => hin h.2)))
            rw [decide_eq_false hin] at hh
            clear hin
            go_wp2_with (fail)
            refine hh.mono ?_
            rintro e1 w1 ⟨rfl, hF1⟩
            clear hh
            go_wp2
            go_roundw
            case rel => exact ⟨k + 1, by omega, by go_num, (hF.trans hFW).trans hF1, HE⟩
            case measure => simp [intOf]; omega
        · have HE := Lib.hid (HR.out (decide_eq_false (fun h => h1 h.1)))
          go_wp2
          go_roundw
          case rel => exact ⟨k + 1, by omega, by go_num, hF.alloc _, HE⟩
          case measure => simp [intOf]; omega
      · obtain rfl : k = yr.length := by omega
        have HE := Lib.hid (HX.out.trans (bestL_no HI.out hno.out))
        go_wp2
        go_ret
        rw [HE.out]
        exact ⟨none, 0, none, rfl, Ownd.nil _ _ _, hF, fun q hq => nomatch hq⟩
end Go.Proofs.YtfjempfffdeklaaDoor
