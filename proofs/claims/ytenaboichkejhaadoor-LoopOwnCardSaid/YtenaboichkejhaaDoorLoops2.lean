import Derived.Test.YtenaboichkejhaaDoorLoops
namespace Go.Proofs.YtenaboichkejhaaDoor
open Go.RowKit

theorem infoBool : (Tryd.prog.info? 4).map (fun i => (i.zero, i.size, i.bytes)) = some (some (.bool false), 1, 1) := by kernel_rfl
abbrev bvals (o : List Bool) : List Value := o.map Value.bool
theorem bvals_get (o : List Bool) (i : Nat) (h : i < o.length) : (bvals o)[i]? = some (.bool (nth o i)) := by simp [nth_get? o i h]
/-- A list of its own length, or an error. -/
def RetL (w : World) (r : Except Int (List Int)) (e : Ending) (w' : World) : Prop :=
  match r with
  | .error k => RetV w (.tuple #[.slice none 0 0, errv k]) e w'
  | .ok out => RetNew w 3 1 out.length (ivals .i64 out) (fun v => .tuple #[v, .nilIface]) e w'
theorem RetL.err {w w' : World} {r : Except Int (List Int)} {k : Int} {e : Ending} (h : r = .error k) (he : e = .returned (.tuple #[.slice none 0 0, errv k])) (hF : Fr (fun _ => False) w w') : RetL w r e w' := by subst h; exact ⟨he, hF⟩
theorem RetL.ok {w w' : World} {r : Except Int (List Int)} {out : List Int} {e : Ending} (h : r = .ok out) (hR : RetNew w 3 1 out.length (ivals .i64 out) (fun v => .tuple #[v, .nilIface]) e w') : RetL w r e w' := by subst h; exact hR
theorem mark1_stop {nx : List Int} {v : Int} {f : Nat} {m : List Int} {k : Int} (h : ¬ (0 ≤ k ∧ nth m k.toNat = 0)) : mark1 nx v f m k = (m, k) := by
  cases f with
  | zero => rfl
  | succ f => unfold mark1; rw [if_neg h]
theorem mark2_stop {nx met : List Int} {v : Int} {f : Nat} {o : List Bool} {k : Int} (h : ¬ (0 ≤ k ∧ nth met k.toNat = v ∧ nth o k.toNat = false)) : mark2 nx met v f o k = o := by
  cases f with
  | zero => rfl
  | succ f => unfold mark2; rw [if_neg h]

set_option maxRecDepth 100000 in
set_option maxHeartbeats 4000000 in
theorem loops_any {n : Nat} (nx : List Int) (a : Option Addr) (c : Nat) (w : World) (hn : nx.length = n) (hr : Ints w.heap a nx) (hl : n * 8 ≤ 140737488351232) :
    Calls Tryd.prog 6 #[.slice a n c] w (RetL w (loopsE nx)) := by
  go_enter Tryd.func6, Tryd.ntmps6
  go_wp2_with (fail)
  refine (lcheck_any nx a c _ hn hr (by omega)).mono ?_
  rintro e1 w1 ⟨rfl, rfl⟩
  by_cases hb : ∃ x ∈ nx, badNx n x
  · have hX := Lib.hid (show loopsE nx = .error 1 by unfold loopsE; rw [hn]; exact if_pos hb)
    rw [decide_eq_true hb]
    clear hb hn
    rw [show lerr true = errv 1 from rfl]
    go_wp2
    go_ret2
    exact RetL.err hX.out rfl (Fr.refl _ _)
  · have hX := Lib.hid (show loopsE nx = .ok (onL (loopSt nx n).2 n) by unfold loopsE; rw [hn]; exact if_neg hb)
    rw [decide_eq_false hb]
    have hok : ∀ k, k < n → -1 ≤ nth nx k ∧ nth nx k < n := fun k hk => by
      have : ¬ badNx n (nth nx k) := fun h => hb ⟨_, nth_mem nx k (by omega), h⟩
      unfold badNx at this
      omega
    have HOK := Lib.hid hok
    have HN := Lib.hid hn
    clear hb hn hok
    rw [show lerr false = .nilIface from rfl]
    go_wp2_with (at_make; refine wpList_mk rfl _ _ 22 rfl Tryd.underlying22 infoInt rfl n rfl rfl rfl rfl (by omega) (by omega) ?_)
    intro w2 hB2 hF2 hs2
    go_wp2_with (at_make; refine wpList_mk rfl _ _ 43 rfl Tryd.underlying43 infoBool rfl n rfl rfl rfl rfl (by omega) (by omega) ?_)
    intro w3 hB3 hF3 hs3
    have hM3 : Blk w3.heap w.heap.size 3 (ivals .i64 (List.replicate n 0)) := (hB2.fr hF3 (fun h => h)).eq (by simp [ivals])
    have hO3 : Blk w3.heap w2.heap.size 4 (bvals (List.replicate n false)) := hB3.eq (by simp [bvals])
    have hF03 := hF2.trans hF3
    clear hB2 hB3
    go_wp2
    go_loopw [25] (fun s25 wr => ∃ (i : Nat) (m : List Int) (o : List Bool), s25 = .int .i64 i ∧ i ≤ n ∧ Blk wr.heap w.heap.size 3 (ivals .i64 m) ∧ Blk wr.heap w2.heap.size 4 (bvals o) ∧ Hid ((m, o) = loopSt nx i ∧ m.length = n ∧ o.length = n) ∧ Fr (fun _ => False) w wr) (fun s _ => n - (intOf s).toNat)
    case atStart => exact ⟨0, List.replicate n 0, List.replicate n false, rfl, by omega, hM3, hO3, ⟨by unfold loopSt; rw [HN.out]; rfl, by simp, by simp⟩, hF03⟩
    case round =>
      clear hM3 hO3 hF03
      obtain ⟨i, m, o, rfl, hi, hM, hO, hI, hF⟩ := hrel
      by_cases hin : i < n
      · obtain ⟨wo, rfl⟩ : ∃ wo : World, wo = wr := ⟨_, rfl⟩
        obtain ⟨b, off, rfl, hb, hc⟩ := Ints.pos hr (by have := HN.out; omega)
        have HC := Lib.hid hc
        clear hc
        go_wp2
        go_loopg [8] (zeros m) (fun f s8 wr => ∃ (k : Int) (m' : List Int), s8 = .int .i64 k ∧ -1 ≤ k ∧ k < n ∧ Blk wr.heap w.heap.size 3 (ivals .i64 m') ∧ Blk wr.heap w2.heap.size 4 (bvals o) ∧ Hid (mark1 nx ((i : Int) + 1) (zeros m) m i = mark1 nx ((i : Int) + 1) f m' k ∧ m'.length = n ∧ zeros m' = f) ∧ Fr (fun _ => False) w wr)
        case atStart => exact ⟨i, m, rfl, by omega, by omega, hM, hO, ⟨rfl, hI.out.2.1, rfl⟩, hF⟩
        case round =>
          clear hM hO hF
          obtain ⟨k, m', rfl, k0, kn, hM, hO, hJ, hF⟩ := hrel
          by_cases hk0 : 0 ≤ k
          · obtain ⟨K, rfl⟩ := Int.eq_ofNat_of_zero_le hk0
            have hK : K < n := by omega
            have cm := (hM.cell K).trans (ivals_get .i64 m' K (by rw [hJ.out.2.1]; exact hK))
            have fm := hM.frozen K
            have cx := (hF.cell (p := ⟨b, off + K, none⟩) hb (fun h => h)).trans (HC.out w rfl K (by rw [HN.out]; exact hK))
            have hxb := HOK.out K hK
            obtain ⟨y, hy⟩ : ∃ y, y = nth nx K := ⟨_, rfl⟩
            rw [← hy] at cx hxb
            obtain ⟨z, hz⟩ : ∃ z, z = nth m' K := ⟨_, rfl⟩
            rw [← hz] at cm
            have HY := Lib.hid hy
            have HZ := Lib.hid hz
            clear hy hz
            have hlM := hM.lt
            by_cases hz0 : z = 0
            · obtain ⟨hj1, hj2, hj3⟩ := hJ.out
              have hzp : 0 < zeros m' := zeros_pos (k := K) (by rw [hj2]; exact hK) (by rw [← HZ.out]; exact hz0)
              obtain ⟨f, rfl⟩ : ∃ f, gk = f + 1 := ⟨gk - 1, by omega⟩
              have hset := hM.set K (.int .i64 ((i : Int) + 1))
              have e : (ivals .i64 m').set K (.int .i64 ((i : Int) + 1)) = ivals .i64 (m'.set K ((i : Int) + 1)) := by simp [ivals, List.map_set]
              rw [e] at hset
              have hO' := hO.other (p := ⟨w.heap.size, K, none⟩) (by show w2.heap.size ≠ w.heap.size; omega) (.int .i64 ((i : Int) + 1))
              have hJ' : Hid (mark1 nx ((i : Int) + 1) (zeros m) m i = mark1 nx ((i : Int) + 1) f (m'.set K ((i : Int) + 1)) y ∧ (m'.set K ((i : Int) + 1)).length = n ∧ zeros (m'.set K ((i : Int) + 1)) = f) := by
                refine ⟨?_, by rw [List.length_set, hj2], ?_⟩
                · rw [hj1]
                  conv => lhs; unfold mark1
                  rw [if_pos ⟨by omega, by rw [Int.toNat_natCast, ← HZ.out]; exact hz0⟩, Int.toNat_natCast, ← HY.out]
                · have := zeros_set (v := (i : Int) + 1) (k := K) (m := m') (by rw [hj2]; exact hK) (by rw [← HZ.out]; exact hz0) (by omega)
                  omega
              have hF' := hF.setCell (p := ⟨w.heap.size, K, none⟩) (fun h => by simp at h) (.int .i64 ((i : Int) + 1))
              subst hz0
              clear hj1 hj2 hj3 e hM hO hF hJ
              go_wp2
              go_roundg f
              case measure => omega
              case rel => exact ⟨y, _, rfl, hxb.1, hxb.2, hset, hO', hJ', hF'⟩
            · have hfin : Hid (mark1 nx ((i : Int) + 1) (zeros m) m i = (m', (K : Int)) ∧ m'.length = n) := ⟨by rw [hJ.out.1, mark1_stop (fun h => hz0 (by rw [HZ.out]; simpa using h.2))], hJ.out.2.1⟩
              have bz : (z == 0) = false := by simpa using hz0
              clear hz0 hJ cx hxb
              go_wp2
              go_loopg [8] (falses o) (fun f s8 wr => ∃ (k2 : Int) (o' : List Bool), s8 = .int .i64 k2 ∧ -1 ≤ k2 ∧ k2 < n ∧ Blk wr.heap w.heap.size 3 (ivals .i64 m') ∧ Blk wr.heap w2.heap.size 4 (bvals o') ∧ Hid (mark2 nx m' ((i : Int) + 1) (falses o) o (K : Int) = mark2 nx m' ((i : Int) + 1) f o' k2 ∧ o'.length = n ∧ falses o' = f) ∧ Fr (fun _ => False) w wr)
              case atStart => exact ⟨_, o, rfl, by omega, by omega, hM, hO, ⟨rfl, hI.out.2.2, rfl⟩, hF⟩
              case round =>
                clear hM hO hF
                obtain ⟨k2, o', rfl, q0, qn, hM, hO, hJ, hF⟩ := hrel
                by_cases hq0 : 0 ≤ k2
                · obtain ⟨Q, rfl⟩ := Int.eq_ofNat_of_zero_le hq0
                  have hQ : Q < n := by omega
                  have cm := (hM.cell Q).trans (ivals_get .i64 m' Q (by rw [hfin.out.2]; exact hQ))
                  have co := (hO.cell Q).trans (bvals_get o' Q (by rw [hJ.out.2.1]; exact hQ))
                  have fo := hO.frozen Q
                  have cx := (hF.cell (p := ⟨b, off + Q, none⟩) hb (fun h => h)).trans (HC.out w rfl Q (by rw [HN.out]; exact hQ))
                  have hxb := HOK.out Q hQ
                  obtain ⟨y, hy⟩ : ∃ y, y = nth nx Q := ⟨_, rfl⟩
                  rw [← hy] at cx hxb
                  obtain ⟨z, hz⟩ : ∃ z, z = nth m' Q := ⟨_, rfl⟩
                  rw [← hz] at cm
                  obtain ⟨bb, hbb⟩ : ∃ bb, bb = nth o' Q := ⟨_, rfl⟩
                  rw [← hbb] at co
                  have HY := Lib.hid hy
                  have HZ := Lib.hid hz
                  have HBB := Lib.hid hbb
                  clear hy hz hbb
                  have hlO := hO.lt
                  have hend : ∀ (h : ¬ (z = (i : Int) + 1 ∧ bb = false)), loopSt nx (i + 1) = (m', o') := fun h => by
                    rw [loopSt_succ, ← hI.out.1]
                    unfold loopStep
                    simp only [hfin.out.1]
                    rw [hJ.out.1, mark2_stop (fun hh => h ⟨by rw [HZ.out]; simpa using hh.2.1, by rw [HBB.out]; simpa using hh.2.2⟩)]
                  have HEND := Lib.hid hend
                  clear hend
                  by_cases hz1 : z = (i : Int) + 1
                  · cases bb with
                    | false =>
                      obtain ⟨hj1, hj2, hj3⟩ := hJ.out
                      have hzp : 0 < falses o' := falses_pos (k := Q) (by rw [hj2]; exact hQ) HBB.out.symm
                      obtain ⟨f, rfl⟩ : ∃ f, gk = f + 1 := ⟨gk - 1, by omega⟩
                      have hset := hO.set Q (.bool true)
                      have e : (bvals o').set Q (.bool true) = bvals (o'.set Q true) := by simp [bvals, List.map_set]
                      rw [e] at hset
                      have hM' := hM.other (p := ⟨w2.heap.size, Q, none⟩) (by show w.heap.size ≠ w2.heap.size; omega) (.bool true)
                      have hJ' : Hid (mark2 nx m' ((i : Int) + 1) (falses o) o (K : Int) = mark2 nx m' ((i : Int) + 1) f (o'.set Q true) y ∧ (o'.set Q true).length = n ∧ falses (o'.set Q true) = f) := by
                        refine ⟨?_, by rw [List.length_set, hj2], ?_⟩
                        · rw [hj1]
                          conv => lhs; unfold mark2
                          rw [if_pos ⟨by omega, by rw [Int.toNat_natCast, ← HZ.out]; exact hz1, by rw [Int.toNat_natCast, ← HBB.out]⟩, Int.toNat_natCast, ← HY.out]
                        · have := falses_set (k := Q) (o := o') (by rw [hj2]; exact hQ) HBB.out.symm
                          omega
                      have hF' := hF.setCell (p := ⟨w2.heap.size, Q, none⟩) (fun h => by simp only at h; omega) (.bool true)
                      have b1 : (z == (i : Int) + 1) = true := by simp [hz1]
                      clear hj1 hj2 hj3 e hM hO hF hJ hz1
                      go_wp2
                      go_roundg f
                      case measure => omega
                      case rel => exact ⟨y, _, rfl, hxb.1, hxb.2, hM', hset, hJ', hF'⟩
                    | true =>
                      have hE := Lib.hid (HEND.out (fun h => by cases h.2))
                      have hol := Lib.hid hJ.out.2.1
                      have b1 : (z == (i : Int) + 1) = true := by simp [hz1]
                      clear hz1
                      go_wp2
                      go_roundw
                      case rel => exact ⟨i + 1, m', o', by go_num, by omega, hM, hO, ⟨hE.out.symm, hfin.out.2, hol.out⟩, hF⟩
                      case measure => simp [intOf]; omega
                  · have hE := Lib.hid (HEND.out (fun h => hz1 h.1))
                    have hol := Lib.hid hJ.out.2.1
                    have b1 : (z == (i : Int) + 1) = false := by simp [hz1]
                    clear hz1
                    go_wp2
                    go_roundw
                    case rel => exact ⟨i + 1, m', o', by go_num, by omega, hM, hO, ⟨hE.out.symm, hfin.out.2, hol.out⟩, hF⟩
                    case measure => simp [intOf]; omega
                · have hE : Hid (loopSt nx (i + 1) = (m', o')) := by
                    unfold Hid
                    rw [loopSt_succ, ← hI.out.1]
                    unfold loopStep
                    simp only [hfin.out.1]
                    rw [hJ.out.1, mark2_stop (fun hh => hq0 hh.1)]
                  have hol := Lib.hid hJ.out.2.1
                  go_wp2
                  go_roundw
                  case rel => exact ⟨i + 1, m', o', by go_num, by omega, hM, hO, ⟨hE.out.symm, hfin.out.2, hol.out⟩, hF⟩
                  case measure => simp [intOf]; omega
          · have hfin : Hid (mark1 nx ((i : Int) + 1) (zeros m) m i = (m', k) ∧ m'.length = n) := ⟨by rw [hJ.out.1, mark1_stop (fun h => hk0 h.1)], hJ.out.2.1⟩
            clear hJ
            go_wp2
            go_loopg [8] (falses o) (fun f s8 wr => ∃ (k2 : Int) (o' : List Bool), s8 = .int .i64 k2 ∧ -1 ≤ k2 ∧ k2 < n ∧ Blk wr.heap w.heap.size 3 (ivals .i64 m') ∧ Blk wr.heap w2.heap.size 4 (bvals o') ∧ Hid (mark2 nx m' ((i : Int) + 1) (falses o) o k = mark2 nx m' ((i : Int) + 1) f o' k2 ∧ o'.length = n ∧ falses o' = f) ∧ Fr (fun _ => False) w wr)
            case atStart => exact ⟨_, o, rfl, by omega, by omega, hM, hO, ⟨rfl, hI.out.2.2, rfl⟩, hF⟩
            case round =>
              clear hM hO hF
              obtain ⟨k2, o', rfl, q0, qn, hM, hO, hJ, hF⟩ := hrel
              by_cases hq0 : 0 ≤ k2
              · obtain ⟨Q, rfl⟩ := Int.eq_ofNat_of_zero_le hq0
                have hQ : Q < n := by omega
                have cm := (hM.cell Q).trans (ivals_get .i64 m' Q (by rw [hfin.out.2]; exact hQ))
                have co := (hO.cell Q).trans (bvals_get o' Q (by rw [hJ.out.2.1]; exact hQ))
                have fo := hO.frozen Q
                have cx := (hF.cell (p := ⟨b, off + Q, none⟩) hb (fun h => h)).trans (HC.out w rfl Q (by rw [HN.out]; exact hQ))
                have hxb := HOK.out Q hQ
                obtain ⟨y, hy⟩ : ∃ y, y = nth nx Q := ⟨_, rfl⟩
                rw [← hy] at cx hxb
                obtain ⟨z, hz⟩ : ∃ z, z = nth m' Q := ⟨_, rfl⟩
                rw [← hz] at cm
                obtain ⟨bb, hbb⟩ : ∃ bb, bb = nth o' Q := ⟨_, rfl⟩
                rw [← hbb] at co
                have HY := Lib.hid hy
                have HZ := Lib.hid hz
                have HBB := Lib.hid hbb
                clear hy hz hbb
                have hlO := hO.lt
                have hend : ∀ (h : ¬ (z = (i : Int) + 1 ∧ bb = false)), loopSt nx (i + 1) = (m', o') := fun h => by
                  rw [loopSt_succ, ← hI.out.1]
                  unfold loopStep
                  simp only [hfin.out.1]
                  rw [hJ.out.1, mark2_stop (fun hh => h ⟨by rw [HZ.out]; simpa using hh.2.1, by rw [HBB.out]; simpa using hh.2.2⟩)]
                have HEND := Lib.hid hend
                clear hend
                by_cases hz1 : z = (i : Int) + 1
                · cases bb with
                  | false =>
                    obtain ⟨hj1, hj2, hj3⟩ := hJ.out
                    have hzp : 0 < falses o' := falses_pos (k := Q) (by rw [hj2]; exact hQ) HBB.out.symm
                    obtain ⟨f, rfl⟩ : ∃ f, gk = f + 1 := ⟨gk - 1, by omega⟩
                    have hset := hO.set Q (.bool true)
                    have e : (bvals o').set Q (.bool true) = bvals (o'.set Q true) := by simp [bvals, List.map_set]
                    rw [e] at hset
                    have hM' := hM.other (p := ⟨w2.heap.size, Q, none⟩) (by show w.heap.size ≠ w2.heap.size; omega) (.bool true)
                    have hJ' : Hid (mark2 nx m' ((i : Int) + 1) (falses o) o k = mark2 nx m' ((i : Int) + 1) f (o'.set Q true) y ∧ (o'.set Q true).length = n ∧ falses (o'.set Q true) = f) := by
                      refine ⟨?_, by rw [List.length_set, hj2], ?_⟩
                      · rw [hj1]
                        conv => lhs; unfold mark2
                        rw [if_pos ⟨by omega, by rw [Int.toNat_natCast, ← HZ.out]; exact hz1, by rw [Int.toNat_natCast, ← HBB.out]⟩, Int.toNat_natCast, ← HY.out]
                      · have := falses_set (k := Q) (o := o') (by rw [hj2]; exact hQ) HBB.out.symm
                        omega
                    have hF' := hF.setCell (p := ⟨w2.heap.size, Q, none⟩) (fun h => by simp only at h; omega) (.bool true)
                    have b1 : (z == (i : Int) + 1) = true := by simp [hz1]
                    clear hj1 hj2 hj3 e hM hO hF hJ hz1
                    go_wp2
                    go_roundg f
                    case measure => omega
                    case rel => exact ⟨y, _, rfl, hxb.1, hxb.2, hM', hset, hJ', hF'⟩
                  | true =>
                    have hE := Lib.hid (HEND.out (fun h => by cases h.2))
                    have hol := Lib.hid hJ.out.2.1
                    have b1 : (z == (i : Int) + 1) = true := by simp [hz1]
                    clear hz1
                    go_wp2
                    go_roundw
                    case rel => exact ⟨i + 1, m', o', by go_num, by omega, hM, hO, ⟨hE.out.symm, hfin.out.2, hol.out⟩, hF⟩
                    case measure => simp [intOf]; omega
                · have hE := Lib.hid (HEND.out (fun h => hz1 h.1))
                  have hol := Lib.hid hJ.out.2.1
                  have b1 : (z == (i : Int) + 1) = false := by simp [hz1]
                  clear hz1
                  go_wp2
                  go_roundw
                  case rel => exact ⟨i + 1, m', o', by go_num, by omega, hM, hO, ⟨hE.out.symm, hfin.out.2, hol.out⟩, hF⟩
                  case measure => simp [intOf]; omega
              · have hE : Hid (loopSt nx (i + 1) = (m', o')) := by
                  unfold Hid
                  rw [loopSt_succ, ← hI.out.1]
                  unfold loopStep
                  simp only [hfin.out.1]
                  rw [hJ.out.1, mark2_stop (fun hh => hq0 hh.1)]
                have hol := Lib.hid hJ.out.2.1
                go_wp2
                go_roundw
                case rel => exact ⟨i + 1, m', o', by go_num, by omega, hM, hO, ⟨hE.out.symm, hfin.out.2, hol.out⟩, hF⟩
                case measure => simp [intOf]; omega
      · obtain rfl : i = n := by omega
        have hX2 := Lib.hid (show loopsE nx = .ok (onL o i) by rw [hX.out, ← hI.out.1])
        have hol := Lib.hid hI.out.2.2
        go_wp2
        go_loopw [75, 9] (fun s75 s9 wr => ∃ (k : Nat) (ao : Option Addr) (co ml : Nat) (ob : Option Nat), s75 = .int .i64 k ∧ k ≤ i ∧ s9 = .slice ao ml co ∧ ml ≤ k ∧ Own wr.heap 3 1 ao ml co (ivals .i64 (onL o k)) ob ∧ Blk wr.heap w2.heap.size 4 (bvals o) ∧ Fr (fun _ => False) w wr ∧ (∀ g, ob = some g → w2.heap.size < g)) (fun s _ _ => i - (intOf s).toNat)
        case atStart => exact ⟨0, none, 0, 0, none, rfl, by omega, rfl, by omega, Own.nil _ _ _, hO, hF, fun g h => nomatch h⟩
        case round =>
          clear hO hF hM
          obtain ⟨k, ao, co, ml, ob, rfl, hk, rfl, hmk, hW, hO, hF, hN⟩ := hrel
          have hlO := hO.lt
          have hsz := hF.size
          by_cases hkn : k < i
          · have cb := (hO.cell k).trans (bvals_get o k (by rw [hol.out]; exact hkn))
            obtain ⟨bb, hbb⟩ : ∃ bb, bb = nth o k := ⟨_, rfl⟩
            rw [← hbb] at cb
            have HBB := Lib.hid hbb
            clear hbb
            cases bb with
            | true =>
              have hrd := (Own.made wr 3 1 1 [.int .i64 (k : Int)] rfl (by decide)).rd
              go_wp2_with (at_builtin; refine wpList_app rfl _ _ 22 rfl Tryd.underlying22 infoInt rfl (by decide) rfl rfl (hW.alloc _) hrd (ivals_one .i64 [(k : Int)]) (by omega) (by omega) ?_)
              intro a' c' w6 ob' z1 z2 z3
              have e : ivals .i64 (onL o k) ++ [.int .i64 (k : Int)] = ivals .i64 (onL o (k + 1)) := by rw [onL_yes HBB.out.symm]; simp [ivals]
              rw [e] at z1
              have hF6 := Fr.app (hF.alloc (.cells #[.int .i64 (k : Int)] 3)) z2 (fun g h => by have := hN g h; omega)
              have hO6 := (hO.alloc (.cells #[.int .i64 (k : Int)] 3)).fr z2 (fun h => by have := hN _ h; omega)
              have hN6 : ∀ g, ob' = some g → w2.heap.size < g := fun g h => by
                rcases z3 with z3 | ⟨g', z3, z4⟩
                · exact hN g (by rw [← z3, h])
                · rw [z3] at h; cases h; omega
              clear z2 z3 e hrd hW hO hF
              go_wp2
              go_roundw
              case rel => exact ⟨k + 1, a', c', ml + 1, ob', by go_num, by omega, rfl, by omega, z1, hO6, hF6, hN6⟩
              case measure => simp [intOf]; omega
            | false =>
              have hW' : Own wr.heap 3 1 ao ml co (ivals .i64 (onL o (k + 1))) ob := by rw [onL_no HBB.out.symm]; exact hW
              clear hW
              go_wp2
              go_roundw
              case rel => exact ⟨k + 1, ao, co, ml, ob, by go_num, by omega, rfl, by omega, hW', hO, hF, hN⟩
              case measure => simp [intOf]; omega
          · obtain rfl : k = i := by omega
            have hml : (onL o k).length = ml := by have := hW.len; simpa using this
            have HML := Lib.hid hml
            clear hml
            go_wp2
            go_ret2
            exact RetL.ok hX2.out ⟨ao, co, ob, by rw [HML.out]; rfl, by rw [HML.out]; exact hW, hF, fun g h => by have := hN g h; have := hF2.size; omega⟩
end Go.Proofs.YtenaboichkejhaaDoor
