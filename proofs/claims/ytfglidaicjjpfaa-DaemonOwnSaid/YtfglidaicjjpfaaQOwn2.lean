import Derived.Test.YtfglidaicjjpfaaQOwn1
section
namespace Go.Proofs.Ytfglidaicjjpfaa
open Go.RowKit
theorem rd_sub {H : Array Obj} {b off n : Nat} {l : List Int} (h : Rd H (some ⟨b, off, none⟩) n 1 (ivals .u8 l)) (i m : Nat) (hi : i + m ≤ n) : Rd H (some ⟨b, off + i, none⟩) m 1 (ivals .u8 ((l.drop i).take m)) := by
  have hl : l.length = n := by have := h.len; simpa [ivals] using this
  refine ⟨by simp [ivals]; omega, ?_⟩
  rcases h.at' with h1 | ⟨b', off', h1, h2, h3⟩
  · left
    have : l = [] := by cases l with | nil => rfl | cons x l => cases h1
    subst this; simp [ivals]
  · right
    cases h1
    refine ⟨b, off + i, rfl, h2, fun w hw j hj => ?_⟩
    have hj' : j < m ∧ i + j < l.length := by simp [ivals] at hj; omega
    rw [Nat.add_assoc, h3 w hw (i + j) (by simp [ivals]; omega)]
    simp only [ivals, List.getElem?_map]
    rw [List.getElem?_take, if_pos hj'.1, List.getElem?_drop]
/-- Twenty bytes made of fewer. -/
def RetFill (w : World) (p : List Int) (e : Ending) (w' : World) : Prop :=
  ∃ g, e = .returned (.slice (some ⟨g, 0, none⟩) 20 20) ∧ Own w'.heap 5 1 (some ⟨g, 0, none⟩) 20 20 (ivals .u8 (filledD p)) (some g) ∧ Fr (fun _ => False) w w' ∧ w.heap.size ≤ g
theorem splice_head (L cs : List Value) : splice L 0 cs = cs ++ L.drop cs.length := by simp [splice]
set_option maxRecDepth 100000 in
set_option maxHeartbeats 4000000 in
theorem filled_any {M : Nat} (p : List Int) (a : Option Addr) (c : Nat) (w : World) (hp : Rd w.heap a M 1 (ivals .u8 p)) (h1 : 1 ≤ p.length) (h20 : p.length ≤ 20) (hM : M = p.length) :
    Calls Try.prog 52 #[.slice a M c] w (RetFill w p) := by
  subst hM
  obtain ⟨b, off, rfl, hbl, hc⟩ := Ints.pos hp (by omega)
  have hlast := hc w rfl (p.length - 1) (by omega)
  have HP := Lib.hid hp
  have hF1 := (Fr.refl (fun _ => False) w).alloc (.cells #[.int .u8 0, .int .u8 2, .int .u8 0, .int .u8 0, .int .u8 0, .int .u8 0, .int .u8 0, .int .u8 0, .int .u8 255, .int .u8 255, .int .u8 255, .int .u8 255, .int .u8 0, .int .u8 0, .int .u8 0, .int .u8 0, .int .u8 0, .int .u8 0, .int .u8 0, .int .u8 1] 5)
  have hB1 : Blk (w.alloc (.cells #[.int .u8 0, .int .u8 2, .int .u8 0, .int .u8 0, .int .u8 0, .int .u8 0, .int .u8 0, .int .u8 0, .int .u8 255, .int .u8 255, .int .u8 255, .int .u8 255, .int .u8 0, .int .u8 0, .int .u8 0, .int .u8 0, .int .u8 0, .int .u8 0, .int .u8 0, .int .u8 1] 5)).heap w.heap.size 5 (ivals .u8 [0, 2, 0, 0, 0, 0, 0, 0, 255, 255, 255, 255, 0, 0, 0, 0, 0, 0, 0, 1]) := Blk.made w 5 (ivals .u8 [0, 2, 0, 0, 0, 0, 0, 0, 255, 255, 255, 255, 0, 0, 0, 0, 0, 0, 0, 1])
  have hbl1 : b < (w.alloc (.cells #[.int .u8 0, .int .u8 2, .int .u8 0, .int .u8 0, .int .u8 0, .int .u8 0, .int .u8 0, .int .u8 0, .int .u8 255, .int .u8 255, .int .u8 255, .int .u8 255, .int .u8 0, .int .u8 0, .int .u8 0, .int .u8 0, .int .u8 0, .int .u8 0, .int .u8 0, .int .u8 1] 5)).heap.size := Nat.lt_of_lt_of_le hbl hF1.size
  clear hp hc
  go_enter Try.func52, Try.ntmps52
  -- behind the choice: the twenty bytes
  have fin : ∀ (W : World) (_ : Fr (fun _ => False) w W) (B : List Int) (_ : B.length = 20) (_ : Blk W.heap w.heap.size 5 (ivals .u8 B)), CpySide W (some ⟨w.heap.size, 0, none⟩) (some ⟨b, off, none⟩) p.length 20 1 w.heap.size 0 (ivals .u8 B) (ivals .u8 p) := fun W f B hB hBk => by
    refine ⟨by simp [ivals]; omega, fun _ => ⟨rfl, ⟨b, off, none⟩, rfl, fun j v hj => ?_⟩, by simp [ivals]; omega, ivals_one .u8 p⟩
    have hr := HP.out.fr f (fun _ _ _ h => h)
    obtain ⟨b', off', e, hb', hc'⟩ := hr.pos (by omega)
    cases e
    have hjl : j < p.length := by have := (List.getElem?_eq_some_iff.1 hj).1; simpa [ivals] using this
    rw [Addr.add_lit, hc' W rfl j (by omega)]
    exact hj
  have done : ∀ (B : List Int) (_ : B.length = 20), splice (ivals .u8 B) 0 (ivals .u8 p) = ivals .u8 (p ++ B.drop p.length) := fun B hB => by rw [splice_head]; simp [ivals]
  have FIN := Lib.hid fin
  have DONE := Lib.hid done
  clear fin done
  by_cases hmid : 8 < p.length ∧ p.length < 12 ∧ nth p (p.length - 1) ≠ 255
  · obtain ⟨m1, m2, m3⟩ := hmid
    have HX := Lib.hid (show filledD p = p ++ ([0, 2, 0, 0, 0, 0, 0, 0, 0, 0, 0, 0, 0, 0, 0, 0, 0, 0, 0, 1] : List Int).drop p.length by unfold filledD baseF; rw [if_pos ⟨m1, m2, m3⟩])
    generalize nth p (p.length - 1) = z at hlast m3
    have e3 : (z != 255) = true := by simp [m3]
    have ei : ((p.length : Int) - 1) = ((p.length - 1 : Nat) : Int) := by omega
    have hlast' : w.cell? ⟨b, off + (p.length - 1), none⟩ = some (.int .u8 z) := hlast
    clear m3
    have hBm := hB1.alloc (.cells #[.int .u8 0, .int .u8 0, .int .u8 0, .int .u8 0] 5)
    have hFm := hF1.alloc (.cells #[.int .u8 0, .int .u8 0, .int .u8 0, .int .u8 0] 5)
    have hV : Blk ((w.alloc (.cells #[.int .u8 0, .int .u8 2, .int .u8 0, .int .u8 0, .int .u8 0, .int .u8 0, .int .u8 0, .int .u8 0, .int .u8 255, .int .u8 255, .int .u8 255, .int .u8 255, .int .u8 0, .int .u8 0, .int .u8 0, .int .u8 0, .int .u8 0, .int .u8 0, .int .u8 0, .int .u8 1] 5)).alloc (.cells #[.int .u8 0, .int .u8 0, .int .u8 0, .int .u8 0] 5)).heap (w.heap.size + 1) 5 (ivals .u8 [0, 0, 0, 0]) := by
      have := Blk.made (w.alloc (.cells #[.int .u8 0, .int .u8 2, .int .u8 0, .int .u8 0, .int .u8 0, .int .u8 0, .int .u8 0, .int .u8 0, .int .u8 255, .int .u8 255, .int .u8 255, .int .u8 255, .int .u8 0, .int .u8 0, .int .u8 0, .int .u8 0, .int .u8 0, .int .u8 0, .int .u8 0, .int .u8 1] 5)) 5 (ivals .u8 [0, 0, 0, 0])
      rwa [show (w.alloc (.cells #[.int .u8 0, .int .u8 2, .int .u8 0, .int .u8 0, .int .u8 0, .int .u8 0, .int .u8 0, .int .u8 0, .int .u8 255, .int .u8 255, .int .u8 255, .int .u8 255, .int .u8 0, .int .u8 0, .int .u8 0, .int .u8 0, .int .u8 0, .int .u8 0, .int .u8 0, .int .u8 1] 5)).heap.size = w.heap.size + 1 by simp] at this
    have HV := Lib.hid hV
    have HFM := Lib.hid hFm
    clear hV hB1 hF1 hFm
    go_wp2_with (with_reducible refine wpList_cpy rfl (.tmp 23) (.tmp 24) 34 34 rfl Try.underlying34 infoU8 rfl rfl (g := w.heap.size) (off := 8) hBm (cs := ivals .u8 [0, 0, 0, 0]) ?m1 ?m2)
    case m1 =>
      unfold CpySide
      exact ⟨rfl, fun _ => ⟨rfl, _, rfl, fun j v hj => by rw [Addr.add_lit, HV.out.cell, Nat.zero_add]; exact hj⟩, by decide, ivals_one .u8 _⟩
    case m2 =>
      intro w2 hB2 hF2 hs2
      have hBk : Blk w2.heap w.heap.size 5 (ivals .u8 [0, 2, 0, 0, 0, 0, 0, 0, 0, 0, 0, 0, 0, 0, 0, 0, 0, 0, 0, 1]) := hB2
      have hFk : Fr (fun _ => False) w w2 := HFM.out.trans' hF2 (fun i hi e => by have h2 : i = w.heap.size := e; omega)
      clear hB2 hF2 hBm HFM HV
      go_wp2_with (with_reducible refine wpList_cpy rfl (.tmp 26) (.tmp 27) 34 34 rfl Try.underlying34 infoU8 rfl rfl (g := w.heap.size) (off := 0) hBk (cs := ivals .u8 p) ?b1 ?b2)
      case b1 => exact FIN.out _ hFk [0, 2, 0, 0, 0, 0, 0, 0, 0, 0, 0, 0, 0, 0, 0, 0, 0, 0, 0, 1] rfl hBk
      case b2 =>
        intro w9 hB9 hF9 hs9
        have hB9' : Blk w9.heap w.heap.size 5 (ivals .u8 (p ++ ([0, 2, 0, 0, 0, 0, 0, 0, 0, 0, 0, 0, 0, 0, 0, 0, 0, 0, 0, 1] : List Int).drop p.length)) := hB9.eq (DONE.out [0, 2, 0, 0, 0, 0, 0, 0, 0, 0, 0, 0, 0, 0, 0, 0, 0, 0, 0, 1] rfl)
        have hlen : (p ++ ([0, 2, 0, 0, 0, 0, 0, 0, 0, 0, 0, 0, 0, 0, 0, 0, 0, 0, 0, 1] : List Int).drop p.length).length = 20 := by simp; omega
        have hO9 := hB9'.own (sz := 1) (n := 20) (cap := 20) (by omega) (by decide) (by simpa [ivals] using hlen)
        rw [List.take_of_length_le (by simp only [ivals, List.length_map]; omega)] at hO9
        have hF09 : Fr (fun _ => False) w w9 := hFk.trans' hF9 (fun i hi e => by have h2 : i = w.heap.size := e; omega)
        have HO9 := Lib.hid hO9
        clear hB9 hB9' hO9 hlen hBk hFk
        go_wp2
        go_ret
        exact ⟨w.heap.size, rfl, by rw [HX.out]; exact HO9.out, hF09, Nat.le_refl _⟩
  · skip
    have HX := Lib.hid (show filledD p = p ++ ([0, 2, 0, 0, 0, 0, 0, 0, 255, 255, 255, 255, 0, 0, 0, 0, 0, 0, 0, 1] : List Int).drop p.length by unfold filledD baseF; rw [if_neg hmid])
    have hm2 : p.length ≤ 8 ∨ (8 < p.length ∧ 12 ≤ p.length) ∨ (8 < p.length ∧ p.length < 12 ∧ nth p (p.length - 1) = 255) := by
      by_cases e : nth p (p.length - 1) = 255
      · omega
      · have : ¬ (8 < p.length ∧ p.length < 12) := fun h => hmid ⟨h.1, h.2, e⟩
        omega
    have hBk := hB1
    have hFk := hF1
    clear hmid hB1
    rcases hm2 with m1 | ⟨m1, m2⟩ | ⟨m1, m2, m3⟩
    · skip
      go_wp2_with (with_reducible refine wpList_cpy rfl (.tmp 26) (.tmp 27) 34 34 rfl Try.underlying34 infoU8 rfl rfl (g := w.heap.size) (off := 0) hBk (cs := ivals .u8 p) ?b1 ?b2)
      case b1 => exact FIN.out _ hFk [0, 2, 0, 0, 0, 0, 0, 0, 255, 255, 255, 255, 0, 0, 0, 0, 0, 0, 0, 1] rfl hBk
      case b2 =>
        intro w9 hB9 hF9 hs9
        have hB9' : Blk w9.heap w.heap.size 5 (ivals .u8 (p ++ ([0, 2, 0, 0, 0, 0, 0, 0, 255, 255, 255, 255, 0, 0, 0, 0, 0, 0, 0, 1] : List Int).drop p.length)) := hB9.eq (DONE.out [0, 2, 0, 0, 0, 0, 0, 0, 255, 255, 255, 255, 0, 0, 0, 0, 0, 0, 0, 1] rfl)
        have hlen : (p ++ ([0, 2, 0, 0, 0, 0, 0, 0, 255, 255, 255, 255, 0, 0, 0, 0, 0, 0, 0, 1] : List Int).drop p.length).length = 20 := by simp; omega
        have hO9 := hB9'.own (sz := 1) (n := 20) (cap := 20) (by omega) (by decide) (by simpa [ivals] using hlen)
        rw [List.take_of_length_le (by simp only [ivals, List.length_map]; omega)] at hO9
        have hF09 : Fr (fun _ => False) w w9 := hFk.trans' hF9 (fun i hi e => by have h2 : i = w.heap.size := e; omega)
        have HO9 := Lib.hid hO9
        clear hB9 hB9' hO9 hlen hBk hFk
        go_wp2
        go_ret
        exact ⟨w.heap.size, rfl, by rw [HX.out]; exact HO9.out, hF09, Nat.le_refl _⟩
    · skip
      go_wp2_with (with_reducible refine wpList_cpy rfl (.tmp 26) (.tmp 27) 34 34 rfl Try.underlying34 infoU8 rfl rfl (g := w.heap.size) (off := 0) hBk (cs := ivals .u8 p) ?b1 ?b2)
      case b1 => exact FIN.out _ hFk [0, 2, 0, 0, 0, 0, 0, 0, 255, 255, 255, 255, 0, 0, 0, 0, 0, 0, 0, 1] rfl hBk
      case b2 =>
        intro w9 hB9 hF9 hs9
        have hB9' : Blk w9.heap w.heap.size 5 (ivals .u8 (p ++ ([0, 2, 0, 0, 0, 0, 0, 0, 255, 255, 255, 255, 0, 0, 0, 0, 0, 0, 0, 1] : List Int).drop p.length)) := hB9.eq (DONE.out [0, 2, 0, 0, 0, 0, 0, 0, 255, 255, 255, 255, 0, 0, 0, 0, 0, 0, 0, 1] rfl)
        have hlen : (p ++ ([0, 2, 0, 0, 0, 0, 0, 0, 255, 255, 255, 255, 0, 0, 0, 0, 0, 0, 0, 1] : List Int).drop p.length).length = 20 := by simp; omega
        have hO9 := hB9'.own (sz := 1) (n := 20) (cap := 20) (by omega) (by decide) (by simpa [ivals] using hlen)
        rw [List.take_of_length_le (by simp only [ivals, List.length_map]; omega)] at hO9
        have hF09 : Fr (fun _ => False) w w9 := hFk.trans' hF9 (fun i hi e => by have h2 : i = w.heap.size := e; omega)
        have HO9 := Lib.hid hO9
        clear hB9 hB9' hO9 hlen hBk hFk
        go_wp2
        go_ret
        exact ⟨w.heap.size, rfl, by rw [HX.out]; exact HO9.out, hF09, Nat.le_refl _⟩
    · rw [m3] at hlast
      go_wp2_with (with_reducible refine wpList_cpy rfl (.tmp 26) (.tmp 27) 34 34 rfl Try.underlying34 infoU8 rfl rfl (g := w.heap.size) (off := 0) hBk (cs := ivals .u8 p) ?b1 ?b2)
      case b1 => exact FIN.out _ hFk [0, 2, 0, 0, 0, 0, 0, 0, 255, 255, 255, 255, 0, 0, 0, 0, 0, 0, 0, 1] rfl hBk
      case b2 =>
        intro w9 hB9 hF9 hs9
        have hB9' : Blk w9.heap w.heap.size 5 (ivals .u8 (p ++ ([0, 2, 0, 0, 0, 0, 0, 0, 255, 255, 255, 255, 0, 0, 0, 0, 0, 0, 0, 1] : List Int).drop p.length)) := hB9.eq (DONE.out [0, 2, 0, 0, 0, 0, 0, 0, 255, 255, 255, 255, 0, 0, 0, 0, 0, 0, 0, 1] rfl)
        have hlen : (p ++ ([0, 2, 0, 0, 0, 0, 0, 0, 255, 255, 255, 255, 0, 0, 0, 0, 0, 0, 0, 1] : List Int).drop p.length).length = 20 := by simp; omega
        have hO9 := hB9'.own (sz := 1) (n := 20) (cap := 20) (by omega) (by decide) (by simpa [ivals] using hlen)
        rw [List.take_of_length_le (by simp only [ivals, List.length_map]; omega)] at hO9
        have hF09 : Fr (fun _ => False) w w9 := hFk.trans' hF9 (fun i hi e => by have h2 : i = w.heap.size := e; omega)
        have HO9 := Lib.hid hO9
        clear hB9 hB9' hO9 hlen hBk hFk
        go_wp2
        go_ret
        exact ⟨w.heap.size, rfl, by rw [HX.out]; exact HO9.out, hF09, Nat.le_refl _⟩
end Go.Proofs.Ytfglidaicjjpfaa
end

section
namespace Go.Proofs.Ytfglidaicjjpfaa
open Go.RowKit
/-- An entry of twenty bytes; is it one? -/
def RetEnt (w : World) (r : Option En) (e : Ending) (w' : World) : Prop :=
  ∃ x : En, e = .returned (.tuple #[.agg #[.int .u32 x.a, .int .i64 x.n, .int .i64 x.t, .int .u32 x.p, .int .i64 x.m], .bool r.isSome]) ∧ Fr (fun _ => False) w w' ∧ (∀ y, r = some y → y = x) ∧ En.wf x
theorem put5 {w : World} {g : Nat} {E : TypeId} {c0 c1 c2 c3 c4 : Value} (h : Blk w.heap g E [c0, c1, c2, c3, c4]) (u0 u1 u2 u3 u4 : Value) :
    Blk (((((w.setCell ⟨g, 0, none⟩ u0).setCell ⟨g, 1, none⟩ u1).setCell ⟨g, 2, none⟩ u2).setCell ⟨g, 3, none⟩ u3).setCell ⟨g, 4, none⟩ u4).heap g E [u0, u1, u2, u3, u4] ∧ Fr (fun k => k = g) w (((((w.setCell ⟨g, 0, none⟩ u0).setCell ⟨g, 1, none⟩ u1).setCell ⟨g, 2, none⟩ u2).setCell ⟨g, 3, none⟩ u3).setCell ⟨g, 4, none⟩ u4) :=
  ⟨((((h.set 0 u0).set 1 u1).set 2 u2).set 3 u3).set 4 u4, (((((Fr.refl (fun k => k = g) w).setCell (p := ⟨g, 0, none⟩) (fun _ => rfl) u0).setCell (p := ⟨g, 1, none⟩) (fun _ => rfl) u1).setCell (p := ⟨g, 2, none⟩) (fun _ => rfl) u2).setCell (p := ⟨g, 3, none⟩) (fun _ => rfl) u3).setCell (p := ⟨g, 4, none⟩) (fun _ => rfl) u4⟩
theorem entD_eq {l : List Int} : entD l = match mlenO (numB ((l.drop 8).take 4)) with
  | none => none
  | some k => if numB (l.take 2) = 2 ∧ entErr ⟨numB ((l.drop 4).take 4), k, numB ((l.drop 2).take 2), numB ((l.drop 12).take 4), numB ((l.drop 16).take 4)⟩ = none then
      some ⟨numB ((l.drop 4).take 4), k, numB ((l.drop 2).take 2), numB ((l.drop 12).take 4), numB ((l.drop 16).take 4)⟩ else none := rfl
set_option maxRecDepth 100000 in
set_option maxHeartbeats 2000000 in
theorem entry_any (l : List Int) (g : Nat) (w : World) (hL : Rd w.heap (some ⟨g, 0, none⟩) 20 1 (ivals .u8 l)) (hb : ∀ x ∈ l, 0 ≤ x ∧ x < 256) :
    Calls Try.prog 51 #[.slice (some ⟨g, 0, none⟩) 20 20] w (RetEnt w (entD l)) := by
  have hll : l.length = 20 := by have := hL.len; simpa [ivals] using this
  have num : ∀ (i m c : Nat) (_ : i + m ≤ 20) (W : World) (_ : Fr (fun _ => False) w W), Calls Try.prog 67 #[.slice (some ⟨g, i, none⟩) m c] W (RetV W (.int .u32 (numB ((l.drop i).take m)))) := fun i m c him W f => by
    have h := rd_sub (hL.fr f (fun _ _ _ h => h)) i m him
    rw [Nat.zero_add] at h
    exact (number_any ((l.drop i).take m) (some ⟨g, i, none⟩) c W h (fun x hx => hb x (List.mem_of_mem_drop (List.mem_of_mem_take hx))) (by simp; omega) (by simp; omega)).mono fun e w' hh => hh.v
  have bd : ∀ i m, 0 ≤ numB ((l.drop i).take m) ∧ numB ((l.drop i).take m) < 4294967296 := fun i m => numB_bd (fun x hx => hb x (List.mem_of_mem_drop (List.mem_of_mem_take hx)))
  have hD := entD_eq (l := l)
  rw [show l.take 2 = (l.drop 0).take 2 from rfl] at hD
  have n0 := num 0 2 20 (by omega)
  have n2 := num 2 2 18 (by omega)
  have n4 := num 4 4 16 (by omega)
  have n8 := num 8 4 12 (by omega)
  have n12 := num 12 4 8 (by omega)
  have n16 := num 16 4 4 (by omega)
  have b2 := bd 2 2
  have b4 := bd 4 4
  have b8 := bd 8 4
  have b12 := bd 12 4
  have b16 := bd 16 4
  generalize numB ((l.drop 0).take 2) = N0 at *
  generalize numB ((l.drop 2).take 2) = N2 at *
  generalize numB ((l.drop 4).take 4) = N4 at *
  generalize numB ((l.drop 8).take 4) = N8 at *
  generalize numB ((l.drop 12).take 4) = N12 at *
  generalize numB ((l.drop 16).take 4) = N16 at *
  have M0 := Lib.hid n0
  have M2 := Lib.hid n2
  have M4 := Lib.hid n4
  have M12 := Lib.hid n12
  have M16 := Lib.hid n16
  have HD := Lib.hid hD
  have hF0 := (Fr.refl (fun _ => False) w).alloc (.cells #[.int .u32 0, .int .i64 0, .int .i64 0, .int .u32 0, .int .i64 0] 45)
  have hB0 := Blk.made w 45 [.int .u32 0, .int .i64 0, .int .i64 0, .int .u32 0, .int .i64 0]
  have hs0 : (w.alloc (.cells #[.int .u32 0, .int .i64 0, .int .i64 0, .int .u32 0, .int .i64 0] 45)).heap.size = w.heap.size + 1 := by simp
  obtain ⟨R, hR⟩ : ∃ R, R = entD l := ⟨_, rfl⟩
  rw [← hR] at HD ⊢
  clear num bd hD n0 n2 n4 n12 n16 hL hR hb
  go_enter Try.func51, Try.ntmps51
  go_wp2_with (fail)
  refine (n8 _ hF0).mono ?_
  rintro e1 w1 ⟨rfl, hF1⟩
  have hF01 := hF0.trans hF1
  have hB1 := hB0.fr hF1 (fun h => h)
  clear hF0 hF1 hB0 n8
  go_wp2_with (fail)
  refine (masklen_any N8 w1 b8).mono ?_
  intro e2 w2 R2
  obtain ⟨K, er, hK, rfl, rfl, hKD⟩ : ∃ (K : Nat) (er : Value), K ≤ 32 ∧ e2 = .returned (.tuple #[.int .i64 K, er]) ∧ w2 = w1 ∧ ((er = errv 3 ∧ mlenO N8 = none) ∨ (er = .nilIface ∧ mlenO N8 = some K)) := by
    obtain ⟨h1, h2⟩ := R2
    cases hm : mlenO N8 with
    | none => rw [hm] at h1; exact ⟨0, errv 3, by omega, h1, h2, .inl ⟨rfl, rfl⟩⟩
    | some k => rw [hm] at h1; exact ⟨k, .nilIface, (mlenO_some hm).1, h1, h2, .inr ⟨rfl, rfl⟩⟩
  have HKD := Lib.hid hKD
  clear R2 hKD
  go_upto_region 2 with (fail)
  obtain ⟨W, hW⟩ : ∃ W, W = w2 := ⟨_, rfl⟩
  subst hW
  go_cut [6] (fun s6 wx => ∃ p : Nat, s6 = .pointer (some ⟨p, 0, none⟩) ∧ Blk wx.heap p 45 [.int .u32 N4, .int .i64 K, .int .i64 N2, .int .u32 N12, .int .i64 N16] ∧ Fr (fun _ => False) W wx ∧ W.heap.size ≤ p)
  case first =>
    have hFW := hF01
    (refine wp_region_tree (fun w' => ∃ c : Cls (fun _ => False) W, w' = c.wo) 18 (by kernel_rfl) (by kernel_rfl) (⟨⟨_, (Fr.refl _ _).drew⟩, rfl⟩) ?_; intro hTB)
    (refine tr_late hTB (⟨⟨_, (Fr.refl _ _).drew⟩, rfl⟩) 0 2 _ rfl (by decide) (by kernel_rfl) ?_; simp only [List.take_succ_cons, List.take_zero, List.drop_succ_cons, List.drop_zero]; (repeat (go_big_quiet_step (fail))); refine wpQuiet_nil ?_)
    (refine tr_late hTB (⟨⟨_, (Fr.refl _ _).drew⟩, rfl⟩) 3 1 _ rfl (by decide) (by kernel_rfl) ?_; simp only [List.take_succ_cons, List.take_zero, List.drop_succ_cons, List.drop_zero]; (repeat (go_big_quiet_step (fail))); refine wpQuiet_nil ?_)
    (refine tr_late hTB (⟨⟨_, (Fr.refl _ _).drew⟩, rfl⟩) 5 2 _ rfl (by decide) (by kernel_rfl) ?_; simp only [List.take_succ_cons, List.take_zero, List.drop_succ_cons, List.drop_zero]; (repeat (go_big_quiet_step (fail))); refine wpQuiet_nil ?_)
    (refine tr_late hTB (⟨⟨_, (Fr.refl _ _).drew⟩, rfl⟩) 9 2 _ rfl (by decide) (by kernel_rfl) ?_; simp only [List.take_succ_cons, List.take_zero, List.drop_succ_cons, List.drop_zero]; (repeat (go_big_quiet_step (fail))); refine wpQuiet_nil ?_)
    (refine tr_late hTB (⟨⟨_, (Fr.refl _ _).drew⟩, rfl⟩) 12 2 _ rfl (by decide) (by kernel_rfl) ?_; simp only [List.take_succ_cons, List.take_zero, List.drop_succ_cons, List.drop_zero]; (repeat (go_big_quiet_step (fail))); refine wpQuiet_nil ?_)
    (refine tr_eff [2, 17] _ rfl (by kernel_rfl) (by kernel_rfl) (List.forall_mem_cons.2 ⟨?_, List.forall_mem_cons.2 ⟨?_, fun _ h => nomatch h⟩⟩)) <;> (unfold TrE; simp only [List.take_succ_cons, List.take_zero, List.drop_succ_cons, List.drop_zero])
    · go_wp2_with (fail)
      refine (M4.out _ (hF01.trans ((Fr.refl (fun _ => False) W).drew))).mono ?_
      rintro e2 w2 ⟨rfl, hH2⟩
      have hG2 : Fr (fun _ => False) W w2 := ((Fr.refl (fun _ => False) W).drew).trans hH2
      clear hH2
      go_wp2
      refine ⟨⟨⟨_, hG2⟩, rfl⟩, ?_⟩
      (refine tr_late hTB (⟨⟨_, (Fr.refl _ _).drew⟩, rfl⟩) 4 1 _ rfl (by decide) (by kernel_rfl) ?_; simp only [List.take_succ_cons, List.take_zero, List.drop_succ_cons, List.drop_zero]; (repeat (go_big_quiet_step (fail))); refine wpQuiet_nil ?_)
      (refine tr_eff [7, 17] _ rfl (by kernel_rfl) (by kernel_rfl) (List.forall_mem_cons.2 ⟨?_, List.forall_mem_cons.2 ⟨?_, fun _ h => nomatch h⟩⟩)) <;> (unfold TrE; simp only [List.take_succ_cons, List.take_zero, List.drop_succ_cons, List.drop_zero])
      · go_wp2_with (fail)
        refine (M2.out _ (hF01.trans (hG2))).mono ?_
        rintro e7 w7 ⟨rfl, hH7⟩
        have hG7 : Fr (fun _ => False) W w7 := (hG2).trans hH7
        clear hH7
        go_wp2
        refine ⟨⟨⟨_, hG7⟩, rfl⟩, ?_⟩
        (refine tr_late hTB (⟨⟨_, (Fr.refl _ _).drew⟩, rfl⟩) 8 1 _ rfl (by decide) (by kernel_rfl) ?_; simp only [List.take_succ_cons, List.take_zero, List.drop_succ_cons, List.drop_zero]; (repeat (go_big_quiet_step (fail))); refine wpQuiet_nil ?_)
        (refine tr_eff [11, 17] _ rfl (by kernel_rfl) (by kernel_rfl) (List.forall_mem_cons.2 ⟨?_, List.forall_mem_cons.2 ⟨?_, fun _ h => nomatch h⟩⟩)) <;> (unfold TrE; simp only [List.take_succ_cons, List.take_zero, List.drop_succ_cons, List.drop_zero])
        · go_wp2_with (fail)
          refine (M12.out _ (hF01.trans (hG7))).mono ?_
          rintro e11 w11 ⟨rfl, hH11⟩
          have hG11 : Fr (fun _ => False) W w11 := (hG7).trans hH11
          clear hH11
          go_wp2
          refine ⟨⟨⟨_, hG11⟩, rfl⟩, ?_⟩
          (refine tr_eff [14, 17] _ rfl (by kernel_rfl) (by kernel_rfl) (List.forall_mem_cons.2 ⟨?_, List.forall_mem_cons.2 ⟨?_, fun _ h => nomatch h⟩⟩)) <;> (unfold TrE; simp only [List.take_succ_cons, List.take_zero, List.drop_succ_cons, List.drop_zero])
          · go_wp2_with (fail)
            refine (M16.out _ (hF01.trans (hG11))).mono ?_
            rintro e14 w14 ⟨rfl, hH14⟩
            have hG14 : Fr (fun _ => False) W w14 := (hG11).trans hH14
            clear hH14
            go_wp2
            refine ⟨⟨⟨_, hG14⟩, rfl⟩, ?_⟩
            (refine tr_late hTB (⟨⟨_, (Fr.refl _ _).drew⟩, rfl⟩) 15 2 _ rfl (by decide) (by kernel_rfl) ?_; simp only [List.take_succ_cons, List.take_zero, List.drop_succ_cons, List.drop_zero]; (repeat (go_big_quiet_step (fail))); refine wpQuiet_nil ?_)
            (refine tr_eff [17] _ rfl (by kernel_rfl) (by kernel_rfl) (List.forall_mem_cons.2 ⟨?_, fun _ h => nomatch h⟩)) <;> (unfold TrE; simp only [List.take_succ_cons, List.take_zero, List.drop_succ_cons, List.drop_zero])
            · go_wp2
              refine ⟨⟨⟨_, hG14.alloc (.cells #[.int .u32 0, .int .i64 0, .int .i64 0, .int .u32 0, .int .i64 0] 45)⟩, rfl⟩, ?_⟩
              refine tr_end (by kernel_rfl) ?_
              have HP := Lib.hid (Blk.made w14 45 [.int .u32 N4, .int .i64 K, .int .i64 N2, .int .u32 N12, .int .i64 N16])
              have HG := Lib.hid (hG14.alloc (.cells #[.int .u32 N4, .int .i64 K, .int .i64 N2, .int .u32 N12, .int .i64 N16] 45))
              have hSl := hG14.size
              clear hG14
              go_wp2
              go_meet
              case rel => exact ⟨w14.heap.size, rfl, HP.out, HG.out, hSl⟩
          · go_wp2
            refine ⟨⟨⟨_, hG11.alloc (.cells #[.int .u32 0, .int .i64 0, .int .i64 0, .int .u32 0, .int .i64 0] 45)⟩, rfl⟩, ?_⟩
            have hGz3 := hG11.alloc (.cells #[.int .u32 0, .int .i64 0, .int .i64 0, .int .u32 0, .int .i64 0] 45)
            have hPz3 := Blk.made w11 45 [.int .u32 0, .int .i64 0, .int .i64 0, .int .u32 0, .int .i64 0]
            have hSz3 := hG11.size
            generalize hXz3 : w11.alloc (.cells #[.int .u32 0, .int .i64 0, .int .i64 0, .int .u32 0, .int .i64 0] 45) = wz3 at *
            (refine tr_eff [14] _ rfl (by kernel_rfl) (by kernel_rfl) (List.forall_mem_cons.2 ⟨?_, fun _ h => nomatch h⟩)) <;> (unfold TrE; simp only [List.take_succ_cons, List.take_zero, List.drop_succ_cons, List.drop_zero])
            · go_wp2_with (fail)
              refine (M16.out _ (hF01.trans (hGz3))).mono ?_
              rintro e14z3 w14z3 ⟨rfl, hH14z3⟩
              have hG14z3 : Fr (fun _ => False) W w14z3 := (hGz3).trans hH14z3
              have hP14z3 := hPz3.fr hH14z3 (fun h => h)
              clear hH14z3
              go_wp2
              refine ⟨⟨⟨_, hG14z3⟩, rfl⟩, ?_⟩
              (refine tr_late hTB (⟨⟨_, (Fr.refl _ _).drew⟩, rfl⟩) 15 2 _ rfl (by decide) (by kernel_rfl) ?_; simp only [List.take_succ_cons, List.take_zero, List.drop_succ_cons, List.drop_zero]; (repeat (go_big_quiet_step (fail))); refine wpQuiet_nil ?_)
              refine tr_end (by kernel_rfl) ?_
              obtain ⟨q1, q2⟩ := put5 hP14z3 (.int .u32 N4) (.int .i64 K) (.int .i64 N2) (.int .u32 N12) (.int .i64 N16)
              have f0 := hP14z3.frozen 0
              have f1 := hP14z3.frozen 1
              have f2 := hP14z3.frozen 2
              have f3 := hP14z3.frozen 3
              have f4 := hP14z3.frozen 4
              have g0 := hP14z3.cell 0
              have g1 := hP14z3.cell 1
              have g2 := hP14z3.cell 2
              have g3 := hP14z3.cell 3
              have g4 := hP14z3.cell 4
              have gl := hP14z3.lt
              simp only [List.getElem?_cons_succ, List.getElem?_cons_zero] at g0 g1 g2 g3 g4
              have HQ1 := Lib.hid q1
              have HQ2 := Lib.hid (hG14z3.trans' q2 (fun i hi e => by have h2 : i = w11.heap.size := e; omega))
              have hpa : W.heap.size ≤ w11.heap.size := by first | exact Nat.le_refl _ | (have := hG11.size; omega)
              clear q1 q2 hP14z3 hG14z3
              go_wp2
              go_meet
              case rel => exact ⟨_, rfl, HQ1.out, HQ2.out, hpa⟩
        · go_wp2
          refine ⟨⟨⟨_, hG7.alloc (.cells #[.int .u32 0, .int .i64 0, .int .i64 0, .int .u32 0, .int .i64 0] 45)⟩, rfl⟩, ?_⟩
          have hGz2 := hG7.alloc (.cells #[.int .u32 0, .int .i64 0, .int .i64 0, .int .u32 0, .int .i64 0] 45)
          have hPz2 := Blk.made w7 45 [.int .u32 0, .int .i64 0, .int .i64 0, .int .u32 0, .int .i64 0]
          have hSz2 := hG7.size
          generalize hXz2 : w7.alloc (.cells #[.int .u32 0, .int .i64 0, .int .i64 0, .int .u32 0, .int .i64 0] 45) = wz2 at *
          (refine tr_eff [11] _ rfl (by kernel_rfl) (by kernel_rfl) (List.forall_mem_cons.2 ⟨?_, fun _ h => nomatch h⟩)) <;> (unfold TrE; simp only [List.take_succ_cons, List.take_zero, List.drop_succ_cons, List.drop_zero])
          · go_wp2_with (fail)
            refine (M12.out _ (hF01.trans (hGz2))).mono ?_
            rintro e11z2 w11z2 ⟨rfl, hH11z2⟩
            have hG11z2 : Fr (fun _ => False) W w11z2 := (hGz2).trans hH11z2
            have hP11z2 := hPz2.fr hH11z2 (fun h => h)
            clear hH11z2
            go_wp2
            refine ⟨⟨⟨_, hG11z2⟩, rfl⟩, ?_⟩
            (refine tr_eff [14] _ rfl (by kernel_rfl) (by kernel_rfl) (List.forall_mem_cons.2 ⟨?_, fun _ h => nomatch h⟩)) <;> (unfold TrE; simp only [List.take_succ_cons, List.take_zero, List.drop_succ_cons, List.drop_zero])
            · go_wp2_with (fail)
              refine (M16.out _ (hF01.trans (hG11z2))).mono ?_
              rintro e14z2 w14z2 ⟨rfl, hH14z2⟩
              have hG14z2 : Fr (fun _ => False) W w14z2 := (hG11z2).trans hH14z2
              have hP14z2 := hP11z2.fr hH14z2 (fun h => h)
              clear hH14z2
              go_wp2
              refine ⟨⟨⟨_, hG14z2⟩, rfl⟩, ?_⟩
              (refine tr_late hTB (⟨⟨_, (Fr.refl _ _).drew⟩, rfl⟩) 15 2 _ rfl (by decide) (by kernel_rfl) ?_; simp only [List.take_succ_cons, List.take_zero, List.drop_succ_cons, List.drop_zero]; (repeat (go_big_quiet_step (fail))); refine wpQuiet_nil ?_)
              refine tr_end (by kernel_rfl) ?_
              obtain ⟨q1, q2⟩ := put5 hP14z2 (.int .u32 N4) (.int .i64 K) (.int .i64 N2) (.int .u32 N12) (.int .i64 N16)
              have f0 := hP14z2.frozen 0
              have f1 := hP14z2.frozen 1
              have f2 := hP14z2.frozen 2
              have f3 := hP14z2.frozen 3
              have f4 := hP14z2.frozen 4
              have g0 := hP14z2.cell 0
              have g1 := hP14z2.cell 1
              have g2 := hP14z2.cell 2
              have g3 := hP14z2.cell 3
              have g4 := hP14z2.cell 4
              have gl := hP14z2.lt
              simp only [List.getElem?_cons_succ, List.getElem?_cons_zero] at g0 g1 g2 g3 g4
              have HQ1 := Lib.hid q1
              have HQ2 := Lib.hid (hG14z2.trans' q2 (fun i hi e => by have h2 : i = w7.heap.size := e; omega))
              have hpa : W.heap.size ≤ w7.heap.size := by first | exact Nat.le_refl _ | (have := hG7.size; omega)
              clear q1 q2 hP14z2 hG14z2
              go_wp2
              go_meet
              case rel => exact ⟨_, rfl, HQ1.out, HQ2.out, hpa⟩
      · go_wp2
        refine ⟨⟨⟨_, hG2.alloc (.cells #[.int .u32 0, .int .i64 0, .int .i64 0, .int .u32 0, .int .i64 0] 45)⟩, rfl⟩, ?_⟩
        have hGz1 := hG2.alloc (.cells #[.int .u32 0, .int .i64 0, .int .i64 0, .int .u32 0, .int .i64 0] 45)
        have hPz1 := Blk.made w2 45 [.int .u32 0, .int .i64 0, .int .i64 0, .int .u32 0, .int .i64 0]
        have hSz1 := hG2.size
        generalize hXz1 : w2.alloc (.cells #[.int .u32 0, .int .i64 0, .int .i64 0, .int .u32 0, .int .i64 0] 45) = wz1 at *
        (refine tr_eff [7] _ rfl (by kernel_rfl) (by kernel_rfl) (List.forall_mem_cons.2 ⟨?_, fun _ h => nomatch h⟩)) <;> (unfold TrE; simp only [List.take_succ_cons, List.take_zero, List.drop_succ_cons, List.drop_zero])
        · go_wp2_with (fail)
          refine (M2.out _ (hF01.trans (hGz1))).mono ?_
          rintro e7z1 w7z1 ⟨rfl, hH7z1⟩
          have hG7z1 : Fr (fun _ => False) W w7z1 := (hGz1).trans hH7z1
          have hP7z1 := hPz1.fr hH7z1 (fun h => h)
          clear hH7z1
          go_wp2
          refine ⟨⟨⟨_, hG7z1⟩, rfl⟩, ?_⟩
          (refine tr_late hTB (⟨⟨_, (Fr.refl _ _).drew⟩, rfl⟩) 8 1 _ rfl (by decide) (by kernel_rfl) ?_; simp only [List.take_succ_cons, List.take_zero, List.drop_succ_cons, List.drop_zero]; (repeat (go_big_quiet_step (fail))); refine wpQuiet_nil ?_)
          (refine tr_eff [11] _ rfl (by kernel_rfl) (by kernel_rfl) (List.forall_mem_cons.2 ⟨?_, fun _ h => nomatch h⟩)) <;> (unfold TrE; simp only [List.take_succ_cons, List.take_zero, List.drop_succ_cons, List.drop_zero])
          · go_wp2_with (fail)
            refine (M12.out _ (hF01.trans (hG7z1))).mono ?_
            rintro e11z1 w11z1 ⟨rfl, hH11z1⟩
            have hG11z1 : Fr (fun _ => False) W w11z1 := (hG7z1).trans hH11z1
            have hP11z1 := hP7z1.fr hH11z1 (fun h => h)
            clear hH11z1
            go_wp2
            refine ⟨⟨⟨_, hG11z1⟩, rfl⟩, ?_⟩
            (refine tr_eff [14] _ rfl (by kernel_rfl) (by kernel_rfl) (List.forall_mem_cons.2 ⟨?_, fun _ h => nomatch h⟩)) <;> (unfold TrE; simp only [List.take_succ_cons, List.take_zero, List.drop_succ_cons, List.drop_zero])
            · go_wp2_with (fail)
              refine (M16.out _ (hF01.trans (hG11z1))).mono ?_
              rintro e14z1 w14z1 ⟨rfl, hH14z1⟩
              have hG14z1 : Fr (fun _ => False) W w14z1 := (hG11z1).trans hH14z1
              have hP14z1 := hP11z1.fr hH14z1 (fun h => h)
              clear hH14z1
              go_wp2
              refine ⟨⟨⟨_, hG14z1⟩, rfl⟩, ?_⟩
              (refine tr_late hTB (⟨⟨_, (Fr.refl _ _).drew⟩, rfl⟩) 15 2 _ rfl (by decide) (by kernel_rfl) ?_; simp only [List.take_succ_cons, List.take_zero, List.drop_succ_cons, List.drop_zero]; (repeat (go_big_quiet_step (fail))); refine wpQuiet_nil ?_)
              refine tr_end (by kernel_rfl) ?_
              obtain ⟨q1, q2⟩ := put5 hP14z1 (.int .u32 N4) (.int .i64 K) (.int .i64 N2) (.int .u32 N12) (.int .i64 N16)
              have f0 := hP14z1.frozen 0
              have f1 := hP14z1.frozen 1
              have f2 := hP14z1.frozen 2
              have f3 := hP14z1.frozen 3
              have f4 := hP14z1.frozen 4
              have g0 := hP14z1.cell 0
              have g1 := hP14z1.cell 1
              have g2 := hP14z1.cell 2
              have g3 := hP14z1.cell 3
              have g4 := hP14z1.cell 4
              have gl := hP14z1.lt
              simp only [List.getElem?_cons_succ, List.getElem?_cons_zero] at g0 g1 g2 g3 g4
              have HQ1 := Lib.hid q1
              have HQ2 := Lib.hid (hG14z1.trans' q2 (fun i hi e => by have h2 : i = w2.heap.size := e; omega))
              have hpa : W.heap.size ≤ w2.heap.size := by first | exact Nat.le_refl _ | (have := hG2.size; omega)
              clear q1 q2 hP14z1 hG14z1
              go_wp2
              go_meet
              case rel => exact ⟨_, rfl, HQ1.out, HQ2.out, hpa⟩
    · go_wp2
      refine ⟨⟨⟨_, ((Fr.refl _ W).alloc (.cells #[.int .u32 0, .int .i64 0, .int .i64 0, .int .u32 0, .int .i64 0] 45)).drew⟩, rfl⟩, ?_⟩
      have hGz0 : Fr (fun _ => False) W (W.alloc (.cells #[.int .u32 0, .int .i64 0, .int .i64 0, .int .u32 0, .int .i64 0] 45)).drew := ((Fr.refl _ W).alloc (.cells #[.int .u32 0, .int .i64 0, .int .i64 0, .int .u32 0, .int .i64 0] 45)).drew
      have hPz0 : Blk (W.alloc (.cells #[.int .u32 0, .int .i64 0, .int .i64 0, .int .u32 0, .int .i64 0] 45)).drew.heap W.heap.size 45 [.int .u32 0, .int .i64 0, .int .i64 0, .int .u32 0, .int .i64 0] := Blk.made W 45 [.int .u32 0, .int .i64 0, .int .i64 0, .int .u32 0, .int .i64 0]
      generalize hXz0 : (W.alloc (.cells #[.int .u32 0, .int .i64 0, .int .i64 0, .int .u32 0, .int .i64 0] 45)).drew = wz0 at *
      (refine tr_eff [2] _ rfl (by kernel_rfl) (by kernel_rfl) (List.forall_mem_cons.2 ⟨?_, fun _ h => nomatch h⟩)) <;> (unfold TrE; simp only [List.take_succ_cons, List.take_zero, List.drop_succ_cons, List.drop_zero])
      · go_wp2_with (fail)
        refine (M4.out _ (hF01.trans (hGz0))).mono ?_
        rintro e2z0 w2z0 ⟨rfl, hH2z0⟩
        have hG2z0 : Fr (fun _ => False) W w2z0 := (hGz0).trans hH2z0
        have hP2z0 := hPz0.fr hH2z0 (fun h => h)
        clear hH2z0
        go_wp2
        refine ⟨⟨⟨_, hG2z0⟩, rfl⟩, ?_⟩
        (refine tr_late hTB (⟨⟨_, (Fr.refl _ _).drew⟩, rfl⟩) 4 1 _ rfl (by decide) (by kernel_rfl) ?_; simp only [List.take_succ_cons, List.take_zero, List.drop_succ_cons, List.drop_zero]; (repeat (go_big_quiet_step (fail))); refine wpQuiet_nil ?_)
        (refine tr_eff [7] _ rfl (by kernel_rfl) (by kernel_rfl) (List.forall_mem_cons.2 ⟨?_, fun _ h => nomatch h⟩)) <;> (unfold TrE; simp only [List.take_succ_cons, List.take_zero, List.drop_succ_cons, List.drop_zero])
        · go_wp2_with (fail)
          refine (M2.out _ (hF01.trans (hG2z0))).mono ?_
          rintro e7z0 w7z0 ⟨rfl, hH7z0⟩
          have hG7z0 : Fr (fun _ => False) W w7z0 := (hG2z0).trans hH7z0
          have hP7z0 := hP2z0.fr hH7z0 (fun h => h)
          clear hH7z0
          go_wp2
          refine ⟨⟨⟨_, hG7z0⟩, rfl⟩, ?_⟩
          (refine tr_late hTB (⟨⟨_, (Fr.refl _ _).drew⟩, rfl⟩) 8 1 _ rfl (by decide) (by kernel_rfl) ?_; simp only [List.take_succ_cons, List.take_zero, List.drop_succ_cons, List.drop_zero]; (repeat (go_big_quiet_step (fail))); refine wpQuiet_nil ?_)
          (refine tr_eff [11] _ rfl (by kernel_rfl) (by kernel_rfl) (List.forall_mem_cons.2 ⟨?_, fun _ h => nomatch h⟩)) <;> (unfold TrE; simp only [List.take_succ_cons, List.take_zero, List.drop_succ_cons, List.drop_zero])
          · go_wp2_with (fail)
            refine (M12.out _ (hF01.trans (hG7z0))).mono ?_
            rintro e11z0 w11z0 ⟨rfl, hH11z0⟩
            have hG11z0 : Fr (fun _ => False) W w11z0 := (hG7z0).trans hH11z0
            have hP11z0 := hP7z0.fr hH11z0 (fun h => h)
            clear hH11z0
            go_wp2
            refine ⟨⟨⟨_, hG11z0⟩, rfl⟩, ?_⟩
            (refine tr_eff [14] _ rfl (by kernel_rfl) (by kernel_rfl) (List.forall_mem_cons.2 ⟨?_, fun _ h => nomatch h⟩)) <;> (unfold TrE; simp only [List.take_succ_cons, List.take_zero, List.drop_succ_cons, List.drop_zero])
            · go_wp2_with (fail)
              refine (M16.out _ (hF01.trans (hG11z0))).mono ?_
              rintro e14z0 w14z0 ⟨rfl, hH14z0⟩
              have hG14z0 : Fr (fun _ => False) W w14z0 := (hG11z0).trans hH14z0
              have hP14z0 := hP11z0.fr hH14z0 (fun h => h)
              clear hH14z0
              go_wp2
              refine ⟨⟨⟨_, hG14z0⟩, rfl⟩, ?_⟩
              (refine tr_late hTB (⟨⟨_, (Fr.refl _ _).drew⟩, rfl⟩) 15 2 _ rfl (by decide) (by kernel_rfl) ?_; simp only [List.take_succ_cons, List.take_zero, List.drop_succ_cons, List.drop_zero]; (repeat (go_big_quiet_step (fail))); refine wpQuiet_nil ?_)
              refine tr_end (by kernel_rfl) ?_
              obtain ⟨q1, q2⟩ := put5 hP14z0 (.int .u32 N4) (.int .i64 K) (.int .i64 N2) (.int .u32 N12) (.int .i64 N16)
              have f0 := hP14z0.frozen 0
              have f1 := hP14z0.frozen 1
              have f2 := hP14z0.frozen 2
              have f3 := hP14z0.frozen 3
              have f4 := hP14z0.frozen 4
              have g0 := hP14z0.cell 0
              have g1 := hP14z0.cell 1
              have g2 := hP14z0.cell 2
              have g3 := hP14z0.cell 3
              have g4 := hP14z0.cell 4
              have gl := hP14z0.lt
              simp only [List.getElem?_cons_succ, List.getElem?_cons_zero] at g0 g1 g2 g3 g4
              have HQ1 := Lib.hid q1
              have HQ2 := Lib.hid (hG14z0.trans' q2 (fun i hi e => by have h2 : i = W.heap.size := e; omega))
              have hpa : W.heap.size ≤ W.heap.size := by first | exact Nat.le_refl _ | (have := hG14z0.size; omega)
              clear q1 q2 hP14z0 hG14z0
              go_wp2
              go_meet
              case rel => exact ⟨_, rfl, HQ1.out, HQ2.out, hpa⟩
  case rest =>
  obtain ⟨p, rfl, hBp, hFp, hpw⟩ := hcut
  have hBr1 := hB1.fr hFp (fun h => h)
  have hW1 := hB1.lt
  have e0 := hBp.cell 0
  have e1 := hBp.cell 1
  have e2 := hBp.cell 2
  have e3 := hBp.cell 3
  have e4 := hBp.cell 4
  have el := hBp.lt
  simp only [List.getElem?_cons_succ, List.getElem?_cons_zero] at e0 e1 e2 e3 e4
  go_upto_region 4 with (fail)
  obtain ⟨wd, hwd⟩ : ∃ wd, wd = (wc.alloc (.cells #[.int .u32 N4, .int .i64 K, .int .i64 N2, .int .u32 N12, .int .i64 N16] 45)).alloc (.cells #[.bool false, .slice (some ⟨wc.heap.size, 0, none⟩) 1 1] 39) := ⟨_, rfl⟩
  have hFd : Fr (fun _ => False) wc wd := by rw [hwd]; exact ((Fr.refl _ wc).alloc (.cells #[.int .u32 N4, .int .i64 K, .int .i64 N2, .int .u32 N12, .int .i64 N16] 45)).alloc (.cells #[.bool false, .slice (some ⟨wc.heap.size, 0, none⟩) 1 1] 39)
  have hBm : Blk wd.heap (wc.heap.size + 1) 39 [.bool false, .slice (some ⟨wc.heap.size, 0, none⟩) 1 1] := by
    rw [hwd]
    have := Blk.made (wc.alloc (.cells #[.int .u32 N4, .int .i64 K, .int .i64 N2, .int .u32 N12, .int .i64 N16] 45)) 39 [.bool false, .slice (some ⟨wc.heap.size, 0, none⟩) 1 1]
    rwa [show (wc.alloc (.cells #[.int .u32 N4, .int .i64 K, .int .i64 N2, .int .u32 N12, .int .i64 N16] 45)).heap.size = wc.heap.size + 1 by simp] at this
  have hRe : Rd wd.heap (some ⟨wc.heap.size, 0, none⟩) 1 5 [.int .u32 N4, .int .i64 K, .int .i64 N2, .int .u32 N12, .int .i64 N16] := by
    rw [hwd]
    exact (rd_lit wc 45 [.int .u32 N4, .int .i64 K, .int .i64 N2, .int .u32 N12, .int .i64 N16]).fr ((Fr.refl (fun _ => False) _).alloc (.cells #[.bool false, .slice (some ⟨wc.heap.size, 0, none⟩) 1 1] 39)) (fun _ _ _ h => h)
  rw [← hwd]
  have hBr0 := hBr1.fr hFd (fun h => h)
  have hBpd := hBp.fr hFd (fun h => h)
  have hWd := (hF01.trans hFp).trans hFd
  clear hwd e0 e1 e2 e3 e4 el hBr1 hB1
  have qe : ∀ (c : Cls (fun k => k = w.heap.size) wd) (i : Nat), c.wo.cell? ⟨p, i, none⟩ = [Value.int .u32 N4, .int .i64 K, .int .i64 N2, .int .u32 N12, .int .i64 N16][i]? := fun c i => (c.fr.cell (p := ⟨p, i, none⟩) hBpd.lt (fun h => by have h2 : p = w.heap.size := h; omega)).trans (hBpd.cell i)
  have ql : ∀ c : Cls (fun k => k = w.heap.size) wd, p < c.wo.heap.size := fun c => Nat.lt_of_lt_of_le hBpd.lt c.fr.size
  have qm : ∀ (c : Cls (fun k => k = w.heap.size) wd) (i : Nat), c.wo.cell? ⟨wc.heap.size + 1, i, none⟩ = [Value.bool false, .slice (some ⟨wc.heap.size, 0, none⟩) 1 1][i]? := fun c i => (c.fr.cell (p := ⟨wc.heap.size + 1, i, none⟩) hBm.lt (fun h => by have h2 : wc.heap.size + 1 = w.heap.size := h; have := hFp.size; omega)).trans (hBm.cell i)
  have qml : ∀ c : Cls (fun k => k = w.heap.size) wd, wc.heap.size + 1 < c.wo.heap.size := fun c => Nat.lt_of_lt_of_le hBm.lt c.fr.size
  have q0 := fun c => qe c 0
  have q1 := fun c => qe c 1
  have q2 := fun c => qe c 2
  have q3 := fun c => qe c 3
  have q4 := fun c => qe c 4
  have r0 := fun c => qm c 0
  have r1 := fun c => qm c 1
  simp only [List.getElem?_cons_succ, List.getElem?_cons_zero] at q0 q1 q2 q3 q4 r0 r1
  clear qe qm hBpd hBm hBp
  rcases HKD.out with ⟨rfl, hm⟩ | ⟨rfl, hm⟩
  · have HX := Lib.hid (show R = none by rw [HD.out, hm])
    clear hm
    (refine wp_region_mix (fun w' => ∃ c : Cls (fun k => k = w.heap.size) wd, w' = c.wo) 15 (by kernel_rfl) (by kernel_rfl) (⟨⟨_, (Fr.refl _ _).drew⟩, rfl⟩) ?_; simp only [List.take_succ_cons, List.take_zero, List.drop_succ_cons, List.drop_zero])
    (refine wpMix_lateN 1 (⟨⟨_, (Fr.refl _ _).drew⟩, rfl⟩) (by kernel_rfl) ?_; simp only [List.take_succ_cons, List.take_zero, List.drop_succ_cons, List.drop_zero]; (repeat (go_big_quiet_step (fail))); refine wpQuiet_nil ?_)
    (refine wpMix_earlyN 5 (by kernel_rfl) (by kernel_rfl) ?_; simp only [List.take_succ_cons, List.take_zero, List.drop_succ_cons, List.drop_zero]; (repeat (go_big_quiet_step (fail))); refine wpQuiet_nil ?_)
    refine wpMix_eff (by kernel_rfl) ?_
    go_wp2
    refine ⟨⟨⟨_, (Fr.refl _ _).drew⟩, rfl⟩, ?_⟩
    (refine wpMix_lateN 4 (⟨⟨_, (Fr.refl _ _).drew⟩, rfl⟩) (by kernel_rfl) ?_; simp only [List.take_succ_cons, List.take_zero, List.drop_succ_cons, List.drop_zero]; (repeat (go_big_quiet_step (fail))); refine wpQuiet_nil ?_)
    refine wpMix_eff (by kernel_rfl) ?_
    go_wp2
    refine ⟨⟨⟨_, (Fr.refl _ _).drew⟩, rfl⟩, ?_⟩
    (refine wpMix_lateN 2 (⟨⟨_, (Fr.refl _ _).drew⟩, rfl⟩) (by kernel_rfl) ?_; simp only [List.take_succ_cons, List.take_zero, List.drop_succ_cons, List.drop_zero]; (repeat (go_big_quiet_step (fail))); refine wpQuiet_nil ?_)
    refine wpMix_eff (by kernel_rfl) ?_
    have hFe0 : Fr (fun _ => False) wd wd := Fr.refl _ wd
    clear q0 q1 q2 q3 q4 r0 r1 ql qml
    have hBr := hBr0.fr hFe0 (fun h => h)
    obtain ⟨q1, q2⟩ := put5 hBr (.int .u32 N4) (.int .i64 K) (.int .i64 N2) (.int .u32 N12) (.int .i64 N16)
    have f0 := hBr.frozen 0
    have f1 := hBr.frozen 1
    have f2 := hBr.frozen 2
    have f3 := hBr.frozen 3
    have f4 := hBr.frozen 4
    have g0 := hBr.cell 0
    have g1 := hBr.cell 1
    have g2 := hBr.cell 2
    have g3 := hBr.cell 3
    have g4 := hBr.cell 4
    have gl := hBr.lt
    have y0 := q1.cell 0
    have y1 := q1.cell 1
    have y2 := q1.cell 2
    have y3 := q1.cell 3
    have y4 := q1.cell 4
    simp only [List.getElem?_cons_succ, List.getElem?_cons_zero] at g0 g1 g2 g3 g4 y0 y1 y2 y3 y4
    have HQ2 := Lib.hid q2
    have HFF := Lib.hid (((hWd.trans hFe0).trans' q2 (fun i hi e => by have h2 : i = w.heap.size := e; omega)).drew)
    clear q1 q2 hBr
    go_wp2
    refine ⟨⟨⟨_, (HQ2.out).drew⟩, rfl⟩, ?_⟩
    refine wpMix_nil ?_
    go_wp2
    refine bodyPost_ret (v := .tuple #[.agg #[.int .u32 N4, .int .i64 K, .int .i64 N2, .int .u32 N12, .int .i64 N16], .bool false]) (by simp [results, Try.results51, go_sem, y0, y1, y2, y3, y4]) rfl ?_
    exact ⟨⟨N4, K, N2, N12, N16⟩, by rw [HX.out]; rfl, HFF.out, (by rw [HX.out]; exact fun y hy => by cases hy; try rfl), ⟨b4, b12⟩⟩
  · by_cases hn0 : N0 = 2
    · have en0 : (N0 == 2) = true := by simp [hn0]
      have HX2 := Lib.hid (show R = if entErr ⟨N4, K, N2, N12, N16⟩ = none then some ⟨N4, K, N2, N12, N16⟩ else none by
        rw [HD.out, hm]
        simp only [hn0, true_and])
      clear hm hn0
      (refine wp_region_mix (fun w' => ∃ c : Cls (fun k => k = w.heap.size) wd, w' = c.wo) 15 (by kernel_rfl) (by kernel_rfl) (⟨⟨_, (Fr.refl _ _).drew⟩, rfl⟩) ?_; simp only [List.take_succ_cons, List.take_zero, List.drop_succ_cons, List.drop_zero])
      (refine wpMix_lateN 1 (⟨⟨_, (Fr.refl _ _).drew⟩, rfl⟩) (by kernel_rfl) ?_; simp only [List.take_succ_cons, List.take_zero, List.drop_succ_cons, List.drop_zero]; (repeat (go_big_quiet_step (fail))); refine wpQuiet_nil ?_)
      (refine wpMix_earlyN 5 (by kernel_rfl) (by kernel_rfl) ?_; simp only [List.take_succ_cons, List.take_zero, List.drop_succ_cons, List.drop_zero]; (repeat (go_big_quiet_step (fail))); refine wpQuiet_nil ?_)
      refine wpMix_eff (by kernel_rfl) ?_
      go_wp2_with (fail)
      refine (M0.out _ hWd.drew).mono ?_
      rintro e5 w5 ⟨rfl, hF5⟩
      have hFe0 : Fr (fun _ => False) wd w5 := (Fr.refl _ wd).drew.trans hF5
      have hFe : Fr (fun k => k = w.heap.size) wd w5 := hFe0.none _
      clear hF5
      go_wp2
      refine ⟨⟨⟨_, hFe⟩, rfl⟩, ?_⟩
      (refine wpMix_lateN 4 (⟨⟨_, (Fr.refl _ _).drew⟩, rfl⟩) (by kernel_rfl) ?_; simp only [List.take_succ_cons, List.take_zero, List.drop_succ_cons, List.drop_zero]; (repeat (go_big_quiet_step (fail))); refine wpQuiet_nil ?_)
      refine wpMix_eff (by kernel_rfl) ?_
      go_wp2_with (fail)
      refine (wcheck_any (M := 1) false [⟨N4, K, N2, N12, N16⟩] (some ⟨wc.heap.size, 0, none⟩) 1 w5 (hRe.fr hFe0 (fun _ _ _ h => h)) (fun x hx => by rw [List.mem_singleton.1 hx]; exact ⟨b4, b12⟩) (by simp) rfl).mono ?_
      rintro e6 w6 ⟨rfl, hF6⟩
      have hFg0 : Fr (fun _ => False) wd w6 := hFe0.trans hF6
      have hFg : Fr (fun k => k = w.heap.size) wd w6 := hFg0.none _
      have hme : msgErr [(⟨N4, K, N2, N12, N16⟩ : En)] = entErr ⟨N4, K, N2, N12, N16⟩ := by
        unfold msgErr
        rw [if_neg (by simp)]
        unfold entsErr entsErr
        cases entErr (⟨N4, K, N2, N12, N16⟩ : En) <;> rfl
      rw [hme]
      clear hme hF6
      cases hee : entErr (⟨N4, K, N2, N12, N16⟩ : En) with
      | some q =>
        have HX := Lib.hid (show R = none by rw [HX2.out, hee]; rfl)
        rw [show errO (some q) = errv q from rfl]
        clear hee
        go_wp2
        refine ⟨⟨⟨_, hFg⟩, rfl⟩, ?_⟩
        (refine wpMix_lateN 2 (⟨⟨_, (Fr.refl _ _).drew⟩, rfl⟩) (by kernel_rfl) ?_; simp only [List.take_succ_cons, List.take_zero, List.drop_succ_cons, List.drop_zero]; (repeat (go_big_quiet_step (fail))); refine wpQuiet_nil ?_)
        refine wpMix_eff (by kernel_rfl) ?_
        clear q0 q1 q2 q3 q4 r0 r1 ql qml
        have hBr := hBr0.fr hFg0 (fun h => h)
        obtain ⟨q1, q2⟩ := put5 hBr (.int .u32 N4) (.int .i64 K) (.int .i64 N2) (.int .u32 N12) (.int .i64 N16)
        have f0 := hBr.frozen 0
        have f1 := hBr.frozen 1
        have f2 := hBr.frozen 2
        have f3 := hBr.frozen 3
        have f4 := hBr.frozen 4
        have g0 := hBr.cell 0
        have g1 := hBr.cell 1
        have g2 := hBr.cell 2
        have g3 := hBr.cell 3
        have g4 := hBr.cell 4
        have gl := hBr.lt
        have y0 := q1.cell 0
        have y1 := q1.cell 1
        have y2 := q1.cell 2
        have y3 := q1.cell 3
        have y4 := q1.cell 4
        simp only [List.getElem?_cons_succ, List.getElem?_cons_zero] at g0 g1 g2 g3 g4 y0 y1 y2 y3 y4
        have HQ2 := Lib.hid q2
        have HFF := Lib.hid (((hWd.trans hFg0).trans' q2 (fun i hi e => by have h2 : i = w.heap.size := e; omega)))
        clear q1 q2 hBr
        go_wp2
        refine ⟨⟨⟨_, (hFg).trans HQ2.out⟩, rfl⟩, ?_⟩
        refine wpMix_nil ?_
        go_wp2
        refine bodyPost_ret (v := .tuple #[.agg #[.int .u32 N4, .int .i64 K, .int .i64 N2, .int .u32 N12, .int .i64 N16], .bool false]) (by simp [results, Try.results51, go_sem, y0, y1, y2, y3, y4]) rfl ?_
        exact ⟨⟨N4, K, N2, N12, N16⟩, by rw [HX.out]; rfl, HFF.out, (by rw [HX.out]; exact fun y hy => by cases hy; try rfl), ⟨b4, b12⟩⟩
      | none =>
        have HX := Lib.hid (show R = some ⟨N4, K, N2, N12, N16⟩ by rw [HX2.out, if_pos hee])
        rw [show errO none = .nilIface from rfl]
        clear hee
        go_wp2
        refine ⟨⟨⟨_, hFg⟩, rfl⟩, ?_⟩
        (refine wpMix_lateN 2 (⟨⟨_, (Fr.refl _ _).drew⟩, rfl⟩) (by kernel_rfl) ?_; simp only [List.take_succ_cons, List.take_zero, List.drop_succ_cons, List.drop_zero]; (repeat (go_big_quiet_step (fail))); refine wpQuiet_nil ?_)
        refine wpMix_eff (by kernel_rfl) ?_
        clear q0 q1 q2 q3 q4 r0 r1 ql qml
        have hBr := hBr0.fr hFg0 (fun h => h)
        obtain ⟨q1, q2⟩ := put5 hBr (.int .u32 N4) (.int .i64 K) (.int .i64 N2) (.int .u32 N12) (.int .i64 N16)
        have f0 := hBr.frozen 0
        have f1 := hBr.frozen 1
        have f2 := hBr.frozen 2
        have f3 := hBr.frozen 3
        have f4 := hBr.frozen 4
        have g0 := hBr.cell 0
        have g1 := hBr.cell 1
        have g2 := hBr.cell 2
        have g3 := hBr.cell 3
        have g4 := hBr.cell 4
        have gl := hBr.lt
        have y0 := q1.cell 0
        have y1 := q1.cell 1
        have y2 := q1.cell 2
        have y3 := q1.cell 3
        have y4 := q1.cell 4
        simp only [List.getElem?_cons_succ, List.getElem?_cons_zero] at g0 g1 g2 g3 g4 y0 y1 y2 y3 y4
        have HQ2 := Lib.hid q2
        have HFF := Lib.hid (((hWd.trans hFg0).trans' q2 (fun i hi e => by have h2 : i = w.heap.size := e; omega)))
        clear q1 q2 hBr
        go_wp2
        refine ⟨⟨⟨_, (hFg).trans HQ2.out⟩, rfl⟩, ?_⟩
        refine wpMix_nil ?_
        go_wp2
        refine bodyPost_ret (v := .tuple #[.agg #[.int .u32 N4, .int .i64 K, .int .i64 N2, .int .u32 N12, .int .i64 N16], .bool true]) (by simp [results, Try.results51, go_sem, y0, y1, y2, y3, y4]) rfl ?_
        exact ⟨⟨N4, K, N2, N12, N16⟩, by rw [HX.out]; rfl, HFF.out, (by rw [HX.out]; exact fun y hy => by cases hy; try rfl), ⟨b4, b12⟩⟩
    · have en0 : (N0 == 2) = false := by simp [hn0]
      have HX := Lib.hid (show R = none by
        rw [HD.out, hm]
        simp only [hn0, false_and, if_false])
      clear hm hn0
      (refine wp_region_mix (fun w' => ∃ c : Cls (fun k => k = w.heap.size) wd, w' = c.wo) 15 (by kernel_rfl) (by kernel_rfl) (⟨⟨_, (Fr.refl _ _).drew⟩, rfl⟩) ?_; simp only [List.take_succ_cons, List.take_zero, List.drop_succ_cons, List.drop_zero])
      (refine wpMix_lateN 1 (⟨⟨_, (Fr.refl _ _).drew⟩, rfl⟩) (by kernel_rfl) ?_; simp only [List.take_succ_cons, List.take_zero, List.drop_succ_cons, List.drop_zero]; (repeat (go_big_quiet_step (fail))); refine wpQuiet_nil ?_)
      (refine wpMix_earlyN 5 (by kernel_rfl) (by kernel_rfl) ?_; simp only [List.take_succ_cons, List.take_zero, List.drop_succ_cons, List.drop_zero]; (repeat (go_big_quiet_step (fail))); refine wpQuiet_nil ?_)
      refine wpMix_eff (by kernel_rfl) ?_
      go_wp2_with (fail)
      refine (M0.out _ hWd.drew).mono ?_
      rintro e5 w5 ⟨rfl, hF5⟩
      have hFe0 : Fr (fun _ => False) wd w5 := (Fr.refl _ wd).drew.trans hF5
      have hFe : Fr (fun k => k = w.heap.size) wd w5 := hFe0.none _
      clear hF5
      go_wp2
      refine ⟨⟨⟨_, hFe⟩, rfl⟩, ?_⟩
      (refine wpMix_lateN 4 (⟨⟨_, (Fr.refl _ _).drew⟩, rfl⟩) (by kernel_rfl) ?_; simp only [List.take_succ_cons, List.take_zero, List.drop_succ_cons, List.drop_zero]; (repeat (go_big_quiet_step (fail))); refine wpQuiet_nil ?_)
      refine wpMix_eff (by kernel_rfl) ?_
      go_wp2
      refine ⟨⟨⟨_, hFe⟩, rfl⟩, ?_⟩
      (refine wpMix_lateN 2 (⟨⟨_, (Fr.refl _ _).drew⟩, rfl⟩) (by kernel_rfl) ?_; simp only [List.take_succ_cons, List.take_zero, List.drop_succ_cons, List.drop_zero]; (repeat (go_big_quiet_step (fail))); refine wpQuiet_nil ?_)
      refine wpMix_eff (by kernel_rfl) ?_
      clear q0 q1 q2 q3 q4 r0 r1 ql qml
      have hBr := hBr0.fr hFe0 (fun h => h)
      obtain ⟨q1, q2⟩ := put5 hBr (.int .u32 N4) (.int .i64 K) (.int .i64 N2) (.int .u32 N12) (.int .i64 N16)
      have f0 := hBr.frozen 0
      have f1 := hBr.frozen 1
      have f2 := hBr.frozen 2
      have f3 := hBr.frozen 3
      have f4 := hBr.frozen 4
      have g0 := hBr.cell 0
      have g1 := hBr.cell 1
      have g2 := hBr.cell 2
      have g3 := hBr.cell 3
      have g4 := hBr.cell 4
      have gl := hBr.lt
      have y0 := q1.cell 0
      have y1 := q1.cell 1
      have y2 := q1.cell 2
      have y3 := q1.cell 3
      have y4 := q1.cell 4
      simp only [List.getElem?_cons_succ, List.getElem?_cons_zero] at g0 g1 g2 g3 g4 y0 y1 y2 y3 y4
      have HQ2 := Lib.hid q2
      have HFF := Lib.hid (((hWd.trans hFe0).trans' q2 (fun i hi e => by have h2 : i = w.heap.size := e; omega)))
      clear q1 q2 hBr
      go_wp2
      refine ⟨⟨⟨_, (hFe).trans HQ2.out⟩, rfl⟩, ?_⟩
      refine wpMix_nil ?_
      go_wp2
      refine bodyPost_ret (v := .tuple #[.agg #[.int .u32 N4, .int .i64 K, .int .i64 N2, .int .u32 N12, .int .i64 N16], .bool false]) (by simp [results, Try.results51, go_sem, y0, y1, y2, y3, y4]) rfl ?_
      exact ⟨⟨N4, K, N2, N12, N16⟩, by rw [HX.out]; rfl, HFF.out, (by rw [HX.out]; exact fun y hy => by cases hy; try rfl), ⟨b4, b12⟩⟩
end Go.Proofs.Ytfglidaicjjpfaa
end
