import Derived.Test.YtbmeeglehbaggaaDoorWireEnc
import Derived.Test.YtbmeeglehbaggaaDoorTree
namespace Go.Proofs.YtbmeeglehbaggaaDoor
open Go.RowKit
theorem rd_sub {H : Array Obj} {b off n : Nat} {l : List Int} (h : Rd H (some ⟨b, off, none⟩) n 1 (ivals .u8 l)) (i m : Nat) (hi : i + m ≤ n) : Rd H (some ⟨b, off + i, none⟩) m 1 (ivals .u8 ((l.drop i).take m)) := by
  have hl : l.length = n := by have := h.len; simpa [ivals] using this
  refine ⟨by simp [ivals]; omega, ?_⟩
  rcases h.at' with h1 | ⟨b', off', h1, h2, h3⟩
  · left
    have : l = [] := by cases l with | nil => rfl | cons x l => cases h1
    subst this; simp [ivals]
  · right
    cases h1
    refine ⟨b, off + i, rfl, h2, fun w hw j hj => ?_⟩
    have hj' : j < m ∧ i + j < l.length := by simp [ivals] at hj; omega
    rw [Nat.add_assoc, h3 w hw (i + j) (by simp [ivals]; omega)]
    simp only [ivals, List.getElem?_map]
    rw [List.getElem?_take, if_pos hj'.1, List.getElem?_drop]
/-- Twenty bytes made of fewer. -/
def RetFill (w : World) (p : List Int) (e : Ending) (w' : World) : Prop :=
  ∃ g, e = .returned (.slice (some ⟨g, 0, none⟩) 20 20) ∧ Own w'.heap 5 1 (some ⟨g, 0, none⟩) 20 20 (ivals .u8 (filledD p)) (some g) ∧ Fr (fun _ => False) w w' ∧ w.heap.size ≤ g
theorem splice_head (L cs : List Value) : splice L 0 cs = cs ++ L.drop cs.length := by simp [splice]
set_option maxRecDepth 100000 in
set_option maxHeartbeats 4000000 in
theorem filled_any {M : Nat} (p : List Int) (a : Option Addr) (c : Nat) (w : World) (hp : Rd w.heap a M 1 (ivals .u8 p)) (h1 : 1 ≤ p.length) (h20 : p.length ≤ 20) (hM : M = p.length) :
    Calls Tryd.prog 54 #[.slice a M c] w (RetFill w p) := by
  subst hM
  obtain ⟨b, off, rfl, hbl, hc⟩ := Ints.pos hp (by omega)
  have hlast := hc w rfl (p.length - 1) (by omega)
  have HP := Lib.hid hp
  have hF1 := (Fr.refl (fun _ => False) w).alloc (.cells #[.int .u8 0, .int .u8 2, .int .u8 0, .int .u8 0, .int .u8 0, .int .u8 0, .int .u8 0, .int .u8 0, .int .u8 255, .int .u8 255, .int .u8 255, .int .u8 255, .int .u8 0, .int .u8 0, .int .u8 0, .int .u8 0, .int .u8 0, .int .u8 0, .int .u8 0, .int .u8 1] 5)
  have hB1 : Blk (w.alloc (.cells #[.int .u8 0, .int .u8 2, .int .u8 0, .int .u8 0, .int .u8 0, .int .u8 0, .int .u8 0, .int .u8 0, .int .u8 255, .int .u8 255, .int .u8 255, .int .u8 255, .int .u8 0, .int .u8 0, .int .u8 0, .int .u8 0, .int .u8 0, .int .u8 0, .int .u8 0, .int .u8 1] 5)).heap w.heap.size 5 (ivals .u8 [0, 2, 0, 0, 0, 0, 0, 0, 255, 255, 255, 255, 0, 0, 0, 0, 0, 0, 0, 1]) := Blk.made w 5 (ivals .u8 [0, 2, 0, 0, 0, 0, 0, 0, 255, 255, 255, 255, 0, 0, 0, 0, 0, 0, 0, 1])
  have hbl1 : b < (w.alloc (.cells #[.int .u8 0, .int .u8 2, .int .u8 0, .int .u8 0, .int .u8 0, .int .u8 0, .int .u8 0, .int .u8 0, .int .u8 255, .int .u8 255, .int .u8 255, .int .u8 255, .int .u8 0, .int .u8 0, .int .u8 0, .int .u8 0, .int .u8 0, .int .u8 0, .int .u8 0, .int .u8 1] 5)).heap.size := Nat.lt_of_lt_of_le hbl hF1.size
  clear hp hc
  go_enter Tryd.func54, Tryd.ntmps54
  -- behind the choice: the twenty bytes
  have fin : ∀ (W : World) (_ : Fr (fun _ => False) w W) (B : List Int) (_ : B.length = 20) (_ : Blk W.heap w.heap.size 5 (ivals .u8 B)), CpySide W (some ⟨w.heap.size, 0, none⟩) (some ⟨b, off, none⟩) p.length 20 1 w.heap.size 0 (ivals .u8 B) (ivals .u8 p) := fun W f B hB hBk => by
    refine ⟨by simp [ivals]; omega, fun _ => ⟨rfl, ⟨b, off, none⟩, rfl, fun j v hj => ?_⟩, by simp [ivals]; omega, ivals_one .u8 p⟩
    have hr := HP.out.fr f (fun _ _ _ h => h)
    obtain ⟨b', off', e, hb', hc'⟩ := hr.pos (by omega)
    cases e
    have hjl : j < p.length := by have := (List.getElem?_eq_some_iff.1 hj).1; simpa [ivals] using this
    rw [Addr.add_lit, hc' W rfl j (by omega)]
    exact hj
  have done : ∀ (B : List Int) (_ : B.length = 20), splice (ivals .u8 B) 0 (ivals .u8 p) = ivals .u8 (p ++ B.drop p.length) := fun B hB => by rw [splice_head]; simp [ivals]
  have FIN := Lib.hid fin
  have DONE := Lib.hid done
  clear fin done
  by_cases hmid : 8 < p.length ∧ p.length < 12 ∧ nth p (p.length - 1) ≠ 255
  · obtain ⟨m1, m2, m3⟩ := hmid
    have HX := Lib.hid (show filledD p = p ++ ([0, 2, 0, 0, 0, 0, 0, 0, 0, 0, 0, 0, 0, 0, 0, 0, 0, 0, 0, 1] : List Int).drop p.length by unfold filledD baseF; rw [if_pos ⟨m1, m2, m3⟩])
    generalize nth p (p.length - 1) = z at hlast m3
    have e3 : (z != 255) = true := by simp [m3]
    have ei : ((p.length : Int) - 1) = ((p.length - 1 : Nat) : Int) := by omega
    have hlast' : w.cell? ⟨b, off + (p.length - 1), none⟩ = some (.int .u8 z) := hlast
    clear m3
    have hBm := hB1.alloc (.cells #[.int .u8 0, .int .u8 0, .int .u8 0, .int .u8 0] 5)
    have hFm := hF1.alloc (.cells #[.int .u8 0, .int .u8 0, .int .u8 0, .int .u8 0] 5)
    have hV : Blk ((w.alloc (.cells #[.int .u8 0, .int .u8 2, .int .u8 0, .int .u8 0, .int .u8 0, .int .u8 0, .int .u8 0, .int .u8 0, .int .u8 255, .int .u8 255, .int .u8 255, .int .u8 255, .int .u8 0, .int .u8 0, .int .u8 0, .int .u8 0, .int .u8 0, .int .u8 0, .int .u8 0, .int .u8 1] 5)).alloc (.cells #[.int .u8 0, .int .u8 0, .int .u8 0, .int .u8 0] 5)).heap (w.heap.size + 1) 5 (ivals .u8 [0, 0, 0, 0]) := by
      have := Blk.made (w.alloc (.cells #[.int .u8 0, .int .u8 2, .int .u8 0, .int .u8 0, .int .u8 0, .int .u8 0, .int .u8 0, .int .u8 0, .int .u8 255, .int .u8 255, .int .u8 255, .int .u8 255, .int .u8 0, .int .u8 0, .int .u8 0, .int .u8 0, .int .u8 0, .int .u8 0, .int .u8 0, .int .u8 1] 5)) 5 (ivals .u8 [0, 0, 0, 0])
      rwa [show (w.alloc (.cells #[.int .u8 0, .int .u8 2, .int .u8 0, .int .u8 0, .int .u8 0, .int .u8 0, .int .u8 0, .int .u8 0, .int .u8 255, .int .u8 255, .int .u8 255, .int .u8 255, .int .u8 0, .int .u8 0, .int .u8 0, .int .u8 0, .int .u8 0, .int .u8 0, .int .u8 0, .int .u8 1] 5)).heap.size = w.heap.size + 1 by simp] at this
    have HV := Lib.hid hV
    have HFM := Lib.hid hFm
    clear hV hB1 hF1 hFm
    go_wp2_with (with_reducible refine wpList_cpy rfl (.tmp 23) (.tmp 24) 60 60 rfl Tryd.underlying60 infoU8 rfl rfl (g := w.heap.size) (off := 8) hBm (cs := ivals .u8 [0, 0, 0, 0]) ?m1 ?m2)
    case m1 =>
      unfold CpySide
      exact ⟨rfl, fun _ => ⟨rfl, _, rfl, fun j v hj => by rw [Addr.add_lit, HV.out.cell, Nat.zero_add]; exact hj⟩, by decide, ivals_one .u8 _⟩
    case m2 =>
      intro w2 hB2 hF2 hs2
      have hBk : Blk w2.heap w.heap.size 5 (ivals .u8 [0, 2, 0, 0, 0, 0, 0, 0, 0, 0, 0, 0, 0, 0, 0, 0, 0, 0, 0, 1]) := hB2
      have hFk : Fr (fun _ => False) w w2 := HFM.out.trans' hF2 (fun i hi e => by have h2 : i = w.heap.size := e; omega)
      clear hB2 hF2 hBm HFM HV
      go_wp2_with (with_reducible refine wpList_cpy rfl (.tmp 26) (.tmp 27) 60 60 rfl Tryd.underlying60 infoU8 rfl rfl (g := w.heap.size) (off := 0) hBk (cs := ivals .u8 p) ?b1 ?b2)
      case b1 => exact FIN.out _ hFk [0, 2, 0, 0, 0, 0, 0, 0, 0, 0, 0, 0, 0, 0, 0, 0, 0, 0, 0, 1] rfl hBk
      case b2 =>
        intro w9 hB9 hF9 hs9
        have hB9' : Blk w9.heap w.heap.size 5 (ivals .u8 (p ++ ([0, 2, 0, 0, 0, 0, 0, 0, 0, 0, 0, 0, 0, 0, 0, 0, 0, 0, 0, 1] : List Int).drop p.length)) := hB9.eq (DONE.out [0, 2, 0, 0, 0, 0, 0, 0, 0, 0, 0, 0, 0, 0, 0, 0, 0, 0, 0, 1] rfl)
        have hlen : (p ++ ([0, 2, 0, 0, 0, 0, 0, 0, 0, 0, 0, 0, 0, 0, 0, 0, 0, 0, 0, 1] : List Int).drop p.length).length = 20 := by simp; omega
        have hO9 := hB9'.own (sz := 1) (n := 20) (cap := 20) (by omega) (by decide) (by simpa [ivals] using hlen)
        rw [List.take_of_length_le (by simp only [ivals, List.length_map]; omega)] at hO9
        have hF09 : Fr (fun _ => False) w w9 := hFk.trans' hF9 (fun i hi e => by have h2 : i = w.heap.size := e; omega)
        have HO9 := Lib.hid hO9
        clear hB9 hB9' hO9 hlen hBk hFk
        go_wp2
        go_ret
        exact ⟨w.heap.size, rfl, by rw [HX.out]; exact HO9.out, hF09, Nat.le_refl _⟩
  · skip
    have HX := Lib.hid (show filledD p = p ++ ([0, 2, 0, 0, 0, 0, 0, 0, 255, 255, 255, 255, 0, 0, 0, 0, 0, 0, 0, 1] : List Int).drop p.length by unfold filledD baseF; rw [if_neg hmid])
    have hm2 : p.length ≤ 8 ∨ (8 < p.length ∧ 12 ≤ p.length) ∨ (8 < p.length ∧ p.length < 12 ∧ nth p (p.length - 1) = 255) := by
      by_cases e : nth p (p.length - 1) = 255
      · omega
      · have : ¬ (8 < p.length ∧ p.length < 12) := fun h => hmid ⟨h.1, h.2, e⟩
        omega
    have hBk := hB1
    have hFk := hF1
    clear hmid hB1
    rcases hm2 with m1 | ⟨m1, m2⟩ | ⟨m1, m2, m3⟩
    · skip
      go_wp2_with (with_reducible refine wpList_cpy rfl (.tmp 26) (.tmp 27) 60 60 rfl Tryd.underlying60 infoU8 rfl rfl (g := w.heap.size) (off := 0) hBk (cs := ivals .u8 p) ?b1 ?b2)
      case b1 => exact FIN.out _ hFk [0, 2, 0, 0, 0, 0, 0, 0, 255, 255, 255, 255, 0, 0, 0, 0, 0, 0, 0, 1] rfl hBk
      case b2 =>
        intro w9 hB9 hF9 hs9
        have hB9' : Blk w9.heap w.heap.size 5 (ivals .u8 (p ++ ([0, 2, 0, 0, 0, 0, 0, 0, 255, 255, 255, 255, 0, 0, 0, 0, 0, 0, 0, 1] : List Int).drop p.length)) := hB9.eq (DONE.out [0, 2, 0, 0, 0, 0, 0, 0, 255, 255, 255, 255, 0, 0, 0, 0, 0, 0, 0, 1] rfl)
        have hlen : (p ++ ([0, 2, 0, 0, 0, 0, 0, 0, 255, 255, 255, 255, 0, 0, 0, 0, 0, 0, 0, 1] : List Int).drop p.length).length = 20 := by simp; omega
        have hO9 := hB9'.own (sz := 1) (n := 20) (cap := 20) (by omega) (by decide) (by simpa [ivals] using hlen)
        rw [List.take_of_length_le (by simp only [ivals, List.length_map]; omega)] at hO9
        have hF09 : Fr (fun _ => False) w w9 := hFk.trans' hF9 (fun i hi e => by have h2 : i = w.heap.size := e; omega)
        have HO9 := Lib.hid hO9
        clear hB9 hB9' hO9 hlen hBk hFk
        go_wp2
        go_ret
        exact ⟨w.heap.size, rfl, by rw [HX.out]; exact HO9.out, hF09, Nat.le_refl _⟩
    · skip
      go_wp2_with (with_reducible refine wpList_cpy rfl (.tmp 26) (.tmp 27) 60 60 rfl Tryd.underlying60 infoU8 rfl rfl (g := w.heap.size) (off := 0) hBk (cs := ivals .u8 p) ?b1 ?b2)
      case b1 => exact FIN.out _ hFk [0, 2, 0, 0, 0, 0, 0, 0, 255, 255, 255, 255, 0, 0, 0, 0, 0, 0, 0, 1] rfl hBk
      case b2 =>
        intro w9 hB9 hF9 hs9
        have hB9' : Blk w9.heap w.heap.size 5 (ivals .u8 (p ++ ([0, 2, 0, 0, 0, 0, 0, 0, 255, 255, 255, 255, 0, 0, 0, 0, 0, 0, 0, 1] : List Int).drop p.length)) := hB9.eq (DONE.out [0, 2, 0, 0, 0, 0, 0, 0, 255, 255, 255, 255, 0, 0, 0, 0, 0, 0, 0, 1] rfl)
        have hlen : (p ++ ([0, 2, 0, 0, 0, 0, 0, 0, 255, 255, 255, 255, 0, 0, 0, 0, 0, 0, 0, 1] : List Int).drop p.length).length = 20 := by simp; omega
        have hO9 := hB9'.own (sz := 1) (n := 20) (cap := 20) (by omega) (by decide) (by simpa [ivals] using hlen)
        rw [List.take_of_length_le (by simp only [ivals, List.length_map]; omega)] at hO9
        have hF09 : Fr (fun _ => False) w w9 := hFk.trans' hF9 (fun i hi e => by have h2 : i = w.heap.size := e; omega)
        have HO9 := Lib.hid hO9
        clear hB9 hB9' hO9 hlen hBk hFk
        go_wp2
        go_ret
        exact ⟨w.heap.size, rfl, by rw [HX.out]; exact HO9.out, hF09, Nat.le_refl _⟩
    · rw [m3] at hlast
      go_wp2_with (with_reducible refine wpList_cpy rfl (.tmp 26) (.tmp 27) 60 60 rfl Tryd.underlying60 infoU8 rfl rfl (g := w.heap.size) (off := 0) hBk (cs := ivals .u8 p) ?b1 ?b2)
      case b1 => exact FIN.out _ hFk [0, 2, 0, 0, 0, 0, 0, 0, 255, 255, 255, 255, 0, 0, 0, 0, 0, 0, 0, 1] rfl hBk
      case b2 =>
        intro w9 hB9 hF9 hs9
        have hB9' : Blk w9.heap w.heap.size 5 (ivals .u8 (p ++ ([0, 2, 0, 0, 0, 0, 0, 0, 255, 255, 255, 255, 0, 0, 0, 0, 0, 0, 0, 1] : List Int).drop p.length)) := hB9.eq (DONE.out [0, 2, 0, 0, 0, 0, 0, 0, 255, 255, 255, 255, 0, 0, 0, 0, 0, 0, 0, 1] rfl)
        have hlen : (p ++ ([0, 2, 0, 0, 0, 0, 0, 0, 255, 255, 255, 255, 0, 0, 0, 0, 0, 0, 0, 1] : List Int).drop p.length).length = 20 := by simp; omega
        have hO9 := hB9'.own (sz := 1) (n := 20) (cap := 20) (by omega) (by decide) (by simpa [ivals] using hlen)
        rw [List.take_of_length_le (by simp only [ivals, List.length_map]; omega)] at hO9
        have hF09 : Fr (fun _ => False) w w9 := hFk.trans' hF9 (fun i hi e => by have h2 : i = w.heap.size := e; omega)
        have HO9 := Lib.hid hO9
        clear hB9 hB9' hO9 hlen hBk hFk
        go_wp2
        go_ret
        exact ⟨w.heap.size, rfl, by rw [HX.out]; exact HO9.out, hF09, Nat.le_refl _⟩
end Go.Proofs.YtbmeeglehbaggaaDoor
