import Derived.Test.YtfglidaicjjpfaaQOwn2
import Derived.Test.YtfglidaicjjpfaaDmNew
section
namespace Go.Proofs.Ytfglidaicjjpfaa
open Go.RowKit
theorem filledD_bd {p : List Int} (h : ∀ x ∈ p, 0 ≤ x ∧ x < 256) : ∀ x ∈ filledD p, 0 ≤ x ∧ x < 256 := by
  intro x hx
  unfold filledD at hx
  rcases List.mem_append.1 hx with hx | hx
  · exact h x hx
  · have hx := List.mem_of_mem_drop hx
    have hd : ∀ y ∈ baseF p, 0 ≤ y ∧ y < 256 := by
      unfold baseF
      split <;> decide
    exact hd x hx
/-- The message of bytes, or what is wrong. -/
def RetDec (w : World) (r : Except Int (Bool × List En)) (e : Ending) (w' : World) : Prop := match r with
  | .error k => RetV w (.tuple #[.agg #[.bool false, .slice none 0 0], errv k]) e w'
  | .ok (ask, l) => ∃ a c ob, e = .returned (.tuple #[.agg #[.bool ask, .slice a l.length c], .nilIface]) ∧ Own w'.heap 45 5 a l.length c (l.flatMap En.cells) ob ∧ Fr (fun _ => False) w w' ∧ (∀ g, ob = some g → w.heap.size ≤ g) ∧ (∀ x ∈ l, En.wf x) ∧ l.length ≤ 25
theorem RetDec.err {w w' : World} {r : Except Int (Bool × List En)} {e : Ending} {k : Int} (hr : r = .error k) (he : e = .returned (.tuple #[.agg #[.bool false, .slice none 0 0], errv k])) (hF : Fr (fun _ => False) w w') : RetDec w r e w' := by subst hr; exact ⟨he, hF⟩
theorem RetDec.ok {w w' : World} {r : Except Int (Bool × List En)} {e : Ending} {ask : Bool} {l : List En} {a : Option Addr} {c : Nat} {ob : Option Nat} (hr : r = .ok (ask, l)) (he : e = .returned (.tuple #[.agg #[.bool ask, .slice a l.length c], .nilIface])) (hO : Own w'.heap 45 5 a l.length c (l.flatMap En.cells) ob) (hF : Fr (fun _ => False) w w') (hN : ∀ g, ob = some g → w.heap.size ≤ g) (hw : ∀ x ∈ l, En.wf x) (hl : l.length ≤ 25) : RetDec w r e w' := by
  subst hr; exact ⟨a, c, ob, he, hO, hF, hN, hw, hl⟩
theorem headD_len (b : List Int) : 4 ≤ (headD b).length ∧ (b.length < 4 → (headD b).length = 4) ∧ (4 ≤ b.length → headD b = b) := by
  unfold headD
  by_cases h : b.length < 4
  · rw [if_pos h]
    have : (b ++ [2, 2, 0, 0].drop b.length : List Int).length = 4 := by simp; omega
    exact ⟨by omega, fun _ => this, fun h2 => by omega⟩
  · rw [if_neg h]; exact ⟨by omega, fun h2 => absurd h2 h, fun _ => rfl⟩
theorem headD_bd {b : List Int} (h : ∀ x ∈ b, 0 ≤ x ∧ x < 256) : ∀ x ∈ headD b, 0 ≤ x ∧ x < 256 := by
  unfold headD
  split
  · intro x hx
    rcases List.mem_append.1 hx with hx | hx
    · exact h x hx
    · have hd : ∀ y ∈ ([2, 2, 0, 0] : List Int), 0 ≤ y ∧ y < 256 := by decide
      exact hd x (List.mem_of_mem_drop hx)
  · exact h
/-- What comes of the entries. -/
def outD (b : List Int) (ask : Bool) (P0 : Option (List En)) : Except Int (Bool × List En) := match P0 with
  | none => .error 3
  | some l => if shortD b then .error 6 else .ok (ask, l)
def sliceLen : Value → Nat
  | .slice _ n _ => n
  | _ => 0
/-- What a message's bytes hold still. -/
structure Rest (b rs : List Int) (sh : Bool) (acc : List En) (P0 : Option (List En)) : Prop where
  parts : ∃ k, rs.length ≤ k ∧ P0 = partsD k rs acc
  some' : rs ≠ [] → (b.length - 4) % 20 = rs.length % 20 ∧ 4 ≤ b.length
  none' : rs = [] → (sh = true ↔ shortD b)
  bd : ∀ x ∈ rs, 0 ≤ x ∧ x < 256
theorem Rest.done {b : List Int} {sh : Bool} {acc : List En} {P0 : Option (List En)} (h : Rest b [] sh acc P0) : P0 = some acc ∧ (sh = true ↔ shortD b) := by
  obtain ⟨k, -, hp⟩ := h.parts
  refine ⟨?_, h.none' rfl⟩
  rw [hp]
  cases k with
  | zero => rfl
  | succ k => unfold partsD; rw [if_pos rfl]
theorem Rest.unfold {b rs : List Int} {sh : Bool} {acc : List En} {P0 : Option (List En)} (h : Rest b rs sh acc P0) (hne : rs ≠ []) : ∃ k, (rs.drop 20).length ≤ k ∧ P0 = match entD (filledD (rs.take 20)) with
    | none => none
    | some e => if acc.length = 25 then none else partsD k (rs.drop 20) (acc ++ [e]) := by
  obtain ⟨k, hk, hp⟩ := h.parts
  have hl : 0 < rs.length := List.length_pos_iff.2 hne
  obtain ⟨j, rfl⟩ : ∃ j, k = j + 1 := ⟨k - 1, by omega⟩
  refine ⟨j, by simp; omega, ?_⟩
  rw [hp]
  conv => lhs; unfold partsD
  rw [if_neg hne]
  cases entD (filledD (rs.take 20)) <;> rfl
theorem Rest.next {b rs : List Int} {sh : Bool} {acc : List En} {P0 : Option (List En)} (h : Rest b rs sh acc P0) (hne : rs ≠ []) {x : En} (hx : entD (filledD (rs.take 20)) = some x) (ha : acc.length ≠ 25) : Rest b (rs.drop 20) (decide ((rs.take 20).length < 20)) (acc ++ [x]) P0 := by
  obtain ⟨k, hk, hp⟩ := h.unfold hne
  obtain ⟨h1, h2⟩ := h.some' hne
  have hl : 0 < rs.length := List.length_pos_iff.2 hne
  refine ⟨⟨k, hk, by rw [hp, hx]; simp only; rw [if_neg ha]⟩, fun hd => ?_, fun hd => ?_, fun y hy => h.bd y (List.mem_of_mem_drop hy)⟩
  · have : 0 < (rs.drop 20).length := List.length_pos_iff.2 hd
    rw [List.length_drop] at this ⊢
    exact ⟨by omega, h2⟩
  · have h3 := congrArg List.length hd
    rw [List.length_drop] at h3
    simp only [List.length_nil] at h3
    rw [decide_eq_true_eq, List.length_take]
    unfold shortD
    omega
end Go.Proofs.Ytfglidaicjjpfaa
end

section
namespace Go.Proofs.Ytfglidaicjjpfaa
open Go.RowKit
set_option maxRecDepth 100000 in
set_option maxHeartbeats 4000000 in
theorem decode_any {N : Nat} (b : List Int) (a : Option Addr) (c : Nat) (w : World) (hL : Rd w.heap a N 1 (ivals .u8 b)) (hb : ∀ x ∈ b, 0 ≤ x ∧ x < 256) (hc : b.length ≤ c) (hll : b.length ≤ 9223372036854775000) (hN : N = b.length) :
    Calls Try.prog 37 #[.slice a N c] w (RetDec w (decD b)) := by
  subst hN
  obtain ⟨R, hR⟩ : ∃ R, R = decD b := ⟨_, rfl⟩
  rw [← hR]
  have HR := Lib.hid hR
  have HL := Lib.hid hL
  have HB := Lib.hid hb
  have hF0 := (Fr.refl (fun _ => False) w).alloc (.cells #[.bool false, .slice none 0 0] 39)
  have hB0 := Blk.made w 39 [.bool false, .slice none 0 0]
  have hF1 := hF0.alloc (.cells #[.int .u8 2, .int .u8 2, .int .u8 0, .int .u8 0] 5)
  have hB1 := hB0.alloc (.cells #[.int .u8 2, .int .u8 2, .int .u8 0, .int .u8 0] 5)
  have hW1 : Blk ((w.alloc (.cells #[.bool false, .slice none 0 0] 39)).alloc (.cells #[.int .u8 2, .int .u8 2, .int .u8 0, .int .u8 0] 5)).heap (w.heap.size + 1) 5 (ivals .u8 [2, 2, 0, 0]) := by
    have := Blk.made (w.alloc (.cells #[.bool false, .slice none 0 0] 39)) 5 (ivals .u8 [2, 2, 0, 0])
    rwa [show (w.alloc (.cells #[.bool false, .slice none 0 0] 39)).heap.size = w.heap.size + 1 by simp] at this
  have hcs : (b.take 4).length = min b.length 4 := by rw [List.length_take, Nat.min_comm]
  have hrd := hL.fr hF1 (fun _ _ _ h => h)
  have hside : CpySide ((w.alloc (.cells #[.bool false, .slice none 0 0] 39)).alloc (.cells #[.int .u8 2, .int .u8 2, .int .u8 0, .int .u8 0] 5)) (some ⟨w.heap.size + 1, 0, none⟩) a b.length 4 1 (w.heap.size + 1) 0 (ivals .u8 [2, 2, 0, 0]) (ivals .u8 (b.take 4)) := by
    refine ⟨by simp [ivals]; omega, fun hp => ?_, by simp [ivals]; omega, ivals_one .u8 _⟩
    obtain ⟨g, off, rfl, hgl, hcc⟩ := hrd.pos (by simp [ivals] at hp; omega)
    refine ⟨rfl, ⟨g, off, none⟩, rfl, fun j v hj => ?_⟩
    have hjl : j < (b.take 4).length := by have := (List.getElem?_eq_some_iff.1 hj).1; simpa [ivals] using this
    rw [List.length_take] at hjl
    rw [Addr.add_lit, hcc _ rfl j (by omega)]
    rw [← hj]
    simp only [ivals, List.getElem?_map]
    rw [List.getElem?_take, if_pos (by omega)]
  have HSD := Lib.hid hside
  have hspl : splice (ivals .u8 [2, 2, 0, 0]) 0 (ivals .u8 (b.take 4)) = ivals .u8 (b.take 4 ++ ([2, 2, 0, 0] : List Int).drop (b.take 4).length) := by rw [splice_head]; simp [ivals]
  have HSP := Lib.hid hspl
  have HF1 := Lib.hid hF1
  have HB1 := Lib.hid hB1
  clear hL hb hR hF0 hB0 hrd hside hspl hcs hF1 hB1
  go_enter Try.func37, Try.ntmps37
  go_wp2_with (with_reducible refine wpList_cpy rfl (.tmp 15) (.tmp 16) 34 34 rfl Try.underlying34 infoU8 rfl rfl (g := w.heap.size + 1) (off := 0) hW1 (cs := ivals .u8 (b.take 4)) ?b1 ?b2)
  case b1 => exact HSD.out
  case b2 =>
  intro w2 hW2 hF2 hs2
  have hW2 : Blk w2.heap (w.heap.size + 1) 5 (ivals .u8 (b.take 4 ++ ([2, 2, 0, 0] : List Int).drop (b.take 4).length)) := hW2.eq ((congrArg (splice (ivals .u8 [2, 2, 0, 0]) 0) (show List.take 4 (List.map (Value.int .u8) b) = ivals .u8 (b.take 4) by simp [ivals])).trans HSP.out)
  have hB2 := HB1.out.fr hF2 (fun e => by have h2 : w.heap.size = w.heap.size + 1 := e; omega)
  have hF02 : Fr (fun _ => False) w w2 := HF1.out.trans' hF2 (fun i hi e => by have h2 : i = w.heap.size + 1 := e; omega)
  clear hF2 hs2 hW1
  go_upto_if 18 with (fail)
  go_cut [0] (fun s0 wx => ∃ (g1 o1 c1 : Nat), s0 = .slice (some ⟨g1, o1, none⟩) (headD b).length c1 ∧ Rd wx.heap (some ⟨g1, o1, none⟩) (headD b).length 1 (ivals .u8 (headD b)) ∧ (headD b).length ≤ c1 ∧ Fr (fun _ => False) w wx ∧ Blk wx.heap w.heap.size 39 [.bool false, .slice none 0 0])
  case first =>
    by_cases h4 : b.length < 4
    · have hh : b.take 4 ++ ([2, 2, 0, 0] : List Int).drop (b.take 4).length = headD b := by
        unfold headD; rw [if_pos h4, List.take_of_length_le (by omega)]
      rw [hh] at hW2
      have h4l := (headD_len b).2.1 h4
      have hrd := hW2.rd (sz := 1) (n := 4) (off := 0) (by simp [ivals]; omega)
      rw [List.drop_zero, List.take_of_length_le (by simp [ivals]; omega)] at hrd
      have HRD := Lib.hid hrd
      clear hh hW2 hrd
      go_wp2
      go_meet
      case rel => exact ⟨w.heap.size + 1, 0, 4, by rw [h4l], by rw [h4l]; exact HRD.out, by omega, hF02, hB2⟩
    · have hh := (headD_len b).2.2 (by omega)
      have hrd := HL.out.fr hF02 (fun _ _ _ h => h)
      obtain ⟨g, off, rfl, -⟩ := hrd.pos (by omega)
      have HRD := Lib.hid hrd
      clear hW2 hrd
      go_wp2
      go_meet
      case rel => exact ⟨g, off, c, by rw [hh], by rw [hh]; exact HRD.out, by rw [hh]; exact hc, hF02, hB2⟩
  case rest =>
  obtain ⟨g1, o1, c1, rfl, hRd, hc1, hF3, hB3⟩ := hcut
  clear hW2 hB2 hF02
  obtain ⟨w3, hnm⟩ : ∃ z, z = wc := ⟨wc, rfl⟩
  subst hnm
  obtain ⟨hb, hhb⟩ : ∃ hb, hb = headD b := ⟨_, rfl⟩
  rw [← hhb] at hRd hc1 ⊢
  have hl4 : 4 ≤ hb.length := by rw [hhb]; exact (headD_len b).1
  have hlu : hb.length ≤ 9223372036854775000 := by
    rw [hhb]
    by_cases h4 : b.length < 4
    · have := (headD_len b).2.1 h4; omega
    · rw [(headD_len b).2.2 (by omega)]; exact hll
  have HHB := Lib.hid hhb
  obtain ⟨_, _, he, hgl, hcc⟩ := Ints.pos hRd (by omega)
  cases he
  have x0 := hcc w3 rfl 0 (by omega)
  have x1 := hcc w3 rfl 1 (by omega)
  have x2 := hcc w3 rfl 2 (by omega)
  have x3 := hcc w3 rfl 3 (by omega)
  obtain ⟨X0, hX0⟩ : ∃ X, X = nth hb 0 := ⟨_, rfl⟩
  obtain ⟨X1, hX1⟩ : ∃ X, X = nth hb 1 := ⟨_, rfl⟩
  obtain ⟨X2, hX2⟩ : ∃ X, X = nth hb 2 := ⟨_, rfl⟩
  obtain ⟨X3, hX3⟩ : ∃ X, X = nth hb 3 := ⟨_, rfl⟩
  rw [← hX0] at x0
  rw [← hX1] at x1
  rw [← hX2] at x2
  rw [← hX3] at x3
  simp only [Nat.add_zero] at x0 x1 x2 x3
  obtain ⟨V, hV⟩ : ∃ V : Bool, V = decide ((X0 ≠ 1 ∧ X0 ≠ 2) ∨ X1 ≠ 2 ∨ X2 ≠ 0 ∨ X3 ≠ 0) := ⟨_, rfl⟩
  have HV := Lib.hid hV
  have HVB := Lib.hid (show V = decide (headBad hb) by rw [hV, hX0, hX1, hX2, hX3]; rfl)
  have HX0 := Lib.hid hX0
  clear hhb hV hX0 hX1 hX2 hX3 hcc
  go_upto_region 6 with (fail)
  go_cut [47] (fun s47 wx => s47 = .bool V ∧ Fr (fun _ => False) w3 wx)
  case first =>
    have cs : (X0 ≠ 1 ∧ X0 ≠ 2) ∨ ((X0 = 1 ∨ (X0 ≠ 1 ∧ X0 = 2)) ∧ (X1 ≠ 2 ∨ (X1 = 2 ∧ (X2 ≠ 0 ∨ (X2 = 0 ∧ (X3 ≠ 0 ∨ X3 = 0)))))) := by omega
    have vt : ∀ (h : (X0 ≠ 1 ∧ X0 ≠ 2) ∨ X1 ≠ 2 ∨ X2 ≠ 0 ∨ X3 ≠ 0), V = true := fun h => by rw [HV.out]; exact decide_eq_true h
    have vf : ∀ (h : ¬ ((X0 ≠ 1 ∧ X0 ≠ 2) ∨ X1 ≠ 2 ∨ X2 ≠ 0 ∨ X3 ≠ 0)), V = false := fun h => by rw [HV.out]; exact decide_eq_false h
    have VT := Lib.hid vt
    have VF := Lib.hid vf
    clear vt vf
    rcases cs with ⟨k1, k2⟩ | ⟨k1 | ⟨k1, k2⟩, k3 | ⟨k3, k4 | ⟨k4, k5 | k5⟩⟩⟩
    · have q0 : (X0 != 1) = true := by simp; omega
      have q1 : (X0 != 2) = true := by simp; omega
      obtain rfl : V = true := VT.out (by omega)
      clear VT VF
      go_wp2
      go_meet
      case rel => exact ⟨rfl, Fr.refl _ _⟩
    · have q0 : (X0 != 1) = false := by simp; omega
      have q1 : (X1 != 2) = true := by simp; omega
      obtain rfl : V = true := VT.out (by omega)
      clear VT VF
      go_wp2
      go_meet
      case rel => exact ⟨rfl, Fr.refl _ _⟩
    · have q0 : (X0 != 1) = false := by simp; omega
      have q1 : (X1 != 2) = false := by simp; omega
      have q2 : (X2 != 0) = true := by simp; omega
      obtain rfl : V = true := VT.out (by omega)
      clear VT VF
      go_wp2
      go_meet
      case rel => exact ⟨rfl, Fr.refl _ _⟩
    · have q0 : (X0 != 1) = false := by simp; omega
      have q1 : (X1 != 2) = false := by simp; omega
      have q2 : (X2 != 0) = false := by simp; omega
      have q3 : (X3 != 0) = true := by simp; omega
      obtain rfl : V = true := VT.out (by omega)
      clear VT VF
      go_wp2
      go_meet
      case rel => exact ⟨rfl, Fr.refl _ _⟩
    · have q0 : (X0 != 1) = false := by simp; omega
      have q1 : (X1 != 2) = false := by simp; omega
      have q2 : (X2 != 0) = false := by simp; omega
      have q3 : (X3 != 0) = false := by simp; omega
      obtain rfl : V = false := VF.out (by omega)
      clear VT VF
      go_wp2
      go_meet
      case rel => exact ⟨rfl, Fr.refl _ _⟩
    · have q0 : (X0 != 1) = true := by simp; omega
      have q1 : (X0 != 2) = false := by simp; omega
      have q2 : (X1 != 2) = true := by simp; omega
      obtain rfl : V = true := VT.out (by omega)
      clear VT VF
      go_wp2
      go_meet
      case rel => exact ⟨rfl, Fr.refl _ _⟩
    · have q0 : (X0 != 1) = true := by simp; omega
      have q1 : (X0 != 2) = false := by simp; omega
      have q2 : (X1 != 2) = false := by simp; omega
      have q3 : (X2 != 0) = true := by simp; omega
      obtain rfl : V = true := VT.out (by omega)
      clear VT VF
      go_wp2
      go_meet
      case rel => exact ⟨rfl, Fr.refl _ _⟩
    · have q0 : (X0 != 1) = true := by simp; omega
      have q1 : (X0 != 2) = false := by simp; omega
      have q2 : (X1 != 2) = false := by simp; omega
      have q3 : (X2 != 0) = false := by simp; omega
      have q4 : (X3 != 0) = true := by simp; omega
      obtain rfl : V = true := VT.out (by omega)
      clear VT VF
      go_wp2
      go_meet
      case rel => exact ⟨rfl, Fr.refl _ _⟩
    · have q0 : (X0 != 1) = true := by simp; omega
      have q1 : (X0 != 2) = false := by simp; omega
      have q2 : (X1 != 2) = false := by simp; omega
      have q3 : (X2 != 0) = false := by simp; omega
      have q4 : (X3 != 0) = false := by simp; omega
      obtain rfl : V = false := VF.out (by omega)
      clear VT VF
      go_wp2
      go_meet
      case rel => exact ⟨rfl, Fr.refl _ _⟩
  case rest =>
  obtain ⟨rfl, hF4⟩ := hcut
  have hF := hF3.trans hF4
  have hBr := hB3.fr hF4 (fun h => h)
  have hRd4 := hRd.fr hF4 (fun _ _ _ h => h)
  have x0' := (hF4.cell (p := ⟨g1, o1, none⟩) hgl (fun h => h)).trans x0
  have hgl4 := Nat.lt_of_lt_of_le hgl hF4.size
  clear x0 x1 x2 x3 hRd hF3 hB3 hF4 hgl HV
  obtain ⟨w4, hnm⟩ : ∃ z, z = wc := ⟨wc, rfl⟩
  subst hnm
  by_cases hVt : V = true
  · have HX := Lib.hid (show R = .error 3 by rw [HR.out]; unfold decD; rw [← HHB.out, if_pos (of_decide_eq_true (HVB.out.symm.trans hVt))])
    subst hVt
    have y0 := hBr.cell 0
    have y1 := hBr.cell 1
    have z0 := hBr.frozen 0
    have z1 := hBr.frozen 1
    have yl := hBr.lt
    have hq := (hBr.set 0 (.bool false)).set 1 (.slice none 0 0)
    have v0 := hq.cell 0
    have v1 := hq.cell 1
    have HFQ := Lib.hid ((hF.setCell (p := ⟨w.heap.size, 0, none⟩) (fun h => by simp at h) (.bool false)).setCell (p := ⟨w.heap.size, 1, none⟩) (fun h => by simp at h) (.slice none 0 0))
    simp only [List.getElem?_cons_succ, List.getElem?_cons_zero, List.set_cons_succ, List.set_cons_zero] at y0 y1 v0 v1
    clear hq hBr hF
    go_wp2
    refine bodyPost_ret (v := .tuple #[.agg #[.bool false, .slice none 0 0], errv 3]) (by simp [results, Try.results37, go_sem, v0, v1]) rfl ?_
    exact RetDec.err HX.out rfl HFQ.out
  · have hVf : V = false := by simpa using hVt
    have HNB := Lib.hid (show ¬ headBad hb from of_decide_eq_false (HVB.out.symm.trans hVf))
    subst hVf
    obtain ⟨ask, hask⟩ : ∃ ask : Bool, ask = (X0 == 1) := ⟨_, rfl⟩
    obtain ⟨P0, hP0⟩ : ∃ P0, P0 = partsD b.length (hb.drop 4) [] := ⟨_, rfl⟩
    have HRP := Lib.hid (show R = outD b ask P0 by
      rw [HR.out, hP0, hask, HX0.out]
      have : (nth hb 0 == 1) = decide (nth hb 0 = 1) := by by_cases h : nth hb 0 = 1 <;> simp [h]
      rw [this]
      unfold decD outD; rw [← HHB.out, if_neg HNB.out]
      cases partsD b.length (List.drop 4 hb) [] <;> rfl)
    have hbl : hb.length = if b.length < 4 then 4 else b.length := by
      rw [HHB.out]
      by_cases h4 : b.length < 4
      · rw [if_pos h4]; exact (headD_len b).2.1 h4
      · rw [if_neg h4, (headD_len b).2.2 (by omega)]
    have hRest : Rest b (hb.drop 4) (decide (b.length < 4)) [] P0 := by
      refine ⟨⟨b.length, by rw [List.length_drop, hbl]; split <;> omega, hP0⟩, fun hne => ?_, fun he => ?_, fun x hx => ?_⟩
      · have h1 : 0 < (hb.drop 4).length := List.length_pos_iff.2 hne
        rw [List.length_drop, hbl] at h1 ⊢
        split at h1
        · omega
        · rename_i h4; rw [if_neg h4]; omega
      · have h1 := congrArg List.length he
        rw [List.length_drop, hbl] at h1
        simp only [List.length_nil] at h1
        rw [decide_eq_true_eq]; unfold shortD
        split at h1 <;> omega
      · have := List.mem_of_mem_drop hx
        rw [HHB.out] at this
        exact headD_bd HB.out x this
    go_upto_region 8 with (fail)
    go_cut [6] (fun s6 wx => s6 = .pointer (some ⟨w4.heap.size, 0, none⟩) ∧ Blk wx.heap w4.heap.size 39 [.bool ask, .slice none 0 0] ∧ Fr (fun _ => False) w4 wx)
    case first =>
      have hBa := Blk.made w4 39 [.bool ask, .slice none 0 0]
      have hFa := (Fr.refl (fun _ => False) w4).alloc (.cells #[.bool ask, .slice none 0 0] 39)
      have HBa := Lib.hid hBa
      have HFa := Lib.hid hFa
      clear hBa hFa hRest
      cases hX : (X0 == 1) with
      | true =>
        obtain rfl : ask = true := hask.trans hX
        clear hask
        go_wp2
        go_meet
        case rel => exact ⟨rfl, HBa.out, HFa.out⟩
      | false =>
        obtain rfl : ask = false := hask.trans hX
        clear hask
        go_wp2
        go_meet
        case rel => exact ⟨rfl, HBa.out, HFa.out⟩
    case rest =>
    obtain ⟨rfl, hM5, hFm⟩ := hcut
    obtain ⟨w5, hnm⟩ : ∃ z, z = wc := ⟨wc, rfl⟩
    subst hnm
    have HM := Lib.hid hM5
    have hRr : Rd w5.heap (some ⟨g1, o1 + 4, none⟩) (hb.drop 4).length 1 (ivals .u8 (hb.drop 4)) := by
      have h := (rd_sub hRd4 4 (hb.length - 4) (by omega)).fr hFm (fun _ _ _ h => h)
      rw [List.take_of_length_le (by simp)] at h
      rwa [List.length_drop]
    have hdl : (hb.drop 4).length = hb.length - 4 := List.length_drop
    obtain ⟨r0, hr0⟩ : ∃ r0, r0 = hb.drop 4 := ⟨_, rfl⟩
    rw [← hr0] at hRest hRr hdl
    have hsl : hb.length - 4 = r0.length := hdl.symm
    have HDL := Lib.hid hdl
    have hFw := hF.trans hFm
    have hBw := hBr.fr hFm (fun h => h)
    have HASK := Lib.hid hask
    have hwl := hF.size
    have HBLT := Lib.hid (show w.heap.size < w4.heap.size from hBr.lt)
    have hcr : r0.length ≤ c1 - 4 := by omega
    have hr0u : r0.length ≤ 9223372036854775000 := by omega
    clear hRd4 hbl hP0 hr0 hF hBr hFm hdl hVt hM5 hask
    have hcast : ((hb.length - 4 : Nat) : Int) = (r0.length : Int) := by rw [hsl]
    have hw5s : w4.heap.size < w5.heap.size := HM.out.lt
    have HG4 := Lib.hid hgl4
    clear x0' hgl4
    go_upto_region 9 with (fail)
    go_cut [7] (fun s7 wx => ∃ (aR : Option Addr) (cR : Nat), s7 = .slice aR r0.length cR ∧ Rd wx.heap aR r0.length 1 (ivals .u8 r0) ∧ r0.length ≤ cR ∧ Fr (fun _ => False) w5 wx ∧ Hid (∀ bq oq, aR = some ⟨bq, oq, none⟩ → bq < w4.heap.size))
    case first =>
      have HRr := Lib.hid hRr
      by_cases hc4 : c1 = 4
      · have hz : r0.length = 0 := by omega
        have hr0 : r0 = [] := List.eq_nil_of_length_eq_zero hz
        subst hr0
        have hb4 := Lib.hid (show hb.length - 4 = 0 by omega)
        subst hc4
        clear hRr hsl hcast hz
        go_wp2
        go_meet
        case rel => exact ⟨some ⟨g1, o1, none⟩, 0, (by first | rfl | (rw [hb4.out]; rfl)), Rd.nil _ _ _, Nat.zero_le _, Fr.refl _ _, Lib.hid (fun bq oq e => by simp only [Option.some.injEq, Addr.mk.injEq] at e; rw [← e.1]; exact HG4.out)⟩
      · clear hRr
        go_wp2
        go_meet
        case rel => exact ⟨_, _, (by first | rfl | rw [hsl]), HRr.out, hcr, Fr.refl _ _, Lib.hid (fun bq oq e => by simp only [Option.some.injEq, Addr.mk.injEq] at e; rw [← e.1]; exact HG4.out)⟩
    case rest =>
    obtain ⟨aR, cR, rfl, hRr, hcr, hF6, HAB⟩ := hcut
    have hM6 := HM.out.fr hF6 (fun h => h)
    have hF06 := hFw.trans hF6
    have hB6 := hBw.fr hF6 (fun h => h)
    have HREST := Lib.hid hRest
    clear hRest HM hFw hBw hF6 hsl hcast
    go_wp2
    go_loopw [7, 4] (fun s7 s4 wr => ∃ (rs : List Int) (aR : Option Addr) (cR : Nat) (sh : Bool) (acc : List En) (aE : Option Addr) (cE : Nat) (obE : Option Nat), s7 = .slice aR rs.length cR ∧ s4 = .bool sh ∧ Rd wr.heap aR rs.length 1 (ivals .u8 rs) ∧ rs.length ≤ cR ∧ Hid (Rest b rs sh acc P0) ∧ rs.length ≤ 9223372036854775000 ∧ Blk wr.heap w4.heap.size 39 [.bool ask, .slice aE acc.length cE] ∧ Own wr.heap 45 5 aE acc.length cE (acc.flatMap En.cells) obE ∧ (∀ g, obE = some g → w4.heap.size < g) ∧ Fr (fun _ => False) w wr ∧ Blk wr.heap w.heap.size 39 [.bool false, .slice none 0 0] ∧ Hid (∀ x ∈ acc, En.wf x) ∧ acc.length ≤ 25 ∧ Hid (∀ bq oq, aR = some ⟨bq, oq, none⟩ → bq < w4.heap.size)) (fun s _ _ => sliceLen s)
    case atStart => exact ⟨r0, aR, cR, decide (b.length < 4), [], none, 0, none, rfl, congrArg Value.bool (decide_eq_decide.2 (by omega)), hRr, hcr, HREST, hr0u, hM6, Own.nil _ _ _, (fun _ h => nomatch h), hF06, hB6, Lib.hid (fun _ h => nomatch h), Nat.zero_le _, HAB⟩
    case round =>
      clear hRr hcr HREST hr0u hM6 hF06 hB6
      obtain ⟨rs, aR, cR, sh, acc, aE, cE, obE, rfl, rfl, hRr, hcr, hRS, hru, hM, hO, hN, hF, hBr, hW, h25, HAR⟩ := hrel
      by_cases hpos : 0 < rs.length
      · have hne : rs ≠ [] := List.length_pos_iff.1 hpos
        obtain ⟨gR, oR, rfl, hgR, -⟩ := hRr.pos (by omega)
        obtain ⟨p, hp⟩ : ∃ p, p = rs.take 20 := ⟨_, rfl⟩
        obtain ⟨m, hm⟩ : ∃ m, m = p.length := ⟨_, rfl⟩
        have hm1 : m = min 20 rs.length := by rw [hm, hp, List.length_take]
        have hpb : ∀ x ∈ p, 0 ≤ x ∧ x < 256 := fun x hx => hRS.out.bd x (by rw [hp] at hx; exact List.mem_of_mem_take hx)
        have hRp : Rd wr.heap (some ⟨gR, oR, none⟩) m 1 (ivals .u8 p) := by
          have := rd_sub hRr 0 m (by omega)
          rw [List.drop_zero, Nat.add_zero] at this
          rw [hp, show rs.take 20 = rs.take m by rw [hm1]; rcases Nat.le_total 20 rs.length with h | h <;> first | rw [Nat.min_eq_left h] | rw [Nat.min_eq_right h, List.take_length, List.take_of_length_le h]]
          exact this
        have hRq : Rd wr.heap (some ⟨gR, oR + m, none⟩) (rs.length - m) 1 (ivals .u8 (rs.drop 20)) := by
          have := rd_sub hRr m (rs.length - m) (by omega)
          rw [List.take_of_length_le (by simp)] at this
          rw [show rs.drop 20 = rs.drop m by rw [hm1]; rcases Nat.le_total 20 rs.length with h | h <;> first | rw [Nat.min_eq_left h] | rw [Nat.min_eq_right h, List.drop_length, List.drop_of_length_le h]]
          exact this
        have hql : (rs.drop 20).length = rs.length - m := by rw [List.length_drop]; omega
        have hmin : min (20 : Int) (rs.length : Int) = (m : Int) := by omega
        have hmp : 1 ≤ m ∧ m ≤ 20 ∧ m ≤ rs.length := by omega
        have HRQ := Lib.hid hRq
        have HPP := Lib.hid hp
        have HMP := Lib.hid hm
        have HPB := Lib.hid hpb
        have HQL := Lib.hid hql
        have hsh : Hid (decide ((m : Int) < 20) = decide (p.length < 20)) := Lib.hid (by
          have : ((m : Int) < 20) ↔ p.length < 20 := by rw [← hm]; omega
          simp only [this])
        clear hRr hp hm hRq hpb hql hm1
        go_upto_region 12 with (fail)
        go_cut [7] from 57 to 93 (fun s7 wx => ∃ (aQ : Option Addr) (cQ : Nat), s7 = .slice aQ (rs.drop 20).length cQ ∧ Rd wx.heap aQ (rs.drop 20).length 1 (ivals .u8 (rs.drop 20)) ∧ (rs.drop 20).length ≤ cQ ∧ Fr (fun _ => False) wr wx ∧ Hid (∀ bq oq, aQ = some ⟨bq, oq, none⟩ → bq < w4.heap.size))
        case first =>
          by_cases hcm : cR = m
          · have hz : (rs.drop 20).length = 0 := by rw [HQL.out]; omega
            have hz2 : rs.drop 20 = [] := List.eq_nil_of_length_eq_zero hz
            have hz3 : rs.length = m := by omega
            have HZ2 := Lib.hid hz2
            have hne2 : ¬ rs = [] := hne
            subst hcm
            clear hz hz2
            go_wp2
            go_meet
            case rel => rw [HZ2.out]; exact ⟨some ⟨gR, oR, none⟩, 0, (by simp [hz3]), Rd.nil _ _ _, Nat.zero_le _, Fr.refl _ _, Lib.hid (fun bq oq e => by simp only [Option.some.injEq, Addr.mk.injEq] at e; rw [← e.1]; exact HAR.out _ _ rfl)⟩
          · go_wp2
            go_meet
            case rel => exact ⟨_, _, (by rw [HQL.out]), by rw [HQL.out]; exact HRQ.out, by rw [HQL.out]; omega, Fr.refl _ _, Lib.hid (fun bq oq e => by simp only [Option.some.injEq, Addr.mk.injEq] at e; rw [← e.1]; exact HAR.out _ _ rfl)⟩
        case rest =>
        obtain ⟨aQ, cQ, rfl, hRQ, hcQ, hF7, HAQ0⟩ := hcut
        have hRp7 := hRp.fr hF7 (fun _ _ _ h => h)
        have hM7 := hM.fr hF7 (fun h => h)
        have hO7 := hO.fr hF7 (fun _ _ h => h)
        have hBr7 := hBr.fr hF7 (fun h => h)
        have hF07 := hF.trans hF7
        have hwr := hF.size
        clear hRp hM hO hBr hF hF7 HRQ hcr hmin
        obtain ⟨w7, hnm⟩ : ∃ z, z = wc := ⟨wc, rfl⟩
        subst hnm
        have hfi := filled_any (M := m) p (some ⟨gR, oR, none⟩) cR w7 hRp7 (by rw [← HMP.out]; omega) (by rw [← HMP.out]; omega) HMP.out
        go_wp2_with (fail)
        refine hfi.mono ?_
        rintro e8 w8 ⟨g8, rfl, hO8, hF8, hg8⟩
        obtain ⟨D8, hD8⟩ : ∃ D, D = entD (filledD p) := ⟨_, rfl⟩
        have hen := entry_any (filledD p) g8 w8 hO8.rd (filledD_bd HPB.out)
        rw [← hD8] at hen
        have HD8 := Lib.hid hD8
        clear hfi hRp7 hO8 hD8
        go_wp2_with (fail)
        refine hen.mono ?_
        rintro e9 w9 ⟨x, rfl, hF9, hx, hxw⟩
        obtain ⟨xa, xn, xt, xp, xm⟩ := x
        simp only
        have hF89 := hF8.trans hF9
        have hFx : Fr (fun _ => False) w7 (w9.alloc (.cells #[.int .u32 xa, .int .i64 xn, .int .i64 xt, .int .u32 xp, .int .i64 xm] 45)) := hF89.alloc _
        have hBx := Blk.made w9 45 [.int .u32 xa, .int .i64 xn, .int .i64 xt, .int .u32 xp, .int .i64 xm]
        have hM9 := hM7.fr hFx (fun h => h)
        have hO9 := hO7.fr hFx (fun _ _ h => h)
        have hBr9 := hBr7.fr hFx (fun h => h)
        have hRQ9 := hRQ.fr hFx (fun _ _ _ h => h)
        have hF := hF07.trans hFx
        have c0 := hBx.cell 0
        have c1' := hBx.cell 1
        have c2 := hBx.cell 2
        have c3 := hBx.cell 3
        have c4 := hBx.cell 4
        have cl := hBx.lt
        have m1 := hM9.cell 1
        have mf := hM9.frozen 1
        have ml := hM9.lt
        have hs9 := hF89.size
        have hw47 := hM7.lt
        have hwF := hF07.size
        simp only [List.getElem?_cons_succ, List.getElem?_cons_zero] at c0 c1' c2 c3 c4 m1
        have HUN := Lib.hid (hRS.out.unfold hne)
        clear hen hF8 hF9 hM7 hO7 hBr7 hRQ hF07 hBx hFx hF89
        cases hDD : D8 with
        | none =>
          have HX := Lib.hid (show R = .error 3 by
            obtain ⟨kk, -, h⟩ := HUN.out
            rw [HRP.out, h, ← HPP.out, ← HD8.out, hDD]; rfl)
          rw [show (none : Option En).isSome = false from rfl]
          have hBr := hBr9
          clear hDD hM9 hO9 hBr9 hRQ9 hx
          have y0 := hBr.cell 0
          have y1 := hBr.cell 1
          have z0 := hBr.frozen 0
          have z1 := hBr.frozen 1
          have yl := hBr.lt
          have hq := (hBr.set 0 (.bool false)).set 1 (.slice none 0 0)
          have v0 := hq.cell 0
          have v1 := hq.cell 1
          have HFQ := Lib.hid ((hF.setCell (p := ⟨w.heap.size, 0, none⟩) (fun h => by simp at h) (.bool false)).setCell (p := ⟨w.heap.size, 1, none⟩) (fun h => by simp at h) (.slice none 0 0))
          simp only [List.getElem?_cons_succ, List.getElem?_cons_zero, List.set_cons_succ, List.set_cons_zero] at y0 y1 v0 v1
          clear hq hBr hF
          go_wp2
          refine bodyPost_ret (v := .tuple #[.agg #[.bool false, .slice none 0 0], errv 3]) (by simp [results, Try.results37, go_sem, v0, v1]) rfl ?_
          exact RetDec.err HX.out rfl HFQ.out
        | some y =>
          have hyx := hx y hDD
          subst hyx
          rw [show (some (⟨xa, xn, xt, xp, xm⟩ : En)).isSome = true from rfl]
          by_cases h25' : acc.length = 25
          · have HX := Lib.hid (show R = .error 3 by
              obtain ⟨kk, -, h⟩ := HUN.out
              rw [HRP.out, h, ← HPP.out, ← HD8.out, hDD]; simp only; rw [if_pos h25']; rfl)
            have e25 : ((acc.length : Int) == 25) = true := by simp [h25']
            have hBr := hBr9
            clear hDD hM9 hO9 hBr9 hRQ9 hx h25'
            have y0 := hBr.cell 0
            have y1 := hBr.cell 1
            have z0 := hBr.frozen 0
            have z1 := hBr.frozen 1
            have yl := hBr.lt
            have hq := (hBr.set 0 (.bool false)).set 1 (.slice none 0 0)
            have v0 := hq.cell 0
            have v1 := hq.cell 1
            have HFQ := Lib.hid ((hF.setCell (p := ⟨w.heap.size, 0, none⟩) (fun h => by simp at h) (.bool false)).setCell (p := ⟨w.heap.size, 1, none⟩) (fun h => by simp at h) (.slice none 0 0))
            simp only [List.getElem?_cons_succ, List.getElem?_cons_zero, List.set_cons_succ, List.set_cons_zero] at y0 y1 v0 v1
            clear hq hBr hF
            go_wp2
            refine bodyPost_ret (v := .tuple #[.agg #[.bool false, .slice none 0 0], errv 3]) (by simp [results, Try.results37, go_sem, v0, v1]) rfl ?_
            exact RetDec.err HX.out rfl HFQ.out
          · have e25 : ((acc.length : Int) == 25) = false := by simp; omega
            have HNX := Lib.hid (hRS.out.next hne (x := ⟨xa, xn, xt, xp, xm⟩) (by rw [← HPP.out, ← HD8.out, hDD]) h25')
            have hrd := rd_lit1 w9 (.cells #[.int .u32 xa, .int .i64 xn, .int .i64 xt, .int .u32 xp, .int .i64 xm] 45) 45 [.int .u32 xa, .int .i64 xn, .int .i64 xt, .int .u32 xp, .int .i64 xm]
            have hFl := (Fr.refl (fun _ => False) (w9.alloc (.cells #[.int .u32 xa, .int .i64 xn, .int .i64 xt, .int .u32 xp, .int .i64 xm] 45))).alloc (.cells #[.int .u32 xa, .int .i64 xn, .int .i64 xt, .int .u32 xp, .int .i64 xm] 45)
            have hOa := hO9.fr hFl (fun _ _ h => h)
            have HMl := Lib.hid (hM9.fr hFl (fun h => h))
            have HBl := Lib.hid (hBr9.fr hFl (fun h => h))
            have HRl := Lib.hid (hRQ9.fr hFl (fun _ _ _ h => h))
            have HFl := Lib.hid (hF.trans hFl)
            have hacl : acc.length ≤ 24 := by omega
            have hs10 := hFl.size
            have HW := Lib.hid (show ∀ z ∈ acc ++ [(⟨xa, xn, xt, xp, xm⟩ : En)], En.wf z from fun z hz => by
              rcases List.mem_append.1 hz with hz | hz
              · exact hW.out z hz
              · rw [List.mem_singleton.1 hz]; exact hxw)
            clear hDD hx h25' hM9 hO9 hBr9 hRQ9 hFl hF HUN
            go_upto_region 17 with (fail)
            go_wp2_with (go_loud (at_builtin; refine wpList_app rfl _ _ 37 rfl Try.underlying37 infoEn rfl (by decide) rfl rfl hOa hrd (by simp [Value.oneCell']) (by omega) (by omega) ?_))
            intro a8 c8 w8' ob8 v1 v2 v3
            have HAP := Lib.hid (show ∀ bq oq, aQ = some ⟨bq, oq, none⟩ → ¬ obE = some bq from fun bq oq e h => by have h1 := HAQ0.out bq oq e; have := hN bq h; omega)
            have HAQ := Lib.hid (show ∀ bq oq, aQ = some ⟨bq, oq, none⟩ → ¬ bq = w4.heap.size from fun bq oq e h => by have h1 := HAQ0.out bq oq e; omega)
            have hnB : ∀ g, obE = some g → ¬ g = w4.heap.size ∧ ¬ g = w.heap.size ∧ w.heap.size ≤ g := fun g hg => by have := hN g hg; omega
            have hM8 := HMl.out.fr v2 (fun e => (hnB _ e).1 rfl)
            have hB8 := HBl.out.fr v2 (fun e => (hnB _ e).2.1 rfl)
            have hR8 := HRl.out.fr v2 (fun bq oq e s => HAP.out bq oq e s)
            have hF8' := HFl.out.trans' v2 (fun i hi e => by have := (hnB _ e).2.2; omega)
            have hN8 : ∀ g, ob8 = some g → w4.heap.size < g := app_new hN v3 (by have h1 := hs10; simp at h1; omega)
            have y1 := hM8.cell 1
            have yf := hM8.frozen 1
            have yl := hM8.lt
            simp only [List.getElem?_cons_succ, List.getElem?_cons_zero] at y1
            have HM9 := Lib.hid (hM8.set 1 (.slice a8 (acc.length + 1) c8))
            have HO9 := Lib.hid (v1.other (p := ⟨w4.heap.size, 1, none⟩) (fun e => by have h2 : ob8 = some w4.heap.size := e; have := hN8 _ h2; omega) (.slice a8 (acc.length + 1) c8))
            have hS9 : Fr (fun k => k = w4.heap.size) w8' (w8'.setCell ⟨w4.heap.size, 1, none⟩ (.slice a8 (acc.length + 1) c8)) := (Fr.refl (fun k => k = w4.heap.size) w8').setCell (p := ⟨w4.heap.size, 1, none⟩) (fun _ => rfl) _
            have HF9 := Lib.hid (hF8'.trans' hS9 (fun i hi e => by have h2 : i = w4.heap.size := e; omega))
            have HB9 := Lib.hid (hB8.fr hS9 (fun e => by have h2 : w.heap.size = w4.heap.size := e; have := HBLT.out; omega))
            have HR9 := Lib.hid (hR8.fr hS9 (fun bq oq e s => HAQ.out bq oq e s))
            have hqu : (rs.drop 20).length ≤ 9223372036854775000 := by rw [HQL.out]; omega
            have hcc' : acc.length + 1 ≤ 25 := by omega
            have HO9' := Lib.hid (show Own (w8'.setCell ⟨w4.heap.size, 1, none⟩ (.slice a8 (acc.length + 1) c8)).heap 45 5 a8 (acc ++ [(⟨xa, xn, xt, xp, xm⟩ : En)]).length c8 ((acc ++ [(⟨xa, xn, xt, xp, xm⟩ : En)]).flatMap En.cells) ob8 by
              rw [List.length_append, List.flatMap_append]; simpa using HO9.out)
            clear v1 v2 v3 hOa hrd hM8 hB8 hR8 hF8' hS9 c0 c1' c2 c3 c4 m1 mf
            go_wp2
            go_roundw
            case rel => exact ⟨rs.drop 20, aQ, cQ, decide (p.length < 20), acc ++ [⟨xa, xn, xt, xp, xm⟩], a8, c8, ob8, (by simp), (by first | rw [hsh.out] | simp [hsh.out]), HR9.out, hcQ, (by rw [HPP.out]; exact HNX), hqu, (by simpa using HM9.out), HO9'.out, hN8, HF9.out, HB9.out, HW, (by simpa using hcc'), HAQ0⟩
            case measure => simp [sliceLen]; omega
      · have hrs : rs = [] := by cases rs with | nil => rfl | cons x l => exact absurd (Nat.succ_pos _) hpos
        subst hrs
        obtain ⟨hP, hS⟩ := hRS.out.done
        have HPS := Lib.hid hP
        cases hsh : sh with
        | true =>
          have HX := Lib.hid (show R = .error 6 by rw [HRP.out, HPS.out]; unfold outD; simp only; rw [if_pos (hS.1 hsh)])
          clear hsh hS hP hRr hM hO
          have y0 := hBr.cell 0
          have y1 := hBr.cell 1
          have z0 := hBr.frozen 0
          have z1 := hBr.frozen 1
          have yl := hBr.lt
          have hq := (hBr.set 0 (.bool false)).set 1 (.slice none 0 0)
          have v0 := hq.cell 0
          have v1 := hq.cell 1
          have HFQ := Lib.hid ((hF.setCell (p := ⟨w.heap.size, 0, none⟩) (fun h => by simp at h) (.bool false)).setCell (p := ⟨w.heap.size, 1, none⟩) (fun h => by simp at h) (.slice none 0 0))
          simp only [List.getElem?_cons_succ, List.getElem?_cons_zero, List.set_cons_succ, List.set_cons_zero] at y0 y1 v0 v1
          clear hq hBr hF
          go_wp2
          refine bodyPost_ret (v := .tuple #[.agg #[.bool false, .slice none 0 0], errv 6]) (by simp [results, Try.results37, go_sem, v0, v1]) rfl ?_
          exact RetDec.err HX.out rfl HFQ.out
        | false =>
          have hns : ¬ shortD b := fun h => by have := hS.2 h; rw [hsh] at this; cases this
          have HX := Lib.hid (show R = .ok (ask, acc) by rw [HRP.out, HPS.out]; unfold outD; simp only; rw [if_neg hns])
          have hm0 := hM.cell 0
          have hm1 := hM.cell 1
          have hml := hM.lt
          have y0 := hBr.cell 0
          have y1 := hBr.cell 1
          have z0 := hBr.frozen 0
          have z1 := hBr.frozen 1
          have yl := hBr.lt
          have hq := (hBr.set 0 (.bool ask)).set 1 (.slice aE acc.length cE)
          have v0 := hq.cell 0
          have v1 := hq.cell 1
          have hFs : Fr (fun k => k = w.heap.size) wr ((wr.setCell ⟨w.heap.size, 0, none⟩ (.bool ask)).setCell ⟨w.heap.size, 1, none⟩ (.slice aE acc.length cE)) := ((Fr.refl (fun k => k = w.heap.size) wr).setCell (p := ⟨w.heap.size, 0, none⟩) (fun _ => rfl) _).setCell (p := ⟨w.heap.size, 1, none⟩) (fun _ => rfl) _
          have HFQ := Lib.hid (hF.trans' hFs (fun i hi e => by have h2 : i = w.heap.size := e; omega))
          have HOQ := Lib.hid (hO.fr hFs (fun g hg e => by have h2 : g = w.heap.size := e; have := hN g hg; omega))
          have HN' := Lib.hid (show ∀ g, obE = some g → w.heap.size ≤ g from fun g hg => by have := hN g hg; omega)
          simp only [List.getElem?_cons_succ, List.getElem?_cons_zero, List.set_cons_succ, List.set_cons_zero] at y0 y1 v0 v1 hm0 hm1
          clear hq hBr hF hFs hM hO hRr hsh hS hP hns
          go_wp2
          refine bodyPost_ret (v := .tuple #[.agg #[.bool ask, .slice aE acc.length cE], .nilIface]) (by simp [results, Try.results37, go_sem, v0, v1]) rfl ?_
          exact RetDec.ok HX.out rfl HOQ.out HFQ.out HN'.out hW.out h25
end Go.Proofs.Ytfglidaicjjpfaa
end

section
namespace Go.Proofs.Ytfglidaicjjpfaa
open Go.RowKit

/-! What a router comes to. -/
structure HR where
  err : Option Int
  now : Int
  l : List Td
  bad : Int
/-- One entry heard. -/
def hear1 (D : DC) (f t : Int) (l : List Td) (e : En) : List Td := if (⟨e.a, e.n⟩ : Nt) ∈ D.own then l else match learnE t l f e.a e.n e.m t with
  | .ok l' => l'
  | .error _ => l
def hearL (D : DC) (f t : Int) (l : List Td) (es : List En) : List Td := es.foldl (hear1 D f t) l
def timeErr (D : DC) (now f t : Int) : Prop := t < now ∨ 1099511627776 < t ∨ f < 0 ∨ (D.costs.length : Int) ≤ f
instance (D : DC) (now f t : Int) : Decidable (timeErr D now f t) := by unfold timeErr; infer_instance
def hearM (D : DC) (now : Int) (l : List Td) (bad : Int) (b : List Int) (f t : Int) : HR :=
  if timeErr D now f t then ⟨some 1, now, l, bad⟩
  else match decD b with
    | .error k => ⟨some k, now, l, bad + 1⟩
    | .ok (true, _) => ⟨some 3, now, l, bad + 1⟩
    | .ok (false, es) => ⟨none, t, hearL D f t (rAged t l) es, bad⟩
def downM (D : DC) (now : Int) (l : List Td) (bad : Int) (f t : Int) : HR := if timeErr D now f t then ⟨some 1, now, l, bad⟩ else ⟨none, t, rLost f t l, bad⟩
def tickM (now : Int) (l : List Td) (bad : Int) (t : Int) : HR := if t < now ∨ 1099511627776 < t then ⟨some 1, now, l, bad⟩ else ⟨none, t, rAged t l, bad⟩
def RetH (w : World) (base : Nat) (D : DC) (r : HR) (e : Ending) (w' : World) : Prop := e = .returned (errO r.err) ∧ Dmn w' base D r.now r.l r.bad ∧ Fr (fun k => k = D.bd ∨ k = D.br) w w'
theorem RetH.mk {w w' : World} {base : Nat} {D : DC} {r : HR} {e : Ending} {v : Value} {o : Option Int} {now : Int} {l : List Td} {bad : Int} (hr : r = ⟨o, now, l, bad⟩) (he : e = .returned v) (hD : Dmn w' base D now l bad) (hF : Fr (fun k => k = D.bd ∨ k = D.br) w w') (hv : v = errO o := by rfl) : RetH w base D r e w' := by
  subst hr; subst hv; exact ⟨he, hD, hF⟩
namespace Dmn
variable {w w' : World} {base : Nat} {D : DC} {now : Int} {l : List Td} {bad : Int}
theorem time (h : Dmn w base D now l bad) : 0 ≤ now ∧ now ≤ 1099511627776 := ⟨h.ok.n0, h.ok.n1⟩
theorem aged {t : Int} (h : Dmn w base D now l bad) (ht : ¬ (t < now ∨ 1099511627776 < t)) (f : Fr (fun k => k = D.br) w w') (hR : IsRib w'.heap base D.br t (rAged t l)) : Dmn w' base D t (rAged t l) bad :=
  h.put f hR (rAged_ok h.ok (by omega) (by omega)) (fun x hx => by obtain ⟨y, hy, h1, h2, h3⟩ := age1_mem hx; rw [← h1, ← h2, ← h3]; exact h.by' y hy) (fun x hx => by obtain ⟨y, hy, h1, h2, h3⟩ := age1_mem hx; rw [← h2, ← h3]; exact h.out y hy)
theorem lost {f t : Int} (h : Dmn w base D now l bad) (ht : ¬ (t < now ∨ 1099511627776 < t)) (fr : Fr (fun k => k = D.br) w w') (hR : IsRib w'.heap base D.br t (rLost f t l)) : Dmn w' base D t (rLost f t l) bad :=
  h.put fr hR (lose_ok h.ok (by omega) (by omega)) (fun x hx => by obtain ⟨y, hy, h1, h2, h3⟩ := lost_mem hx; rw [← h1, ← h2, ← h3]; exact h.by' y hy) (fun x hx => by obtain ⟨y, hy, h1, h2, h3⟩ := lost_mem hx; rw [← h2, ← h3]; exact h.out y hy)
theorem learnt {f t a n m : Int} {l' : List Td} (h : Dmn w base D now l bad) (hp : learnE now l f a n m t = .ok l') (hf : f < D.costs.length) (ha : 0 ≤ a ∧ a < 4294967296) (ho : (⟨a, n⟩ : Nt) ∉ D.own) (fr : Fr (fun k => k = D.br) w w') (hR : IsRib w'.heap base D.br t l') : Dmn w' base D t l' bad := by
  obtain ⟨q1, q2, q3, q4, q5, q6, q7, q8, q9⟩ := learn_ok h.ok ha hp
  refine h.put fr hR q1 (fun x hx => ?_) (fun x hx => ?_)
  · rcases rPut_mem q9 hx with ⟨e1, e2, e3⟩ | hx
    · rw [e1, e2, e3]; exact ⟨hf, q6⟩
    · obtain ⟨y, hy, h1, h2, h3⟩ := age1_mem hx; rw [← h1, ← h2, ← h3]; exact h.by' y hy
  · rcases rPut_mem q9 hx with ⟨e1, e2, e3⟩ | hx
    · rw [e2, e3]; exact ho
    · obtain ⟨y, hy, h1, h2, h3⟩ := age1_mem hx; rw [← h2, ← h3]; exact h.out y hy
end Dmn
/-- What is decoded is right. -/
theorem entD_ok {b : List Int} {e : En} (hb : ∀ x ∈ b, 0 ≤ x ∧ x < 256) (h : entD b = some e) : entErr e = none ∧ En.wf e := by
  unfold entD at h
  split at h
  · cases h
  · split at h
    · rename_i hc
      cases h
      exact ⟨hc.2, numB_bd (fun x hx => hb x (List.mem_of_mem_drop (List.mem_of_mem_take hx))), numB_bd (fun x hx => hb x (List.mem_of_mem_drop (List.mem_of_mem_take hx)))⟩
    · cases h
theorem partsD_ok : ∀ (k : Nat) (b : List Int) (acc es : List En), (∀ x ∈ b, 0 ≤ x ∧ x < 256) → partsD k b acc = some es → (∀ e ∈ acc, entErr e = none ∧ En.wf e) → ∀ e ∈ es, entErr e = none ∧ En.wf e := by
  intro k
  induction k with
  | zero => intro b acc es _ h ha; cases h; exact ha
  | succ k ih =>
    intro b acc es hb h ha
    unfold partsD at h
    split at h
    · cases h; exact ha
    · split at h
      · cases h
      · rename_i e he
        split at h
        · cases h
        · refine ih _ _ _ (fun x hx => hb x (List.mem_of_mem_drop hx)) h (fun y hy => ?_)
          rcases List.mem_append.1 hy with hy | hy
          · exact ha y hy
          · rw [List.mem_singleton.1 hy]
            exact entD_ok (filledD_bd (fun x hx => hb x (List.mem_of_mem_take hx))) he
theorem decD_ok {b : List Int} {q : Bool} {es : List En} (hb : ∀ x ∈ b, 0 ≤ x ∧ x < 256) (h : decD b = .ok (q, es)) : ∀ e ∈ es, entErr e = none ∧ En.wf e := by
  unfold decD at h
  split at h
  · cases h
  · split at h
    · cases h
    · rename_i l hl
      split at h
      · cases h
      · cases h
        refine partsD_ok _ _ _ _ (fun x hx => ?_) hl (fun _ h => nomatch h)
        have hx := List.mem_of_mem_drop hx
        unfold headD at hx
        split at hx
        · rcases List.mem_append.1 hx with hx | hx
          · exact hb x hx
          · have := List.mem_of_mem_drop hx
            simp only [List.mem_cons, List.not_mem_nil, or_false] at this
            omega
        · exact hb x hx
theorem learn_four {now f a n m t q : Int} {l : List Td} (h : learnE now l f a n m t = .error q) (hc : ¬ ckErr now f t) (hn : netErr a n = none) (hm : 1 ≤ m ∧ m ≤ 16) : q = 4 := by
  unfold learnE at h
  rw [if_neg hc, hn] at h
  simp only at h
  rw [if_neg (by omega)] at h
  unfold rPut at h
  split at h
  · split at h <;> cases h
  · split at h
    · cases h
    · split at h
      · cases h; rfl
      · cases h
theorem hearL_step (D : DC) (f t : Int) (l : List Td) (es : List En) {k : Nat} (h : k < es.length) : hearL D f t l (es.take (k + 1)) = hear1 D f t (hearL D f t l (es.take k)) (nth es k) := by
  unfold hearL
  rw [take_succ_nth es k h, List.foldl_append]
  rfl
theorem hear1_own {D : DC} {f t : Int} {l : List Td} {e : En} (h : (⟨e.a, e.n⟩ : Nt) ∈ D.own) : hear1 D f t l e = l := if_pos h
theorem hear1_ok {D : DC} {f t : Int} {l l' : List Td} {e : En} (h : (⟨e.a, e.n⟩ : Nt) ∉ D.own) (hl : learnE t l f e.a e.n e.m t = .ok l') : hear1 D f t l e = l' := by unfold hear1; rw [if_neg h, hl]
theorem hear1_err {D : DC} {f t q : Int} {l : List Td} {e : En} (h : (⟨e.a, e.n⟩ : Nt) ∉ D.own) (hl : learnE t l f e.a e.n e.m t = .error q) : hear1 D f t l e = l := by unfold hear1; rw [if_neg h, hl]

set_option maxRecDepth 100000 in
theorem dtime_yes {base : Nat} {D : DC} {now : Int} {l : List Td} {bad : Int} (t : Int) (w : World) (hD : Dmn w base D now l bad) (ht : ¬ (t < now ∨ 1099511627776 < t)) : Calls Try.prog 35 #[.pointer (some ⟨D.bd, 0, none⟩), .int .i64 t] w (RetS w (.bool true)) := by
  obtain ⟨c0, -, -, -, -, cl⟩ := hD.cells
  have g0 : decide (now ≤ t) = true := decide_eq_true (by omega)
  have g1 : decide (t ≤ 1099511627776) = true := decide_eq_true (by omega)
  go_enter Try.func35, Try.ntmps35
  go_wp2_with (fail)
  refine (ribNow_any w hD.rib).mono ?_
  rintro e1 w1 ⟨rfl, rfl⟩
  go_wp2
  go_ret
  exact RetS.mk rfl rfl rfl
set_option maxRecDepth 100000 in
theorem dtime_no {base : Nat} {D : DC} {now : Int} {l : List Td} {bad : Int} (t : Int) (w : World) (hD : Dmn w base D now l bad) (ht : t < now ∨ 1099511627776 < t) : Calls Try.prog 35 #[.pointer (some ⟨D.bd, 0, none⟩), .int .i64 t] w (RetS w (.bool false)) := by
  obtain ⟨c0, -, -, -, -, cl⟩ := hD.cells
  have hq : decide (now ≤ t) = false ∨ (decide (now ≤ t) = true ∧ decide (t ≤ 1099511627776) = false) := by
    by_cases h : now ≤ t
    · exact .inr ⟨decide_eq_true h, decide_eq_false (by omega)⟩
    · exact .inl (decide_eq_false h)
  rcases hq with g0 | ⟨g0, g1⟩
  all_goals
    go_enter Try.func35, Try.ntmps35
    go_wp2_with (fail)
    refine (ribNow_any w hD.rib).mono ?_
    rintro e1 w1 ⟨rfl, rfl⟩
    go_wp2
    go_ret
    exact RetS.mk rfl rfl rfl
set_option maxRecDepth 100000 in
theorem dnear_yes {base : Nat} {D : DC} {now : Int} {l : List Td} {bad : Int} (f : Int) (w : World) (hD : Dmn w base D now l bad) (hf : ¬ (f < 0 ∨ (D.costs.length : Int) ≤ f)) : Calls Try.prog 36 #[.pointer (some ⟨D.bd, 0, none⟩), .int .i64 f] w (RetS w (.bool true)) := by
  obtain ⟨-, c1, -, -, -, cl⟩ := hD.cells
  have g0 : decide (0 ≤ f) = true := decide_eq_true (by omega)
  have g1 : decide (f < (D.costs.length : Int)) = true := decide_eq_true (by omega)
  go_enter Try.func36, Try.ntmps36
  go_wp2
  go_ret
  exact RetS.mk rfl rfl rfl
set_option maxRecDepth 100000 in
theorem dnear_no {base : Nat} {D : DC} {now : Int} {l : List Td} {bad : Int} (f : Int) (w : World) (hD : Dmn w base D now l bad) (hf : f < 0 ∨ (D.costs.length : Int) ≤ f) : Calls Try.prog 36 #[.pointer (some ⟨D.bd, 0, none⟩), .int .i64 f] w (RetS w (.bool false)) := by
  obtain ⟨-, c1, -, -, -, cl⟩ := hD.cells
  have hq : decide (0 ≤ f) = false ∨ (decide (0 ≤ f) = true ∧ decide (f < (D.costs.length : Int)) = false) := by
    by_cases h : 0 ≤ f
    · exact .inr ⟨decide_eq_true h, decide_eq_false (by omega)⟩
    · exact .inl (decide_eq_false h)
  rcases hq with g0 | ⟨g0, g1⟩
  all_goals
    go_enter Try.func36, Try.ntmps36
    go_wp2
    go_ret
    exact RetS.mk rfl rfl rfl
set_option maxRecDepth 100000 in
theorem dtick_any {base : Nat} {D : DC} {now : Int} {l : List Td} {bad : Int} (t : Int) (w : World) (hD : Dmn w base D now l bad) (hbase : base ≤ w.heap.size) : Calls Try.prog 22 #[.pointer (some ⟨D.bd, 0, none⟩), .int .i64 t] w (RetH w base D (tickM now l bad t)) := by
  obtain ⟨c0, -, -, -, -, cl⟩ := hD.cells
  go_enter Try.func22, Try.ntmps22
  go_wp2_with (fail)
  refine (age_E w hD.rib hD.ok hbase t).mono ?_
  intro e1 w1 R1
  by_cases ht : t < now ∨ 1099511627776 < t
  · have hE : ageE now l t = .error 1 := if_pos (by unfold ckErr; omega)
    have HX := Lib.hid (show tickM now l bad t = ⟨some 1, now, l, bad⟩ from if_pos ht)
    rw [hE] at R1
    obtain ⟨rfl, hF⟩ := R1
    have HD := Lib.hid (hD.fr0 hF)
    clear hE ht
    go_wp2
    go_ret
    exact RetH.mk HX.out rfl HD.out (hF.none _)
  · have hE : ageE now l t = .ok (rAged t l) := if_neg (by unfold ckErr; omega)
    have HX := Lib.hid (show tickM now l bad t = ⟨none, t, rAged t l, bad⟩ from if_neg ht)
    rw [hE] at R1
    obtain ⟨rfl, hR, hF⟩ := R1
    have HD := Lib.hid (hD.aged ht hF hR)
    clear hE ht hR
    go_wp2
    go_ret
    exact RetH.mk HX.out rfl HD.out (hF.mono (fun _ _ h => .inr h))
set_option maxRecDepth 100000 in
theorem ddown_any {base : Nat} {D : DC} {now : Int} {l : List Td} {bad : Int} (f t : Int) (w : World) (hD : Dmn w base D now l bad) (hbase : base ≤ w.heap.size) : Calls Try.prog 23 #[.pointer (some ⟨D.bd, 0, none⟩), .int .i64 f, .int .i64 t] w (RetH w base D (downM D now l bad f t)) := by
  obtain ⟨c0, -, -, -, -, cl⟩ := hD.cells
  have hc8 := hD.c8
  go_enter Try.func23, Try.ntmps23
  by_cases hf : f < 0 ∨ (D.costs.length : Int) ≤ f
  · have HX := Lib.hid (show downM D now l bad f t = ⟨some 1, now, l, bad⟩ from if_pos (.inr (.inr hf)))
    go_wp2_with (fail)
    refine (dnear_no f w hD hf).mono ?_
    rintro e1 w1 ⟨rfl, rfl⟩
    go_wp2
    go_ret
    exact RetH.mk HX.out rfl hD (Fr.refl _ _)
  · go_wp2_with (fail)
    refine (dnear_yes f w hD hf).mono ?_
    rintro e1 w1 ⟨rfl, rfl⟩
    go_wp2_with (fail)
    refine (lose_E w hD.rib hD.ok hbase f t).mono ?_
    intro e2 w2 R2
    by_cases ht : t < now ∨ 1099511627776 < t
    · have hE : loseE now l f t = .error 1 := if_pos (by unfold ckErr; omega)
      have HX := Lib.hid (show downM D now l bad f t = ⟨some 1, now, l, bad⟩ from if_pos (by unfold timeErr; omega))
      rw [hE] at R2
      obtain ⟨rfl, hF⟩ := R2
      have HD := Lib.hid (hD.fr0 hF)
      clear hE ht hf
      go_wp2
      go_ret
      exact RetH.mk HX.out rfl HD.out (hF.none _)
    · have hE : loseE now l f t = .ok (rLost f t l) := if_neg (by unfold ckErr; omega)
      have HX := Lib.hid (show downM D now l bad f t = ⟨none, t, rLost f t l, bad⟩ from if_neg (by unfold timeErr; omega))
      rw [hE] at R2
      obtain ⟨rfl, hR, hF⟩ := R2
      have HD := Lib.hid (hD.lost ht hF hR)
      clear hE ht hf hR
      go_wp2
      go_ret
      exact RetH.mk HX.out rfl HD.out (hF.mono (fun _ _ h => .inr h))
/-- A message that is none. -/
theorem hearM_time {D : DC} {now : Int} {l : List Td} {bad : Int} {b : List Int} {f t : Int} (h : timeErr D now f t) : hearM D now l bad b f t = ⟨some 1, now, l, bad⟩ := if_pos h
theorem hearM_bad {D : DC} {now : Int} {l : List Td} {bad : Int} {b : List Int} {f t k : Int} (h : ¬ timeErr D now f t) (hd : decD b = .error k) : hearM D now l bad b f t = ⟨some k, now, l, bad + 1⟩ := by unfold hearM; rw [if_neg h, hd]
theorem hearM_ask {D : DC} {now : Int} {l : List Td} {bad : Int} {b : List Int} {f t : Int} {es : List En} (h : ¬ timeErr D now f t) (hd : decD b = .ok (true, es)) : hearM D now l bad b f t = ⟨some 3, now, l, bad + 1⟩ := by unfold hearM; rw [if_neg h, hd]
theorem hearM_ok {D : DC} {now : Int} {l : List Td} {bad : Int} {b : List Int} {f t : Int} {es : List En} (h : ¬ timeErr D now f t) (hd : decD b = .ok (false, es)) : hearM D now l bad b f t = ⟨none, t, hearL D f t (rAged t l) es, bad⟩ := by unfold hearM; rw [if_neg h, hd]
theorem Dmn.bad' {w w' : World} {base : Nat} {D : DC} {now : Int} {l : List Td} {bad : Int} (h : Dmn w base D now l bad) (f : Fr (fun _ => False) w w') (o : Obj) : Dmn ((w'.setCell ⟨D.bd, 3, none⟩ (.int .i64 (bad + 1))).alloc o) base D now l (bad + 1) ∧ Fr (fun k => k = D.bd ∨ k = D.br) w ((w'.setCell ⟨D.bd, 3, none⟩ (.int .i64 (bad + 1))).alloc o) :=
  ⟨((h.fr0 f).worse).fr0 ((Fr.refl _ _).alloc _), ((f.none _).setCell (p := ⟨D.bd, 3, none⟩) (fun _ => .inl rfl) _).alloc _⟩

set_option maxRecDepth 100000 in
set_option maxHeartbeats 8000000 in
theorem dhear_any {N base : Nat} {D : DC} {now : Int} {l : List Td} {bad : Int} (b : List Int) (a : Option Addr) (c : Nat) (f t : Int) (w : World) (hD : Dmn w base D now l bad) (hbase : base ≤ w.heap.size) (hbad : 0 ≤ bad ∧ bad ≤ 9223372036854775000) (hL : Rd w.heap a N 1 (ivals .u8 b)) (hb : ∀ x ∈ b, 0 ≤ x ∧ x < 256) (hc : b.length ≤ c) (hll : b.length ≤ 9223372036854775000) (hN : N = b.length) :
    Calls Try.prog 11 #[.pointer (some ⟨D.bd, 0, none⟩), .slice a N c, .int .i64 f, .int .i64 t] w (RetH w base D (hearM D now l bad b f t)) := by
  obtain ⟨M, hM⟩ : ∃ M, M = hearM D now l bad b f t := ⟨_, rfl⟩
  rw [← hM]
  have HMM := Lib.hid hM
  have HD := Lib.hid hD
  have HB := Lib.hid hb
  have hc8 := hD.c8
  have hnt := hD.time
  subst hN
  clear hM
  go_enter Try.func11, Try.ntmps11
  by_cases ht : t < now ∨ 1099511627776 < t
  · have HX := Lib.hid (HMM.out.trans (hearM_time (by unfold timeErr; omega)))
    go_wp2_with (fail)
    refine (dtime_no t w hD ht).mono ?_
    rintro e1 w1 ⟨rfl, rfl⟩
    go_wp2
    go_ret
    exact RetH.mk HX.out rfl hD (Fr.refl _ _)
  · go_wp2_with (fail)
    refine (dtime_yes t w hD ht).mono ?_
    rintro e1 w1 ⟨rfl, rfl⟩
    by_cases hf : f < 0 ∨ (D.costs.length : Int) ≤ f
    · have HX := Lib.hid (HMM.out.trans (hearM_time (.inr (.inr hf))))
      go_wp2_with (fail)
      refine (dnear_no f w hD hf).mono ?_
      rintro e2 w2 ⟨rfl, rfl⟩
      go_wp2
      go_ret
      exact RetH.mk HX.out rfl hD (Fr.refl _ _)
    · have HT := Lib.hid (show ¬ timeErr D now f t by unfold timeErr; omega)
      go_wp2_with (fail)
      refine (dnear_yes f w hD hf).mono ?_
      rintro e2 w2 ⟨rfl, rfl⟩
      go_wp2_with (fail)
      refine (decode_any b a c w hL hb hc (by omega) rfl).mono ?_
      intro e3 w3 R3
      obtain ⟨r, hr⟩ : ∃ r, r = decD b := ⟨_, rfl⟩
      rw [← hr] at R3
      have HR := Lib.hid hr.symm
      clear hr hL hb
      cases r with
      | error k =>
        obtain ⟨rfl, hF3⟩ := R3
        have HX := Lib.hid (HMM.out.trans (hearM_bad HT.out HR.out))
        obtain ⟨q1, q2⟩ := HD.out.bad' hF3 (.cells #[.bool false, .slice none 0 0] 39)
        have HQ1 := Lib.hid q1
        have HQ2 := Lib.hid q2
        obtain ⟨c0, -, -, c3, cf, cl⟩ := (HD.out.fr0 hF3).cells
        clear q1 q2 hD
        go_wp2
        go_ret
        exact RetH.mk HX.out rfl HQ1.out HQ2.out
      | ok p =>
        obtain ⟨ask, es⟩ := p
        obtain ⟨aE, cE, obE, rfl, hOE, hF3, hNE, -, h25⟩ := R3
        cases ask with
        | true =>
          have HX := Lib.hid (HMM.out.trans (hearM_ask HT.out HR.out))
          obtain ⟨q1, q2⟩ := HD.out.bad' hF3 (.cells #[.bool true, .slice aE es.length cE] 39)
          have HQ1 := Lib.hid q1
          have HQ2 := Lib.hid q2
          obtain ⟨c0, -, -, c3, cf, cl⟩ := (HD.out.fr0 hF3).cells
          clear q1 q2 hD hOE hNE
          go_wp2
          go_ret
          exact RetH.mk HX.out rfl HQ1.out HQ2.out
        | false =>
          have HX := Lib.hid (HMM.out.trans (hearM_ok HT.out HR.out))
          have HES := Lib.hid (decD_ok HB.out HR.out)
          have hFm := hF3.alloc (.cells #[.bool false, .slice aE es.length cE] 39)
          have hDm := HD.out.fr0 hFm
          have hOm := hOE.alloc (.cells #[.bool false, .slice aE es.length cE] 39)
          have hBm := Blk.made w3 39 [.bool false, .slice aE es.length cE]
          have hs3 := hF3.size
          obtain ⟨c0, -, -, -, -, cl⟩ := hDm.cells
          have hbr := HD.out.lt.2
          have hEt : ageE now l t = .ok (rAged t l) := if_neg (by unfold ckErr; omega)
          have hage := age_E (w3.alloc (.cells #[.bool false, .slice aE es.length cE] 39)) hDm.rib hDm.ok (by simp; omega) t
          rw [hEt] at hage
          clear hOE hD
          go_wp2_with (fail)
          refine hage.mono ?_
          rintro e4 w4 ⟨rfl, hR4, hF4⟩
          have hD4 := hDm.aged ht hF4 hR4
          have hOB := hOm.fr hF4 (fun g hg e => by have := hNE g hg; omega)
          have hB4 := hBm.fr hF4 (fun e => by omega)
          have hF04 : Fr (fun k => k = D.bd ∨ k = D.br) w w4 := (hFm.none _).trans' hF4 (fun _ _ h => .inr h)
          have m1 := hB4.cell 1
          have ml := hB4.lt
          simp only [List.getElem?_cons_succ, List.getElem?_cons_zero] at m1
          have HOB := Lib.hid hOB
          have HNE := Lib.hid hNE
          clear hage hEt hR4 hF4 hDm hOm hBm hFm c0 cl hF3 hOB hNE hB4
          go_wp2
          go_loopw [60] (fun s60 wr => ∃ (k : Nat) (l' : List Td), k ≤ es.length ∧ s60 = .int .i64 k ∧ Dmn wr base D t l' bad ∧ Hid (l' = hearL D f t (rAged t l) (es.take k)) ∧ Fr (fun k => k = D.bd ∨ k = D.br) w wr ∧ Fr (fun k => k = D.br) w4 wr) (fun s _ => es.length - (intOf s).toNat)
          case atStart => exact ⟨0, _, by omega, rfl, hD4, Lib.hid rfl, hF04, Fr.refl _ _⟩
          case round =>
            clear hD4 hF04 m1 ml
            obtain ⟨k, l', hk, rfl, hDr, hl', hF, hF4⟩ := hrel
            have hsr := hF.size
            by_cases hke : k < es.length
            · obtain ⟨g, hga, hgo, hgl, hgc, -⟩ := (HOB.out.fr hF4 (fun g hg e => by have := HNE.out g hg; omega)).pos (by omega)
              have dd := fun (j : Nat) (hj : j < 5) => (hgc (k * 5 + j) (by omega)).trans (flat_get En.cells 5 En.cells_len es k j hke hj)
              have d0 := dd 0 (by omega)
              have d1 := dd 1 (by omega)
              have d2 := dd 2 (by omega)
              have d3 := dd 3 (by omega)
              have d4 := dd 4 (by omega)
              have hstep := hearL_step D f t (rAged t l) es hke
              rw [← hl'.out] at hstep
              obtain ⟨hxe, hxw⟩ := HES.out _ (nth_mem es k hke)
              generalize nth es k = x at *
              obtain ⟨hx1, -, -, hx4⟩ := entErr_ok hxe
              have hxw2 := hxw.1
              obtain ⟨xa, xn, xt, xp, xm⟩ := x
              simp only at hx1 hx4 hxw2
              simp only [En.cells, List.getElem?_cons_zero, List.getElem?_cons_succ, Nat.add_zero] at d0 d1 d2 d3 d4
              have HGA := Lib.hid hga
              subst hga
              have HST := Lib.hid hstep
              have HX1 := Lib.hid hx1
              have hBx := Blk.made wr 45 [.int .u32 xa, .int .i64 xn, .int .i64 xt, .int .u32 xp, .int .i64 xm]
              have hFx := (Fr.refl (fun _ => False) wr).alloc (.cells #[.int .u32 xa, .int .i64 xn, .int .i64 xt, .int .u32 xp, .int .i64 xm] 45)
              have hDx := hDr.fr0 hFx
              obtain ⟨c0, -, c2, -, -, cl⟩ := hDx.cells
              have b0 := hBx.cell 0
              have b1 := hBx.cell 1
              have bl := hBx.lt
              simp only [List.getElem?_cons_succ, List.getElem?_cons_zero] at b0 b1
              clear dd hgc hstep hxe hxw hx1
              go_wp2
              (refine wp_region_mix (fun _ => True) 6 (by kernel_rfl) (by kernel_rfl) (trivial) ?_; simp only [List.take_succ_cons, List.take_zero, List.drop_succ_cons, List.drop_zero])
              (refine wpMix_earlyN 6 (by kernel_rfl) (by kernel_rfl) ?_; simp only [List.take_succ_cons, List.take_zero, List.drop_succ_cons, List.drop_zero]; (repeat (go_big_quiet_step (fail))); refine wpQuiet_nil ?_)
              refine wpMix_nil ?_
              go_wp2_with (fail)
              refine (netIn_any D.own ⟨xa, xn⟩ D.ao D.co _ (hDx.owns.fr (S := fun _ => False) ((Fr.refl _ _).drew) (fun _ _ _ h => h)) (by have := HD.out.o25; omega) rfl).mono ?_
              rintro e5 w5 ⟨rfl, hF5⟩
              have hFx5 := hFx.drew.trans hF5
              have hFx5' := ((Fr.refl (fun _ => False) (wr.alloc (.cells #[.int .u32 xa, .int .i64 xn, .int .i64 xt, .int .u32 xp, .int .i64 xm] 45))).drew.trans hF5)
              have hD5 := hDr.fr0 hFx5
              have hB5 := hBx.fr hFx5' (fun h => h)
              have hF05 := hF.trans (hFx5.none _)
              have hF45 := hF4.trans (hFx5.none _)
              clear hDx hDr hBx hFx hF hF4 c0 c2 cl b0 b1 bl hFx5 hFx5' hF5
              by_cases hm : (⟨xa, xn⟩ : Nt) ∈ D.own
              · rw [decide_eq_true hm]
                have HL2 := Lib.hid (show l' = hearL D f t (rAged t l) (es.take (k + 1)) by rw [HST.out, hear1_own hm])
                clear hm
                go_wp2
                go_roundw
                case rel => exact ⟨k + 1, l', by omega, by go_num, hD5, HL2, hF05, hF45⟩
                case measure => simp [intOf]; omega
              · rw [decide_eq_false hm]
                have HM := Lib.hid hm
                obtain ⟨c0, -, -, -, -, cl⟩ := hD5.cells
                have b0 := hB5.cell 0
                have b1 := hB5.cell 1
                have b4 := hB5.cell 4
                have bl := hB5.lt
                simp only [List.getElem?_cons_succ, List.getElem?_cons_zero] at b0 b1 b4
                have hs5 := hF05.size
                have hck : ¬ ckErr t f t := by unfold ckErr; omega
                clear hm
                go_wp2
                (refine wp_region_mix (fun _ => True) 10 (by kernel_rfl) (by kernel_rfl) (trivial) ?_; simp only [List.take_succ_cons, List.take_zero, List.drop_succ_cons, List.drop_zero])
                (refine wpMix_earlyN 10 (by kernel_rfl) (by kernel_rfl) ?_; simp only [List.take_succ_cons, List.take_zero, List.drop_succ_cons, List.drop_zero]; (repeat (go_big_quiet_step (fail))); refine wpQuiet_nil ?_)
                refine wpMix_nil ?_
                have hDd := hD5.fr0 (Fr.refl (fun _ => False) w5).drew
                have hlearn := learn_any w5.drew hDd.rib hDd.ok (by show base ≤ w5.heap.size; omega) f xa xn xm t hxw2
                go_wp2_with (fail)
                refine hlearn.mono ?_
                intro e6 w6 R6
                cases hle : learnE t l' f xa xn xm t with
                | error q =>
                  rw [hle] at R6
                  obtain ⟨rfl, hF6⟩ := R6
                  obtain rfl := learn_four hle hck HX1.out hx4
                  have HL2 := Lib.hid (show l' = hearL D f t (rAged t l) (es.take (k + 1)) by rw [HST.out, hear1_err HM.out hle])
                  have hFq := (Fr.refl (fun _ => False) w5).drew.trans hF6
                  have hD6 := hD5.fr0 hFq
                  have hF06 := hF05.trans (hFq.none _)
                  have hF46 := hF45.trans (hFq.none _)
                  clear hle hlearn hDd hD5 hB5 hF05 hF45 hF6 c0 cl b0 b1 b4 bl
                  have e44 : ∀ w : World, (binOp .neq 27 (.iface 72 (.int .i64 4)) (.iface 72 (.int .i64 4))).run Try.prog w = .ok (.bool false) w := fun w => by kernel_rfl
                  go_wp2
                  go_roundw
                  case rel => exact ⟨k + 1, l', by omega, by go_num, hD6, HL2, hF06, hF46⟩
                  case measure => simp [intOf]; omega
                | ok l2 =>
                  rw [hle] at R6
                  obtain ⟨rfl, hR6, hF6⟩ := R6
                  have HL2 := Lib.hid (show l2 = hearL D f t (rAged t l) (es.take (k + 1)) by rw [HST.out, hear1_ok HM.out hle])
                  have hD6 := hDd.learnt hle (by omega) hxw2 HM.out hF6 hR6
                  have hF06 := (hF05.drew).trans' hF6 (fun _ _ h => .inr h)
                  have hF46 := (hF45.drew).trans hF6
                  clear hle hlearn hDd hD5 hB5 hF05 hF45 hF6 hR6 c0 cl b0 b1 b4 bl
                  go_wp2
                  go_roundw
                  case rel => exact ⟨k + 1, l2, by omega, by go_num, hD6, HL2, hF06, hF46⟩
                  case measure => simp [intOf]; omega
            · have hke2 : k = es.length := by omega
              have HX2 := Lib.hid (show M = ⟨none, t, l', bad⟩ by rw [HX.out, hl'.out, hke2, List.take_length])
              clear hke2 hl'
              go_wp2
              go_ret
              exact RetH.mk HX2.out rfl hDr hF
end Go.Proofs.Ytfglidaicjjpfaa
end
