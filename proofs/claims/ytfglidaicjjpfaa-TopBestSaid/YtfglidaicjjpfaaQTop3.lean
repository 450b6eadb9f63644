import Derived.Test.YtfglidaicjjpfaaQTop2
section
namespace Go.Proofs.Ytfglidaicjjpfaa
open Go.RowKit
theorem filledD_bd {p : List Int} (h : ∀ x ∈ p, 0 ≤ x ∧ x < 256) : ∀ x ∈ filledD p, 0 ≤ x ∧ x < 256 := by
  intro x hx
  unfold filledD at hx
  rcases List.mem_append.1 hx with hx | hx
  · exact h x hx
  · have hx := List.mem_of_mem_drop hx
    have hd : ∀ y ∈ baseF p, 0 ≤ y ∧ y < 256 := by
      unfold baseF
      split <;> decide
    exact hd x hx
/-- The message of bytes, or what is wrong. -/
def RetDec (w : World) (r : Except Int (Bool × List En)) (e : Ending) (w' : World) : Prop := match r with
  | .error k => RetV w (.tuple #[.agg #[.bool false, .slice none 0 0], errv k]) e w'
  | .ok (ask, l) => ∃ a c ob, e = .returned (.tuple #[.agg #[.bool ask, .slice a l.length c], .nilIface]) ∧ Own w'.heap 45 5 a l.length c (l.flatMap En.cells) ob ∧ Fr (fun _ => False) w w' ∧ (∀ g, ob = some g → w.heap.size ≤ g) ∧ (∀ x ∈ l, En.wf x) ∧ l.length ≤ 25
theorem RetDec.err {w w' : World} {r : Except Int (Bool × List En)} {e : Ending} {k : Int} (hr : r = .error k) (he : e = .returned (.tuple #[.agg #[.bool false, .slice none 0 0], errv k])) (hF : Fr (fun _ => False) w w') : RetDec w r e w' := by subst hr; exact ⟨he, hF⟩
theorem RetDec.ok {w w' : World} {r : Except Int (Bool × List En)} {e : Ending} {ask : Bool} {l : List En} {a : Option Addr} {c : Nat} {ob : Option Nat} (hr : r = .ok (ask, l)) (he : e = .returned (.tuple #[.agg #[.bool ask, .slice a l.length c], .nilIface])) (hO : Own w'.heap 45 5 a l.length c (l.flatMap En.cells) ob) (hF : Fr (fun _ => False) w w') (hN : ∀ g, ob = some g → w.heap.size ≤ g) (hw : ∀ x ∈ l, En.wf x) (hl : l.length ≤ 25) : RetDec w r e w' := by
  subst hr; exact ⟨a, c, ob, he, hO, hF, hN, hw, hl⟩
theorem headD_len (b : List Int) : 4 ≤ (headD b).length ∧ (b.length < 4 → (headD b).length = 4) ∧ (4 ≤ b.length → headD b = b) := by
  unfold headD
  by_cases h : b.length < 4
  · rw [if_pos h]
    have : (b ++ [2, 2, 0, 0].drop b.length : List Int).length = 4 := by simp; omega
    exact ⟨by omega, fun _ => this, fun h2 => by omega⟩
  · rw [if_neg h]; exact ⟨by omega, fun h2 => absurd h2 h, fun _ => rfl⟩
theorem headD_bd {b : List Int} (h : ∀ x ∈ b, 0 ≤ x ∧ x < 256) : ∀ x ∈ headD b, 0 ≤ x ∧ x < 256 := by
  unfold headD
  split
  · intro x hx
    rcases List.mem_append.1 hx with hx | hx
    · exact h x hx
    · have hd : ∀ y ∈ ([2, 2, 0, 0] : List Int), 0 ≤ y ∧ y < 256 := by decide
      exact hd x (List.mem_of_mem_drop hx)
  · exact h
/-- What comes of the entries. -/
def outD (b : List Int) (ask : Bool) (P0 : Option (List En)) : Except Int (Bool × List En) := match P0 with
  | none => .error 3
  | some l => if shortD b then .error 6 else .ok (ask, l)
def sliceLen : Value → Nat
  | .slice _ n _ => n
  | _ => 0
/-- What a message's bytes hold still. -/
structure Rest (b rs : List Int) (sh : Bool) (acc : List En) (P0 : Option (List En)) : Prop where
  parts : ∃ k, rs.length ≤ k ∧ P0 = partsD k rs acc
  some' : rs ≠ [] → (b.length - 4) % 20 = rs.length % 20 ∧ 4 ≤ b.length
  none' : rs = [] → (sh = true ↔ shortD b)
  bd : ∀ x ∈ rs, 0 ≤ x ∧ x < 256
theorem Rest.done {b : List Int} {sh : Bool} {acc : List En} {P0 : Option (List En)} (h : Rest b [] sh acc P0) : P0 = some acc ∧ (sh = true ↔ shortD b) := by
  obtain ⟨k, -, hp⟩ := h.parts
  refine ⟨?_, h.none' rfl⟩
  rw [hp]
  cases k with
  | zero => rfl
  | succ k => unfold partsD; rw [if_pos rfl]
theorem Rest.unfold {b rs : List Int} {sh : Bool} {acc : List En} {P0 : Option (List En)} (h : Rest b rs sh acc P0) (hne : rs ≠ []) : ∃ k, (rs.drop 20).length ≤ k ∧ P0 = match entD (filledD (rs.take 20)) with
    | none => none
    | some e => if acc.length = 25 then none else partsD k (rs.drop 20) (acc ++ [e]) := by
  obtain ⟨k, hk, hp⟩ := h.parts
  have hl : 0 < rs.length := List.length_pos_iff.2 hne
  obtain ⟨j, rfl⟩ : ∃ j, k = j + 1 := ⟨k - 1, by omega⟩
  refine ⟨j, by simp; omega, ?_⟩
  rw [hp]
  conv => lhs; unfold partsD
  rw [if_neg hne]
  cases entD (filledD (rs.take 20)) <;> rfl
theorem Rest.next {b rs : List Int} {sh : Bool} {acc : List En} {P0 : Option (List En)} (h : Rest b rs sh acc P0) (hne : rs ≠ []) {x : En} (hx : entD (filledD (rs.take 20)) = some x) (ha : acc.length ≠ 25) : Rest b (rs.drop 20) (decide ((rs.take 20).length < 20)) (acc ++ [x]) P0 := by
  obtain ⟨k, hk, hp⟩ := h.unfold hne
  obtain ⟨h1, h2⟩ := h.some' hne
  have hl : 0 < rs.length := List.length_pos_iff.2 hne
  refine ⟨⟨k, hk, by rw [hp, hx]; simp only; rw [if_neg ha]⟩, fun hd => ?_, fun hd => ?_, fun y hy => h.bd y (List.mem_of_mem_drop hy)⟩
  · have : 0 < (rs.drop 20).length := List.length_pos_iff.2 hd
    rw [List.length_drop] at this ⊢
    exact ⟨by omega, h2⟩
  · have h3 := congrArg List.length hd
    rw [List.length_drop] at h3
    simp only [List.length_nil] at h3
    rw [decide_eq_true_eq, List.length_take]
    unfold shortD
    omega
end Go.Proofs.Ytfglidaicjjpfaa
end

section
namespace Go.Proofs.Ytfglidaicjjpfaa
open Go.RowKit
set_option maxRecDepth 100000 in
set_option maxHeartbeats 4000000 in
theorem decode_any {N : Nat} (b : List Int) (a : Option Addr) (c : Nat) (w : World) (hL : Rd w.heap a N 1 (ivals .u8 b)) (hb : ∀ x ∈ b, 0 ≤ x ∧ x < 256) (hc : b.length ≤ c) (hll : b.length ≤ 9223372036854775000) (hN : N = b.length) :
    Calls Try.prog 37 #[.slice a N c] w (RetDec w (decD b)) := by
  subst hN
  obtain ⟨R, hR⟩ : ∃ R, R = decD b := ⟨_, rfl⟩
  rw [← hR]
  have HR := Lib.hid hR
  have HL := Lib.hid hL
  have HB := Lib.hid hb
  have hF0 := (Fr.refl (fun _ => False) w).alloc (.cells #[.bool false, .slice none 0 0] 39)
  have hB0 := Blk.made w 39 [.bool false, .slice none 0 0]
  have hF1 := hF0.alloc (.cells #[.int .u8 2, .int .u8 2, .int .u8 0, .int .u8 0] 5)
  have hB1 := hB0.alloc (.cells #[.int .u8 2, .int .u8 2, .int .u8 0, .int .u8 0] 5)
  have hW1 : Blk ((w.alloc (.cells #[.bool false, .slice none 0 0] 39)).alloc (.cells #[.int .u8 2, .int .u8 2, .int .u8 0, .int .u8 0] 5)).heap (w.heap.size + 1) 5 (ivals .u8 [2, 2, 0, 0]) := by
    have := Blk.made (w.alloc (.cells #[.bool false, .slice none 0 0] 39)) 5 (ivals .u8 [2, 2, 0, 0])
    rwa [show (w.alloc (.cells #[.bool false, .slice none 0 0] 39)).heap.size = w.heap.size + 1 by simp] at this
  have hcs : (b.take 4).length = min b.length 4 := by rw [List.length_take, Nat.min_comm]
  have hrd := hL.fr hF1 (fun _ _ _ h => h)
  have hside : CpySide ((w.alloc (.cells #[.bool false, .slice none 0 0] 39)).alloc (.cells #[.int .u8 2, .int .u8 2, .int .u8 0, .int .u8 0] 5)) (some ⟨w.heap.size + 1, 0, none⟩) a b.length 4 1 (w.heap.size + 1) 0 (ivals .u8 [2, 2, 0, 0]) (ivals .u8 (b.take 4)) := by
    refine ⟨by simp [ivals]; omega, fun hp => ?_, by simp [ivals]; omega, ivals_one .u8 _⟩
    obtain ⟨g, off, rfl, hgl, hcc⟩ := hrd.pos (by simp [ivals] at hp; omega)
    refine ⟨rfl, ⟨g, off, none⟩, rfl, fun j v hj => ?_⟩
    have hjl : j < (b.take 4).length := by have := (List.getElem?_eq_some_iff.1 hj).1; simpa [ivals] using this
    rw [List.length_take] at hjl
    rw [Addr.add_lit, hcc _ rfl j (by omega)]
    rw [← hj]
    simp only [ivals, List.getElem?_map]
    rw [List.getElem?_take, if_pos (by omega)]
  have HSD := Lib.hid hside
  have hspl : splice (ivals .u8 [2, 2, 0, 0]) 0 (ivals .u8 (b.take 4)) = ivals .u8 (b.take 4 ++ ([2, 2, 0, 0] : List Int).drop (b.take 4).length) := by rw [splice_head]; simp [ivals]
  have HSP := Lib.hid hspl
  have HF1 := Lib.hid hF1
  have HB1 := Lib.hid hB1
  clear hL hb hR hF0 hB0 hrd hside hspl hcs hF1 hB1
  go_enter Try.func37, Try.ntmps37
  go_wp2_with (with_reducible refine wpList_cpy rfl (.tmp 15) (.tmp 16) 34 34 rfl Try.underlying34 infoU8 rfl rfl (g := w.heap.size + 1) (off := 0) hW1 (cs := ivals .u8 (b.take 4)) ?b1 ?b2)
  case b1 => exact HSD.out
  case b2 =>
  intro w2 hW2 hF2 hs2
  have hW2 : Blk w2.heap (w.heap.size + 1) 5 (ivals .u8 (b.take 4 ++ ([2, 2, 0, 0] : List Int).drop (b.take 4).length)) := hW2.eq ((congrArg (splice (ivals .u8 [2, 2, 0, 0]) 0) (show List.take 4 (List.map (Value.int .u8) b) = ivals .u8 (b.take 4) by simp [ivals])).trans HSP.out)
  have hB2 := HB1.out.fr hF2 (fun e => by have h2 : w.heap.size = w.heap.size + 1 := e; omega)
  have hF02 : Fr (fun _ => False) w w2 := HF1.out.trans' hF2 (fun i hi e => by have h2 : i = w.heap.size + 1 := e; omega)
  clear hF2 hs2 hW1
  go_upto_if 18 with (fail)
  go_cut [0] (fun s0 wx => ∃ (g1 o1 c1 : Nat), s0 = .slice (some ⟨g1, o1, none⟩) (headD b).length c1 ∧ Rd wx.heap (some ⟨g1, o1, none⟩) (headD b).length 1 (ivals .u8 (headD b)) ∧ (headD b).length ≤ c1 ∧ Fr (fun _ => False) w wx ∧ Blk wx.heap w.heap.size 39 [.bool false, .slice none 0 0])
  case first =>
    by_cases h4 : b.length < 4
    · have hh : b.take 4 ++ ([2, 2, 0, 0] : List Int).drop (b.take 4).length = headD b := by
        unfold headD; rw [if_pos h4, List.take_of_length_le (by omega)]
      rw [hh] at hW2
      have h4l := (headD_len b).2.1 h4
      have hrd := hW2.rd (sz := 1) (n := 4) (off := 0) (by simp [ivals]; omega)
      rw [List.drop_zero, List.take_of_length_le (by simp [ivals]; omega)] at hrd
      have HRD := Lib.hid hrd
      clear hh hW2 hrd
      go_wp2
      go_meet
      case rel => exact ⟨w.heap.size + 1, 0, 4, by rw [h4l], by rw [h4l]; exact HRD.out, by omega, hF02, hB2⟩
    · have hh := (headD_len b).2.2 (by omega)
      have hrd := HL.out.fr hF02 (fun _ _ _ h => h)
      obtain ⟨g, off, rfl, -⟩ := hrd.pos (by omega)
      have HRD := Lib.hid hrd
      clear hW2 hrd
      go_wp2
      go_meet
      case rel => exact ⟨g, off, c, by rw [hh], by rw [hh]; exact HRD.out, by rw [hh]; exact hc, hF02, hB2⟩
  case rest =>
  obtain ⟨g1, o1, c1, rfl, hRd, hc1, hF3, hB3⟩ := hcut
  clear hW2 hB2 hF02
  obtain ⟨w3, hnm⟩ : ∃ z, z = wc := ⟨wc, rfl⟩
  subst hnm
  obtain ⟨hb, hhb⟩ : ∃ hb, hb = headD b := ⟨_, rfl⟩
  rw [← hhb] at hRd hc1 ⊢
  have hl4 : 4 ≤ hb.length := by rw [hhb]; exact (headD_len b).1
  have hlu : hb.length ≤ 9223372036854775000 := by
    rw [hhb]
    by_cases h4 : b.length < 4
    · have := (headD_len b).2.1 h4; omega
    · rw [(headD_len b).2.2 (by omega)]; exact hll
  have HHB := Lib.hid hhb
  obtain ⟨_, _, he, hgl, hcc⟩ := Ints.pos hRd (by omega)
  cases he
  have x0 := hcc w3 rfl 0 (by omega)
  have x1 := hcc w3 rfl 1 (by omega)
  have x2 := hcc w3 rfl 2 (by omega)
  have x3 := hcc w3 rfl 3 (by omega)
  obtain ⟨X0, hX0⟩ : ∃ X, X = nth hb 0 := ⟨_, rfl⟩
  obtain ⟨X1, hX1⟩ : ∃ X, X = nth hb 1 := ⟨_, rfl⟩
  obtain ⟨X2, hX2⟩ : ∃ X, X = nth hb 2 := ⟨_, rfl⟩
  obtain ⟨X3, hX3⟩ : ∃ X, X = nth hb 3 := ⟨_, rfl⟩
  rw [← hX0] at x0
  rw [← hX1] at x1
  rw [← hX2] at x2
  rw [← hX3] at x3
  simp only [Nat.add_zero] at x0 x1 x2 x3
  obtain ⟨V, hV⟩ : ∃ V : Bool, V = decide ((X0 ≠ 1 ∧ X0 ≠ 2) ∨ X1 ≠ 2 ∨ X2 ≠ 0 ∨ X3 ≠ 0) := ⟨_, rfl⟩
  have HV := Lib.hid hV
  have HVB := Lib.hid (show V = decide (headBad hb) by rw [hV, hX0, hX1, hX2, hX3]; rfl)
  have HX0 := Lib.hid hX0
  clear hhb hV hX0 hX1 hX2 hX3 hcc
  go_upto_region 6 with (fail)
  go_cut [47] (fun s47 wx => s47 = .bool V ∧ Fr (fun _ => False) w3 wx)
  case first =>
    have cs : (X0 ≠ 1 ∧ X0 ≠ 2) ∨ ((X0 = 1 ∨ (X0 ≠ 1 ∧ X0 = 2)) ∧ (X1 ≠ 2 ∨ (X1 = 2 ∧ (X2 ≠ 0 ∨ (X2 = 0 ∧ (X3 ≠ 0 ∨ X3 = 0)))))) := by omega
    have vt : ∀ (h : (X0 ≠ 1 ∧ X0 ≠ 2) ∨ X1 ≠ 2 ∨ X2 ≠ 0 ∨ X3 ≠ 0), V = true := fun h => by rw [HV.out]; exact decide_eq_true h
    have vf : ∀ (h : ¬ ((X0 ≠ 1 ∧ X0 ≠ 2) ∨ X1 ≠ 2 ∨ X2 ≠ 0 ∨ X3 ≠ 0)), V = false := fun h => by rw [HV.out]; exact decide_eq_false h
    have VT := Lib.hid vt
    have VF := Lib.hid vf
    clear vt vf
    rcases cs with ⟨k1, k2⟩ | ⟨k1 | ⟨k1, k2⟩, k3 | ⟨k3, k4 | ⟨k4, k5 | k5⟩⟩⟩
    · have q0 : (X0 != 1) = true := by simp; omega
      have q1 : (X0 != 2) = true := by simp; omega
      obtain rfl : V = true := VT.out (by omega)
      clear VT VF
      go_wp2
      go_meet
      case rel => exact ⟨rfl, Fr.refl _ _⟩
    · have q0 : (X0 != 1) = false := by simp; omega
      have q1 : (X1 != 2) = true := by simp; omega
      obtain rfl : V = true := VT.out (by omega)
      clear VT VF
      go_wp2
      go_meet
      case rel => exact ⟨rfl, Fr.refl _ _⟩
    · have q0 : (X0 != 1) = false := by simp; omega
      have q1 : (X1 != 2) = false := by simp; omega
      have q2 : (X2 != 0) = true := by simp; omega
      obtain rfl : V = true := VT.out (by omega)
      clear VT VF
      go_wp2
      go_meet
      case rel => exact ⟨rfl, Fr.refl _ _⟩
    · have q0 : (X0 != 1) = false := by simp; omega
      have q1 : (X1 != 2) = false := by simp; omega
      have q2 : (X2 != 0) = false := by simp; omega
      have q3 : (X3 != 0) = true := by simp; omega
      obtain rfl : V = true := VT.out (by omega)
      clear VT VF
      go_wp2
      go_meet
      case rel => exact ⟨rfl, Fr.refl _ _⟩
    · have q0 : (X0 != 1) = false := by simp; omega
      have q1 : (X1 != 2) = false := by simp; omega
      have q2 : (X2 != 0) = false := by simp; omega
      have q3 : (X3 != 0) = false := by simp; omega
      obtain rfl : V = false := VF.out (by omega)
      clear VT VF
      go_wp2
      go_meet
      case rel => exact ⟨rfl, Fr.refl _ _⟩
    · have q0 : (X0 != 1) = true := by simp; omega
      have q1 : (X0 != 2) = false := by simp; omega
      have q2 : (X1 != 2) = true := by simp; omega
      obtain rfl : V = true := VT.out (by omega)
      clear VT VF
      go_wp2
      go_meet
      case rel => exact ⟨rfl, Fr.refl _ _⟩
    · have q0 : (X0 != 1) = true := by simp; omega
      have q1 : (X0 != 2) = false := by simp; omega
      have q2 : (X1 != 2) = false := by simp; omega
      have q3 : (X2 != 0) = true := by simp; omega
      obtain rfl : V = true := VT.out (by omega)
      clear VT VF
      go_wp2
      go_meet
      case rel => exact ⟨rfl, Fr.refl _ _⟩
    · have q0 : (X0 != 1) = true := by simp; omega
      have q1 : (X0 != 2) = false := by simp; omega
      have q2 : (X1 != 2) = false := by simp; omega
      have q3 : (X2 != 0) = false := by simp; omega
      have q4 : (X3 != 0) = true := by simp; omega
      obtain rfl : V = true := VT.out (by omega)
      clear VT VF
      go_wp2
      go_meet
      case rel => exact ⟨rfl, Fr.refl _ _⟩
    · have q0 : (X0 != 1) = true := by simp; omega
      have q1 : (X0 != 2) = false := by simp; omega
      have q2 : (X1 != 2) = false := by simp; omega
      have q3 : (X2 != 0) = false := by simp; omega
      have q4 : (X3 != 0) = false := by simp; omega
      obtain rfl : V = false := VF.out (by omega)
      clear VT VF
      go_wp2
      go_meet
      case rel => exact ⟨rfl, Fr.refl _ _⟩
  case rest =>
  obtain ⟨rfl, hF4⟩ := hcut
  have hF := hF3.trans hF4
  have hBr := hB3.fr hF4 (fun h => h)
  have hRd4 := hRd.fr hF4 (fun _ _ _ h => h)
  have x0' := (hF4.cell (p := ⟨g1, o1, none⟩) hgl (fun h => h)).trans x0
  have hgl4 := Nat.lt_of_lt_of_le hgl hF4.size
  clear x0 x1 x2 x3 hRd hF3 hB3 hF4 hgl HV
  obtain ⟨w4, hnm⟩ : ∃ z, z = wc := ⟨wc, rfl⟩
  subst hnm
  by_cases hVt : V = true
  · have HX := Lib.hid (show R = .error 3 by rw [HR.out]; unfold decD; rw [← HHB.out, if_pos (of_decide_eq_true (HVB.out.symm.trans hVt))])
    subst hVt
    have y0 := hBr.cell 0
    have y1 := hBr.cell 1
    have z0 := hBr.frozen 0
    have z1 := hBr.frozen 1
    have yl := hBr.lt
    have hq := (hBr.set 0 (.bool false)).set 1 (.slice none 0 0)
    have v0 := hq.cell 0
    have v1 := hq.cell 1
    have HFQ := Lib.hid ((hF.setCell (p := ⟨w.heap.size, 0, none⟩) (fun h => by simp at h) (.bool false)).setCell (p := ⟨w.heap.size, 1, none⟩) (fun h => by simp at h) (.slice none 0 0))
    simp only [List.getElem?_cons_succ, List.getElem?_cons_zero, List.set_cons_succ, List.set_cons_zero] at y0 y1 v0 v1
    clear hq hBr hF
    go_wp2
    refine bodyPost_ret (v := .tuple #[.agg #[.bool false, .slice none 0 0], errv 3]) (by simp [results, Try.results37, go_sem, v0, v1]) rfl ?_
    exact RetDec.err HX.out rfl HFQ.out
  · have hVf : V = false := by simpa using hVt
    have HNB := Lib.hid (show ¬ headBad hb from of_decide_eq_false (HVB.out.symm.trans hVf))
    subst hVf
    obtain ⟨ask, hask⟩ : ∃ ask : Bool, ask = (X0 == 1) := ⟨_, rfl⟩
    obtain ⟨P0, hP0⟩ : ∃ P0, P0 = partsD b.length (hb.drop 4) [] := ⟨_, rfl⟩
    have HRP := Lib.hid (show R = outD b ask P0 by
      rw [HR.out, hP0, hask, HX0.out]
      have : (nth hb 0 == 1) = decide (nth hb 0 = 1) := by by_cases h : nth hb 0 = 1 <;> simp [h]
      rw [this]
      unfold decD outD; rw [← HHB.out, if_neg HNB.out]
      cases partsD b.length (List.drop 4 hb) [] <;> rfl)
    have hbl : hb.length = if b.length < 4 then 4 else b.length := by
      rw [HHB.out]
      by_cases h4 : b.length < 4
      · rw [if_pos h4]; exact (headD_len b).2.1 h4
      · rw [if_neg h4, (headD_len b).2.2 (by omega)]
    have hRest : Rest b (hb.drop 4) (decide (b.length < 4)) [] P0 := by
      refine ⟨⟨b.length, by rw [List.length_drop, hbl]; split <;> omega, hP0⟩, fun hne => ?_, fun he => ?_, fun x hx => ?_⟩
      · have h1 : 0 < (hb.drop 4).length := List.length_pos_iff.2 hne
        rw [List.length_drop, hbl] at h1 ⊢
        split at h1
        · omega
        · rename_i h4; rw [if_neg h4]; omega
      · have h1 := congrArg List.length he
        rw [List.length_drop, hbl] at h1
        simp only [List.length_nil] at h1
        rw [decide_eq_true_eq]; unfold shortD
        split at h1 <;> omega
      · have := List.mem_of_mem_drop hx
        rw [HHB.out] at this
        exact headD_bd HB.out x this
    go_upto_region 8 with (fail)
    go_cut [6] (fun s6 wx => s6 = .pointer (some ⟨w4.heap.size, 0, none⟩) ∧ Blk wx.heap w4.heap.size 39 [.bool ask, .slice none 0 0] ∧ Fr (fun _ => False) w4 wx)
    case first =>
      have hBa := Blk.made w4 39 [.bool ask, .slice none 0 0]
      have hFa := (Fr.refl (fun _ => False) w4).alloc (.cells #[.bool ask, .slice none 0 0] 39)
      have HBa := Lib.hid hBa
      have HFa := Lib.hid hFa
      clear hBa hFa hRest
      cases hX : (X0 == 1) with
      | true =>
        obtain rfl : ask = true := hask.trans hX
        clear hask
        go_wp2
        go_meet
        case rel => exact ⟨rfl, HBa.out, HFa.out⟩
      | false =>
        obtain rfl : ask = false := hask.trans hX
        clear hask
        go_wp2
        go_meet
        case rel => exact ⟨rfl, HBa.out, HFa.out⟩
    case rest =>
    obtain ⟨rfl, hM5, hFm⟩ := hcut
    obtain ⟨w5, hnm⟩ : ∃ z, z = wc := ⟨wc, rfl⟩
    subst hnm
    have HM := Lib.hid hM5
    have hRr : Rd w5.heap (some ⟨g1, o1 + 4, none⟩) (hb.drop 4).length 1 (ivals .u8 (hb.drop 4)) := by
      have h := (rd_sub hRd4 4 (hb.length - 4) (by omega)).fr hFm (fun _ _ _ h => h)
      rw [List.take_of_length_le (by simp)] at h
      rwa [List.length_drop]
    have hdl : (hb.drop 4).length = hb.length - 4 := List.length_drop
    obtain ⟨r0, hr0⟩ : ∃ r0, r0 = hb.drop 4 := ⟨_, rfl⟩
    rw [← hr0] at hRest hRr hdl
    have hsl : hb.length - 4 = r0.length := hdl.symm
    have HDL := Lib.hid hdl
    have hFw := hF.trans hFm
    have hBw := hBr.fr hFm (fun h => h)
    have HASK := Lib.hid hask
    have hwl := hF.size
    have HBLT := Lib.hid (show w.heap.size < w4.heap.size from hBr.lt)
    have hcr : r0.length ≤ c1 - 4 := by omega
    have hr0u : r0.length ≤ 9223372036854775000 := by omega
    clear hRd4 hbl hP0 hr0 hF hBr hFm hdl hVt hM5 hask
    have hcast : ((hb.length - 4 : Nat) : Int) = (r0.length : Int) := by rw [hsl]
    have hw5s : w4.heap.size < w5.heap.size := HM.out.lt
    have HG4 := Lib.hid hgl4
    clear x0' hgl4
    go_upto_region 9 with (fail)
    go_cut [7] (fun s7 wx => ∃ (aR : Option Addr) (cR : Nat), s7 = .slice aR r0.length cR ∧ Rd wx.heap aR r0.length 1 (ivals .u8 r0) ∧ r0.length ≤ cR ∧ Fr (fun _ => False) w5 wx ∧ Hid (∀ bq oq, aR = some ⟨bq, oq, none⟩ → bq < w4.heap.size))
    case first =>
      have HRr := Lib.hid hRr
      by_cases hc4 : c1 = 4
      · have hz : r0.length = 0 := by omega
        have hr0 : r0 = [] := List.eq_nil_of_length_eq_zero hz
        subst hr0
        have hb4 := Lib.hid (show hb.length - 4 = 0 by omega)
        subst hc4
        clear hRr hsl hcast hz
        go_wp2
        go_meet
        case rel => exact ⟨some ⟨g1, o1, none⟩, 0, (by first | rfl | (rw [hb4.out]; rfl)), Rd.nil _ _ _, Nat.zero_le _, Fr.refl _ _, Lib.hid (fun bq oq e => by simp only [Option.some.injEq, Addr.mk.injEq] at e; rw [← e.1]; exact HG4.out)⟩
      · clear hRr
        go_wp2
        go_meet
        case rel => exact ⟨_, _, (by first | rfl | rw [hsl]), HRr.out, hcr, Fr.refl _ _, Lib.hid (fun bq oq e => by simp only [Option.some.injEq, Addr.mk.injEq] at e; rw [← e.1]; exact HG4.out)⟩
    case rest =>
    obtain ⟨aR, cR, rfl, hRr, hcr, hF6, HAB⟩ := hcut
    have hM6 := HM.out.fr hF6 (fun h => h)
    have hF06 := hFw.trans hF6
    have hB6 := hBw.fr hF6 (fun h => h)
    have HREST := Lib.hid hRest
    clear hRest HM hFw hBw hF6 hsl hcast
    go_wp2
    go_loopw [7, 4] (fun s7 s4 wr => ∃ (rs : List Int) (aR : Option Addr) (cR : Nat) (sh : Bool) (acc : List En) (aE : Option Addr) (cE : Nat) (obE : Option Nat), s7 = .slice aR rs.length cR ∧ s4 = .bool sh ∧ Rd wr.heap aR rs.length 1 (ivals .u8 rs) ∧ rs.length ≤ cR ∧ Hid (Rest b rs sh acc P0) ∧ rs.length ≤ 9223372036854775000 ∧ Blk wr.heap w4.heap.size 39 [.bool ask, .slice aE acc.length cE] ∧ Own wr.heap 45 5 aE acc.length cE (acc.flatMap En.cells) obE ∧ (∀ g, obE = some g → w4.heap.size < g) ∧ Fr (fun _ => False) w wr ∧ Blk wr.heap w.heap.size 39 [.bool false, .slice none 0 0] ∧ Hid (∀ x ∈ acc, En.wf x) ∧ acc.length ≤ 25 ∧ Hid (∀ bq oq, aR = some ⟨bq, oq, none⟩ → bq < w4.heap.size)) (fun s _ _ => sliceLen s)
    case atStart => exact ⟨r0, aR, cR, decide (b.length < 4), [], none, 0, none, rfl, congrArg Value.bool (decide_eq_decide.2 (by omega)), hRr, hcr, HREST, hr0u, hM6, Own.nil _ _ _, (fun _ h => nomatch h), hF06, hB6, Lib.hid (fun _ h => nomatch h), Nat.zero_le _, HAB⟩
    case round =>
      clear hRr hcr HREST hr0u hM6 hF06 hB6
      obtain ⟨rs, aR, cR, sh, acc, aE, cE, obE, rfl, rfl, hRr, hcr, hRS, hru, hM, hO, hN, hF, hBr, hW, h25, HAR⟩ := hrel
      by_cases hpos : 0 < rs.length
      · have hne : rs ≠ [] := List.length_pos_iff.1 hpos
        obtain ⟨gR, oR, rfl, hgR, -⟩ := hRr.pos (by omega)
        obtain ⟨p, hp⟩ : ∃ p, p = rs.take 20 := ⟨_, rfl⟩
        obtain ⟨m, hm⟩ : ∃ m, m = p.length := ⟨_, rfl⟩
        have hm1 : m = min 20 rs.length := by rw [hm, hp, List.length_take]
        have hpb : ∀ x ∈ p, 0 ≤ x ∧ x < 256 := fun x hx => hRS.out.bd x (by rw [hp] at hx; exact List.mem_of_mem_take hx)
        have hRp : Rd wr.heap (some ⟨gR, oR, none⟩) m 1 (ivals .u8 p) := by
          have := rd_sub hRr 0 m (by omega)
          rw [List.drop_zero, Nat.add_zero] at this
          rw [hp, show rs.take 20 = rs.take m by rw [hm1]; rcases Nat.le_total 20 rs.length with h | h <;> first | rw [Nat.min_eq_left h] | rw [Nat.min_eq_right h, List.take_length, List.take_of_length_le h]]
          exact this
        have hRq : Rd wr.heap (some ⟨gR, oR + m, none⟩) (rs.length - m) 1 (ivals .u8 (rs.drop 20)) := by
          have := rd_sub hRr m (rs.length - m) (by omega)
          rw [List.take_of_length_le (by simp)] at this
          rw [show rs.drop 20 = rs.drop m by rw [hm1]; rcases Nat.le_total 20 rs.length with h | h <;> first | rw [Nat.min_eq_left h] | rw [Nat.min_eq_right h, List.drop_length, List.drop_of_length_le h]]
          exact this
        have hql : (rs.drop 20).length = rs.length - m := by rw [List.length_drop]; omega
        have hmin : min (20 : Int) (rs.length : Int) = (m : Int) := by omega
        have hmp : 1 ≤ m ∧ m ≤ 20 ∧ m ≤ rs.length := by omega
        have HRQ := Lib.hid hRq
        have HPP := Lib.hid hp
        have HMP := Lib.hid hm
        have HPB := Lib.hid hpb
        have HQL := Lib.hid hql
        have hsh : Hid (decide ((m : Int) < 20) = decide (p.length < 20)) := Lib.hid (by
          have : ((m : Int) < 20) ↔ p.length < 20 := by rw [← hm]; omega
          simp only [this])
        clear hRr hp hm hRq hpb hql hm1
        go_upto_region 12 with (fail)
        go_cut [7] from 57 to 93 (fun s7 wx => ∃ (aQ : Option Addr) (cQ : Nat), s7 = .slice aQ (rs.drop 20).length cQ ∧ Rd wx.heap aQ (rs.drop 20).length 1 (ivals .u8 (rs.drop 20)) ∧ (rs.drop 20).length ≤ cQ ∧ Fr (fun _ => False) wr wx ∧ Hid (∀ bq oq, aQ = some ⟨bq, oq, none⟩ → bq < w4.heap.size))
        case first =>
          by_cases hcm : cR = m
          · have hz : (rs.drop 20).length = 0 := by rw [HQL.out]; omega
            have hz2 : rs.drop 20 = [] := List.eq_nil_of_length_eq_zero hz
            have hz3 : rs.length = m := by omega
            have HZ2 := Lib.hid hz2
            have hne2 : ¬ rs = [] := hne
            subst hcm
            clear hz hz2
            go_wp2
            go_meet
            case rel => rw [HZ2.out]; exact ⟨some ⟨gR, oR, none⟩, 0, (by simp [hz3]), Rd.nil _ _ _, Nat.zero_le _, Fr.refl _ _, Lib.hid (fun bq oq e => by simp only [Option.some.injEq, Addr.mk.injEq] at e; rw [← e.1]; exact HAR.out _ _ rfl)⟩
          · go_wp2
            go_meet
            case rel => exact ⟨_, _, (by rw [HQL.out]), by rw [HQL.out]; exact HRQ.out, by rw [HQL.out]; omega, Fr.refl _ _, Lib.hid (fun bq oq e => by simp only [Option.some.injEq, Addr.mk.injEq] at e; rw [← e.1]; exact HAR.out _ _ rfl)⟩
        case rest =>
        obtain ⟨aQ, cQ, rfl, hRQ, hcQ, hF7, HAQ0⟩ := hcut
        have hRp7 := hRp.fr hF7 (fun _ _ _ h => h)
        have hM7 := hM.fr hF7 (fun h => h)
        have hO7 := hO.fr hF7 (fun _ _ h => h)
        have hBr7 := hBr.fr hF7 (fun h => h)
        have hF07 := hF.trans hF7
        have hwr := hF.size
        clear hRp hM hO hBr hF hF7 HRQ hcr hmin
        obtain ⟨w7, hnm⟩ : ∃ z, z = wc := ⟨wc, rfl⟩
        subst hnm
        have hfi := filled_any (M := m) p (some ⟨gR, oR, none⟩) cR w7 hRp7 (by rw [← HMP.out]; omega) (by rw [← HMP.out]; omega) HMP.out
        go_wp2_with (fail)
        refine hfi.mono ?_
        rintro e8 w8 ⟨g8, rfl, hO8, hF8, hg8⟩
        obtain ⟨D8, hD8⟩ : ∃ D, D = entD (filledD p) := ⟨_, rfl⟩
        have hen := entry_any (filledD p) g8 w8 hO8.rd (filledD_bd HPB.out)
        rw [← hD8] at hen
        have HD8 := Lib.hid hD8
        clear hfi hRp7 hO8 hD8
        go_wp2_with (fail)
        refine hen.mono ?_
        rintro e9 w9 ⟨x, rfl, hF9, hx, hxw⟩
        obtain ⟨xa, xn, xt, xp, xm⟩ := x
        simp only
        have hF89 := hF8.trans hF9
        have hFx : Fr (fun _ => False) w7 (w9.alloc (.cells #[.int .u32 xa, .int .i64 xn, .int .i64 xt, .int .u32 xp, .int .i64 xm] 45)) := hF89.alloc _
        have hBx := Blk.made w9 45 [.int .u32 xa, .int .i64 xn, .int .i64 xt, .int .u32 xp, .int .i64 xm]
        have hM9 := hM7.fr hFx (fun h => h)
        have hO9 := hO7.fr hFx (fun _ _ h => h)
        have hBr9 := hBr7.fr hFx (fun h => h)
        have hRQ9 := hRQ.fr hFx (fun _ _ _ h => h)
        have hF := hF07.trans hFx
        have c0 := hBx.cell 0
        have c1' := hBx.cell 1
        have c2 := hBx.cell 2
        have c3 := hBx.cell 3
        have c4 := hBx.cell 4
        have cl := hBx.lt
        have m1 := hM9.cell 1
        have mf := hM9.frozen 1
        have ml := hM9.lt
        have hs9 := hF89.size
        have hw47 := hM7.lt
        have hwF := hF07.size
        simp only [List.getElem?_cons_succ, List.getElem?_cons_zero] at c0 c1' c2 c3 c4 m1
        have HUN := Lib.hid (hRS.out.unfold hne)
        clear hen hF8 hF9 hM7 hO7 hBr7 hRQ hF07 hBx hFx hF89
        cases hDD : D8 with
        | none =>
          have HX := Lib.hid (show R = .error 3 by
            obtain ⟨kk, -, h⟩ := HUN.out
            rw [HRP.out, h, ← HPP.out, ← HD8.out, hDD]; rfl)
          rw [show (none : Option En).isSome = false from rfl]
          have hBr := hBr9
          clear hDD hM9 hO9 hBr9 hRQ9 hx
          have y0 := hBr.cell 0
          have y1 := hBr.cell 1
          have z0 := hBr.frozen 0
          have z1 := hBr.frozen 1
          have yl := hBr.lt
          have hq := (hBr.set 0 (.bool false)).set 1 (.slice none 0 0)
          have v0 := hq.cell 0
          have v1 := hq.cell 1
          have HFQ := Lib.hid ((hF.setCell (p := ⟨w.heap.size, 0, none⟩) (fun h => by simp at h) (.bool false)).setCell (p := ⟨w.heap.size, 1, none⟩) (fun h => by simp at h) (.slice none 0 0))
          simp only [List.getElem?_cons_succ, List.getElem?_cons_zero, List.set_cons_succ, List.set_cons_zero] at y0 y1 v0 v1
          clear hq hBr hF
          go_wp2
          refine bodyPost_ret (v := .tuple #[.agg #[.bool false, .slice none 0 0], errv 3]) (by simp [results, Try.results37, go_sem, v0, v1]) rfl ?_
          exact RetDec.err HX.out rfl HFQ.out
        | some y =>
          have hyx := hx y hDD
          subst hyx
          rw [show (some (⟨xa, xn, xt, xp, xm⟩ : En)).isSome = true from rfl]
          by_cases h25' : acc.length = 25
          · have HX := Lib.hid (show R = .error 3 by
              obtain ⟨kk, -, h⟩ := HUN.out
              rw [HRP.out, h, ← HPP.out, ← HD8.out, hDD]; simp only; rw [if_pos h25']; rfl)
            have e25 : ((acc.length : Int) == 25) = true := by simp [h25']
            have hBr := hBr9
            clear hDD hM9 hO9 hBr9 hRQ9 hx h25'
            have y0 := hBr.cell 0
            have y1 := hBr.cell 1
            have z0 := hBr.frozen 0
            have z1 := hBr.frozen 1
            have yl := hBr.lt
            have hq := (hBr.set 0 (.bool false)).set 1 (.slice none 0 0)
            have v0 := hq.cell 0
            have v1 := hq.cell 1
            have HFQ := Lib.hid ((hF.setCell (p := ⟨w.heap.size, 0, none⟩) (fun h => by simp at h) (.bool false)).setCell (p := ⟨w.heap.size, 1, none⟩) (fun h => by simp at h) (.slice none 0 0))
            simp only [List.getElem?_cons_succ, List.getElem?_cons_zero, List.set_cons_succ, List.set_cons_zero] at y0 y1 v0 v1
            clear hq hBr hF
            go_wp2
            refine bodyPost_ret (v := .tuple #[.agg #[.bool false, .slice none 0 0], errv 3]) (by simp [results, Try.results37, go_sem, v0, v1]) rfl ?_
            exact RetDec.err HX.out rfl HFQ.out
          · have e25 : ((acc.length : Int) == 25) = false := by simp; omega
            have HNX := Lib.hid (hRS.out.next hne (x := ⟨xa, xn, xt, xp, xm⟩) (by rw [← HPP.out, ← HD8.out, hDD]) h25')
            have hrd := rd_lit1 w9 (.cells #[.int .u32 xa, .int .i64 xn, .int .i64 xt, .int .u32 xp, .int .i64 xm] 45) 45 [.int .u32 xa, .int .i64 xn, .int .i64 xt, .int .u32 xp, .int .i64 xm]
            have hFl := (Fr.refl (fun _ => False) (w9.alloc (.cells #[.int .u32 xa, .int .i64 xn, .int .i64 xt, .int .u32 xp, .int .i64 xm] 45))).alloc (.cells #[.int .u32 xa, .int .i64 xn, .int .i64 xt, .int .u32 xp, .int .i64 xm] 45)
            have hOa := hO9.fr hFl (fun _ _ h => h)
            have HMl := Lib.hid (hM9.fr hFl (fun h => h))
            have HBl := Lib.hid (hBr9.fr hFl (fun h => h))
            have HRl := Lib.hid (hRQ9.fr hFl (fun _ _ _ h => h))
            have HFl := Lib.hid (hF.trans hFl)
            have hacl : acc.length ≤ 24 := by omega
            have hs10 := hFl.size
            have HW := Lib.hid (show ∀ z ∈ acc ++ [(⟨xa, xn, xt, xp, xm⟩ : En)], En.wf z from fun z hz => by
              rcases List.mem_append.1 hz with hz | hz
              · exact hW.out z hz
              · rw [List.mem_singleton.1 hz]; exact hxw)
            clear hDD hx h25' hM9 hO9 hBr9 hRQ9 hFl hF HUN
            go_upto_region 17 with (fail)
            go_wp2_with (go_loud (at_builtin; refine wpList_app rfl _ _ 37 rfl Try.underlying37 infoEn rfl (by decide) rfl rfl hOa hrd (by simp [Value.oneCell']) (by omega) (by omega) ?_))
            intro a8 c8 w8' ob8 v1 v2 v3
            have HAP := Lib.hid (show ∀ bq oq, aQ = some ⟨bq, oq, none⟩ → ¬ obE = some bq from fun bq oq e h => by have h1 := HAQ0.out bq oq e; have := hN bq h; omega)
            have HAQ := Lib.hid (show ∀ bq oq, aQ = some ⟨bq, oq, none⟩ → ¬ bq = w4.heap.size from fun bq oq e h => by have h1 := HAQ0.out bq oq e; omega)
            have hnB : ∀ g, obE = some g → ¬ g = w4.heap.size ∧ ¬ g = w.heap.size ∧ w.heap.size ≤ g := fun g hg => by have := hN g hg; omega
            have hM8 := HMl.out.fr v2 (fun e => (hnB _ e).1 rfl)
            have hB8 := HBl.out.fr v2 (fun e => (hnB _ e).2.1 rfl)
            have hR8 := HRl.out.fr v2 (fun bq oq e s => HAP.out bq oq e s)
            have hF8' := HFl.out.trans' v2 (fun i hi e => by have := (hnB _ e).2.2; omega)
            have hN8 : ∀ g, ob8 = some g → w4.heap.size < g := app_new hN v3 (by have h1 := hs10; simp at h1; omega)
            have y1 := hM8.cell 1
            have yf := hM8.frozen 1
            have yl := hM8.lt
            simp only [List.getElem?_cons_succ, List.getElem?_cons_zero] at y1
            have HM9 := Lib.hid (hM8.set 1 (.slice a8 (acc.length + 1) c8))
            have HO9 := Lib.hid (v1.other (p := ⟨w4.heap.size, 1, none⟩) (fun e => by have h2 : ob8 = some w4.heap.size := e; have := hN8 _ h2; omega) (.slice a8 (acc.length + 1) c8))
            have hS9 : Fr (fun k => k = w4.heap.size) w8' (w8'.setCell ⟨w4.heap.size, 1, none⟩ (.slice a8 (acc.length + 1) c8)) := (Fr.refl (fun k => k = w4.heap.size) w8').setCell (p := ⟨w4.heap.size, 1, none⟩) (fun _ => rfl) _
            have HF9 := Lib.hid (hF8'.trans' hS9 (fun i hi e => by have h2 : i = w4.heap.size := e; omega))
            have HB9 := Lib.hid (hB8.fr hS9 (fun e => by have h2 : w.heap.size = w4.heap.size := e; have := HBLT.out; omega))
            have HR9 := Lib.hid (hR8.fr hS9 (fun bq oq e s => HAQ.out bq oq e s))
            have hqu : (rs.drop 20).length ≤ 9223372036854775000 := by rw [HQL.out]; omega
            have hcc' : acc.length + 1 ≤ 25 := by omega
            have HO9' := Lib.hid (show Own (w8'.setCell ⟨w4.heap.size, 1, none⟩ (.slice a8 (acc.length + 1) c8)).heap 45 5 a8 (acc ++ [(⟨xa, xn, xt, xp, xm⟩ : En)]).length c8 ((acc ++ [(⟨xa, xn, xt, xp, xm⟩ : En)]).flatMap En.cells) ob8 by
              rw [List.length_append, List.flatMap_append]; simpa using HO9.out)
            clear v1 v2 v3 hOa hrd hM8 hB8 hR8 hF8' hS9 c0 c1' c2 c3 c4 m1 mf
            go_wp2
            go_roundw
            case rel => exact ⟨rs.drop 20, aQ, cQ, decide (p.length < 20), acc ++ [⟨xa, xn, xt, xp, xm⟩], a8, c8, ob8, (by simp), (by first | rw [hsh.out] | simp [hsh.out]), HR9.out, hcQ, (by rw [HPP.out]; exact HNX), hqu, (by simpa using HM9.out), HO9'.out, hN8, HF9.out, HB9.out, HW, (by simpa using hcc'), HAQ0⟩
            case measure => simp [sliceLen]; omega
      · have hrs : rs = [] := by cases rs with | nil => rfl | cons x l => exact absurd (Nat.succ_pos _) hpos
        subst hrs
        obtain ⟨hP, hS⟩ := hRS.out.done
        have HPS := Lib.hid hP
        cases hsh : sh with
        | true =>
          have HX := Lib.hid (show R = .error 6 by rw [HRP.out, HPS.out]; unfold outD; simp only; rw [if_pos (hS.1 hsh)])
          clear hsh hS hP hRr hM hO
          have y0 := hBr.cell 0
          have y1 := hBr.cell 1
          have z0 := hBr.frozen 0
          have z1 := hBr.frozen 1
          have yl := hBr.lt
          have hq := (hBr.set 0 (.bool false)).set 1 (.slice none 0 0)
          have v0 := hq.cell 0
          have v1 := hq.cell 1
          have HFQ := Lib.hid ((hF.setCell (p := ⟨w.heap.size, 0, none⟩) (fun h => by simp at h) (.bool false)).setCell (p := ⟨w.heap.size, 1, none⟩) (fun h => by simp at h) (.slice none 0 0))
          simp only [List.getElem?_cons_succ, List.getElem?_cons_zero, List.set_cons_succ, List.set_cons_zero] at y0 y1 v0 v1
          clear hq hBr hF
          go_wp2
          refine bodyPost_ret (v := .tuple #[.agg #[.bool false, .slice none 0 0], errv 6]) (by simp [results, Try.results37, go_sem, v0, v1]) rfl ?_
          exact RetDec.err HX.out rfl HFQ.out
        | false =>
          have hns : ¬ shortD b := fun h => by have := hS.2 h; rw [hsh] at this; cases this
          have HX := Lib.hid (show R = .ok (ask, acc) by rw [HRP.out, HPS.out]; unfold outD; simp only; rw [if_neg hns])
          have hm0 := hM.cell 0
          have hm1 := hM.cell 1
          have hml := hM.lt
          have y0 := hBr.cell 0
          have y1 := hBr.cell 1
          have z0 := hBr.frozen 0
          have z1 := hBr.frozen 1
          have yl := hBr.lt
          have hq := (hBr.set 0 (.bool ask)).set 1 (.slice aE acc.length cE)
          have v0 := hq.cell 0
          have v1 := hq.cell 1
          have hFs : Fr (fun k => k = w.heap.size) wr ((wr.setCell ⟨w.heap.size, 0, none⟩ (.bool ask)).setCell ⟨w.heap.size, 1, none⟩ (.slice aE acc.length cE)) := ((Fr.refl (fun k => k = w.heap.size) wr).setCell (p := ⟨w.heap.size, 0, none⟩) (fun _ => rfl) _).setCell (p := ⟨w.heap.size, 1, none⟩) (fun _ => rfl) _
          have HFQ := Lib.hid (hF.trans' hFs (fun i hi e => by have h2 : i = w.heap.size := e; omega))
          have HOQ := Lib.hid (hO.fr hFs (fun g hg e => by have h2 : g = w.heap.size := e; have := hN g hg; omega))
          have HN' := Lib.hid (show ∀ g, obE = some g → w.heap.size ≤ g from fun g hg => by have := hN g hg; omega)
          simp only [List.getElem?_cons_succ, List.getElem?_cons_zero, List.set_cons_succ, List.set_cons_zero] at y0 y1 v0 v1 hm0 hm1
          clear hq hBr hF hFs hM hO hRr hsh hS hP hns
          go_wp2
          refine bodyPost_ret (v := .tuple #[.agg #[.bool ask, .slice aE acc.length cE], .nilIface]) (by simp [results, Try.results37, go_sem, v0, v1]) rfl ?_
          exact RetDec.ok HX.out rfl HOQ.out HFQ.out HN'.out hW.out h25
end Go.Proofs.Ytfglidaicjjpfaa
end
