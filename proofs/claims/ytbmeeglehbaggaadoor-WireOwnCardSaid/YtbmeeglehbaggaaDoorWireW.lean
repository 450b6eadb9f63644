import Derived.Test.YtbmeeglehbaggaaDoorWireMath
import Derived.Test.YtbmeeglehbaggaaDoorBitsLz
import Derived.Test.YtbmeeglehbaggaaDoorAnyW
namespace Go.Proofs.YtbmeeglehbaggaaDoor
open Go.RowKit
theorem infoU8 : (Tryd.prog.info? 5).map (fun i => (i.zero, i.size, i.bytes)) = some (some (.int .u8 0), 1, 1) := by kernel_rfl
/-! ### masks -/
theorem xor_full {m : Int} (h : 0 ≤ m ∧ m < 4294967296) : bits .xor .u32 IntKind.u32.max m = 4294967295 - m := by
  have e : IntKind.u32.max = 4294967295 := by decide
  rw [e, u32_xor 4294967295 m (by decide) (by decide) h.1 h.2]
  obtain ⟨M, rfl⟩ := Int.eq_ofNat_of_zero_le h.1
  have hM : M < 2 ^ 32 := by omega
  have h1 : (4294967295 : Nat) ^^^ M = 4294967295 - M := by
    have h2 := congrArg BitVec.toNat (BitVec.allOnes_xor (x := BitVec.ofNat 32 M))
    rw [BitVec.toNat_xor, BitVec.toNat_allOnes, BitVec.toNat_not, BitVec.toNat_ofNat, Nat.mod_eq_of_lt hM] at h2
    exact h2
  rw [show (4294967295 : Int).toNat = 4294967295 from rfl, Int.toNat_natCast, h1]
  omega
theorem mlen_lz : ∀ k, k < 33 → 32 - (Lib.bitLen (4294967295 - maskV k).toNat : Int) = k := by decide +kernel
/-- How long a mask is. -/
def RetMlen (w : World) (r : Option Nat) (e : Ending) (w' : World) : Prop := (match r with
  | some k => e = .returned (.tuple #[.int .i64 k, .nilIface])
  | none => e = .returned (.tuple #[.int .i64 0, errv 3])) ∧ w' = w
theorem RetMlen.some' {w : World} {r : Option Nat} {e : Ending} {w' : World} {k : Nat} (hr : r = some k) (h : e = .returned (.tuple #[.int .i64 k, .nilIface])) (hw : w' = w) : RetMlen w r e w' := by subst hr; exact ⟨h, hw⟩
theorem RetMlen.none' {w : World} {r : Option Nat} {e : Ending} {w' : World} (hr : r = none) (h : e = .returned (.tuple #[.int .i64 0, errv 3])) (hw : w' = w) : RetMlen w r e w' := by subst hr; exact ⟨h, hw⟩
set_option maxRecDepth 100000 in
set_option maxHeartbeats 1000000 in
theorem masklen_any (m : Int) (w : World) (hm : 0 ≤ m ∧ m < 4294967296) : Calls Tryd.prog 74 #[.int .u32 m] w (RetMlen w (mlenO m)) := by
  obtain ⟨R, hR⟩ : ∃ R, R = mlenO m := ⟨_, rfl⟩
  rw [← hR]
  have HR := Lib.hid hR
  have hl := Any.bitLen_le32 (4294967295 - m) (by omega) (by omega)
  obtain ⟨k, hk⟩ : ∃ k : Nat, 32 - (Lib.bitLen (4294967295 - m).toNat : Int) = k := ⟨32 - Lib.bitLen (4294967295 - m).toNat, by omega⟩
  have hk32 : k ≤ 32 := by omega
  have HK := Lib.hid hk
  have hx := xor_full hm
  clear hR hl hk
  go_enter Tryd.func74, Tryd.ntmps74
  go_wp2_with (fail)
  refine (lz32_any (4294967295 - m) _ (by omega) (by omega)).mono ?_
  rintro e1 w1 ⟨rfl, rfl⟩
  rw [HK.out]
  clear hx
  go_wp2_with (fail)
  refine (mask_ok k w1 hk32).mono ?_
  rintro e2 w2 ⟨rfl, rfl⟩
  by_cases hmk : maskV k = m
  · have HM := Lib.hid (show R = some k by rw [HR.out, ← hmk]; exact mlenO_mask k (by omega))
    have e1 : (maskV k != m) = false := by simp [hmk]
    clear hmk
    go_wp2
    go_ret2
    exact RetMlen.some' HM.out rfl rfl
  · have HM := Lib.hid (show R = none by
      rw [HR.out]
      cases ho : mlenO m with
      | none => rfl
      | some j =>
        obtain ⟨h1, h2⟩ := mlenO_some ho
        have h3 := mlen_lz j (by omega)
        rw [h2, HK.out] at h3
        have : k = j := by omega
        subst this
        exact absurd h2 hmk)
    have e1 : (maskV k != m) = true := by simp [hmk]
    clear hmk
    go_wp2
    go_ret2
    exact RetMlen.none' HM.out rfl rfl

/-! ### what is wrong with a message -/
theorem errO_eq (r : Option Int) : errO r = match r with | none => .nilIface | some k => errv k := by cases r <;> rfl
set_option maxRecDepth 100000 in
set_option maxHeartbeats 4000000 in
theorem wcheck_any {M : Nat} (ask : Bool) (l : List En) (al : Option Addr) (cl : Nat) (w : World) (hL : Recs w.heap al 5 En.cells l) (hw : ∀ e ∈ l, En.wf e) (hll : l.length ≤ 9223372036854775806) (hM : M = l.length) :
    Calls Tryd.prog 55 #[.agg #[.bool ask, .slice al M cl]] w (RetV w (errO (msgErr l))) := by
  subst hM
  obtain ⟨R, hR⟩ : ∃ R, R = msgErr l := ⟨_, rfl⟩
  rw [← hR]
  have HR := Lib.hid hR
  have HL := Lib.hid hL
  have HW := Lib.hid hw
  clear hR hL hw
  have hB := Blk.made w 59 [.bool ask, .slice al l.length cl]
  have b1 := hB.cell 1
  have bl := hB.lt
  have hF0 := (Fr.refl (fun _ => False) w).alloc (.cells #[.bool ask, .slice al l.length cl] 59)
  simp only [List.getElem?_cons_succ, List.getElem?_cons_zero] at b1
  clear hB
  go_enter Tryd.func55, Tryd.ntmps55
  by_cases h25 : 25 < l.length
  · have HX := Lib.hid (show R = some 4 by rw [HR.out]; unfold msgErr; rw [if_pos h25])
    go_wp2
    go_ret
    exact RetV.mk (show errv 4 = _ by rw [HX.out]; rfl) rfl hF0
  · have HX := Lib.hid (show R = entsErr l by rw [HR.out]; unfold msgErr; rw [if_neg h25])
    go_wp2
    go_loopw [14] (fun s14 wr => ∃ k : Nat, k ≤ l.length ∧ s14 = .int .i64 k ∧ Fr (fun _ => False) w wr ∧ Hid (R = entsErr (l.drop k))) (fun s _ => l.length - (intOf s).toNat)
    case atStart => exact ⟨0, by omega, rfl, hF0, Lib.hid HX.out⟩
    case round =>
      clear hF0 b1 bl
      obtain ⟨k, hk, rfl, hF, hE⟩ := hrel
      by_cases hkl : k < l.length
      · obtain ⟨g, o, rfl, hgl, hc⟩ := Recs.pos HL.out En.cells_len (by omega) (by omega)
        have dd := fun (j : Nat) (hj : j < 5) => (hF.cell (p := ⟨g, o + (k * 5 + j), none⟩) hgl (fun h => h)).trans (hc w rfl k j hkl hj)
        have d0 := dd 0 (by omega)
        have d1 := dd 1 (by omega)
        have d2 := dd 2 (by omega)
        have d3 := dd 3 (by omega)
        have d4 := dd 4 (by omega)
        have hx := HW.out _ (nth_mem l k hkl)
        have hD := drop_nth l k hkl
        generalize nth l k = x at *
        have hE1 : R = match entErr x with
          | some q => some q
          | none => entsErr (l.drop (k + 1)) := by rw [hE.out, hD]; rfl
        obtain ⟨xa, xn, xt, xp, xm⟩ := x
        simp only [En.cells, List.getElem?_cons_zero, List.getElem?_cons_succ, ← Nat.add_assoc, Nat.add_zero] at d0 d1 d2 d3 d4
        have HE1 := Lib.hid hE1
        have hFx := hF.alloc (.cells #[.int .u32 xa, .int .i64 xn, .int .i64 xt, .int .u32 xp, .int .i64 xm] 66)
        have hBx := Blk.made wr 66 [.int .u32 xa, .int .i64 xn, .int .i64 xt, .int .u32 xp, .int .i64 xm]
        have c0 := hBx.cell 0
        have c1 := hBx.cell 1
        have cl0 := hBx.lt
        simp only [List.getElem?_cons_succ, List.getElem?_cons_zero] at c0 c1
        have hgl' := Nat.lt_of_lt_of_le hgl hF.size
        clear dd hc hD hE1 hF
        go_wp2_with (fail)
        refine (pcheck_any xa xn _ hx.1).mono ?_
        rintro e1 w1 ⟨rfl, hF1⟩
        have hF01 := hFx.trans hF1
        have hB1 := hBx.fr hF1 (fun h => h)
        have c2 := hB1.cell 2
        have c4 := hB1.cell 4
        have cl1 := hB1.lt
        simp only [List.getElem?_cons_succ, List.getElem?_cons_zero] at c2 c4
        clear hFx hBx hF1 hB1 c0 c1 cl0 d0 d1 d2 d3 d4
        cases hne : netErr xa xn with
        | some q =>
          have HX2 := Lib.hid (show R = some q by rw [HE1.out]; unfold entErr; simp only [hne])
          rw [show errO (some q) = errv q from rfl]
          clear hne
          go_wp2
          go_ret
          exact RetV.mk (show errv q = _ by rw [HX2.out]; rfl) rfl hF01
        | none =>
          have HNE := Lib.hid hne
          rw [show errO none = .nilIface from rfl]
          clear hne
          by_cases hb : xt < 0 ∨ 65535 < xt ∨ xm < 1 ∨ 16 < xm
          · have HX2 := Lib.hid (show R = some 1 by rw [HE1.out]; unfold entErr; simp only [HNE.out]; rw [if_pos hb])
            have hb2 : xt < 0 ∨ (0 ≤ xt ∧ 65535 < xt) ∨ (0 ≤ xt ∧ xt ≤ 65535 ∧ xm < 1) ∨ (0 ≤ xt ∧ xt ≤ 65535 ∧ 1 ≤ xm ∧ 16 < xm) := by omega
            clear hb
            rcases hb2 with t1 | ⟨t1, t2⟩ | ⟨t1, t2, t3⟩ | ⟨t1, t2, t3, t4⟩
            all_goals
              go_wp2
              go_ret
              exact RetV.mk (show errv 1 = _ by rw [HX2.out]; rfl) rfl hF01
          · have HX2 := Lib.hid (show R = entsErr (l.drop (k + 1)) by rw [HE1.out]; unfold entErr; simp only [HNE.out]; rw [if_neg hb])
            obtain ⟨t1, t2, t3, t4⟩ : 0 ≤ xt ∧ xt ≤ 65535 ∧ 1 ≤ xm ∧ xm ≤ 16 := by omega
            clear hb
            go_wp2
            go_roundw
            case rel => exact ⟨k + 1, by omega, by go_num, hF01, HX2⟩
            case measure => simp [intOf]; omega
      · obtain rfl : k = l.length := by omega
        have HX2 := Lib.hid (show R = none by rw [hE.out, List.drop_length]; rfl)
        clear hE
        go_wp2
        go_ret
        exact RetV.mk (show Value.nilIface = _ by rw [HX2.out]; rfl) rfl hF

/-! ### numbers -/
theorem or_small {x c : Int} (h0 : 0 ≤ x) (h1 : x < 4294967296) (hx : x % 256 = 0) (c0 : 0 ≤ c) (c1 : c < 256) : bits .or .u32 x c = x + c := by
  rw [u32_or x c h0 h1 c0 (by omega)]
  obtain ⟨X, rfl⟩ := Int.eq_ofNat_of_zero_le h0
  obtain ⟨K, rfl⟩ := Int.eq_ofNat_of_zero_le c0
  have hd : X = (X / 256) <<< 8 := by rw [Nat.shiftLeft_eq]; omega
  have := Nat.shiftLeft_add_eq_or_of_lt (show K < 2 ^ 8 by omega) (X / 256)
  rw [← hd] at this
  simp only [Int.toNat_natCast]
  rw [← this]
  simp
theorem numB_snoc (l : List Int) (x : Int) : numB (l ++ [x]) = numB l * 256 % 4294967296 + x := by unfold numB; rw [List.foldl_append]; rfl
theorem numB_bd {l : List Int} (h : ∀ x ∈ l, 0 ≤ x ∧ x < 256) : 0 ≤ numB l ∧ numB l < 4294967296 := by
  have key : ∀ (l : List Int) (n : Int), (∀ x ∈ l, 0 ≤ x ∧ x < 256) → 0 ≤ n ∧ n < 4294967296 → 0 ≤ l.foldl (fun n c => n * 256 % 4294967296 + c) n ∧ l.foldl (fun n c => n * 256 % 4294967296 + c) n < 4294967296 := by
    intro l
    induction l with
    | nil => intro n _ hn; exact hn
    | cons x l ih =>
      intro n hl hn
      rw [List.foldl_cons]
      have := hl x (by simp)
      exact ih _ (fun y hy => hl y (by simp [hy])) (by omega)
  exact key l 0 h (by decide)
set_option maxRecDepth 100000 in
set_option maxHeartbeats 1000000 in
theorem number_any {M : Nat} (l : List Int) (a : Option Addr) (c : Nat) (w : World) (hL : Rd w.heap a M 1 (ivals .u8 l)) (hb : ∀ x ∈ l, 0 ≤ x ∧ x < 256) (hl : l.length ≤ 9223372036854775806) (hM : M = l.length) :
    Calls Tryd.prog 75 #[.slice a M c] w (RetQ w (.int .u32 (numB l))) := by
  subst hM
  have HB := Lib.hid hb
  clear hb
  go_enter Tryd.func75, Tryd.ntmps75
  go_wp2
  go_loopw [8, 3] (fun s8 s3 wr => ∃ (k : Nat) (n : Int), k ≤ l.length ∧ s8 = .int .i64 k ∧ s3 = .int .u32 n ∧ wr = w ∧ Hid (n = numB (l.take k)) ∧ 0 ≤ n ∧ n < 4294967296) (fun s _ _ => l.length - (intOf s).toNat)
  case atStart => exact ⟨0, 0, by omega, rfl, rfl, rfl, Lib.hid rfl, by omega, by omega⟩
  case round =>
    obtain ⟨k, n, hk, rfl, rfl, rfl, hE, n0, n1⟩ := hrel
    by_cases hkl : k < l.length
    · obtain ⟨g, o, rfl, hgl, hc⟩ := Ints.pos hL (by omega)
      have d0 := hc wr rfl k hkl
      have hx := HB.out _ (nth_mem l k hkl)
      have hT : numB (l.take (k + 1)) = n * 256 % 4294967296 + nth l k := by rw [take_succ_nth l k hkl, numB_snoc, hE.out]
      have hbd := numB_bd (l := l.take (k + 1)) (fun x hx => HB.out x (List.mem_of_mem_take hx))
      rw [hT] at hbd
      generalize nth l k = x at *
      have HT := Lib.hid hT
      have ho := or_small (x := n * 256 % 4294967296) (c := x) (by omega) (by omega) (by omega) hx.1 hx.2
      clear hc hT
      go_wp2
      go_roundw
      case rel => exact ⟨k + 1, n * 256 % 4294967296 + x, by omega, by go_num, (by first | rfl | trivial), (by first | rfl | trivial), Lib.hid HT.out.symm, hbd.1, hbd.2⟩
      case measure => simp [intOf]; omega
    · obtain rfl : k = l.length := by omega
      rw [List.take_length] at hE
      go_wp2
      go_ret
      exact RetQ.mk (x := .int .u32 n) (by rw [hE.out]) rfl 0 rfl
end Go.Proofs.YtbmeeglehbaggaaDoor
