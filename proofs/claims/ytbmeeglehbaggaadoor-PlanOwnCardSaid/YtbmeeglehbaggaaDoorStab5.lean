import Derived.Test.YtbmeeglehbaggaaDoorStab4
import Derived.Deep.CutBlock
import Derived.Deep.CutRange
import Derived.Deep.DeepCutAuto
namespace Go.Proofs.YtbmeeglehbaggaaDoor
open Go.RowKit

/-- Where the search of a merge lies. -/
def SymB (a m b s0 r0 : Nat) : Prop := s0 ≤ r0 ∧ a ≤ s0 ∧ r0 ≤ b ∧ (a + b) / 2 + m - b ≤ s0 ∧ (∀ c, s0 ≤ c → c < r0 → c + 1 ≤ (a + b) / 2 + m ∧ (a + b) / 2 + m - 1 - c < b ∧ c < b) ∧ (r0 ≤ (a + b) / 2 ∨ r0 ≤ m)
theorem symB1 {a m b : Nat} (ham : a < m) (hmb : m < b) (h : (a + b) / 2 < m) : SymB a m b ((a + b) / 2 + m - b) ((a + b) / 2) := ⟨by omega, by omega, by omega, by omega, fun c h1 h2 => by omega, .inl (Nat.le_refl _)⟩
theorem symB2 {a m b : Nat} (ham : a < m) (hmb : m < b) (h : ¬ (a + b) / 2 < m) : SymB a m b a m := ⟨by omega, by omega, by omega, by omega, fun c h1 h2 => by omega, .inr (Nat.le_refl _)⟩

set_option maxRecDepth 100000 in
set_option maxHeartbeats 32000000 in
theorem sym_any (cf : Int → Int → Int) (g bl N c M : Nat) (hN : N ≤ 1000) : ∀ (f a m b : Nat) (d : List Int) (w : World), b - a ≤ f → CmpOk w g bl M cf → Ownd w.heap 3 1 (some ⟨g, 0, none⟩) N c (ivals .i64 d) (some g) → OkD N M d → a < m → m < b → b ≤ N →
    Calls Tryd.prog 80 #[.slice (some ⟨g, 0, none⟩) N c, .int .i64 a, .int .i64 m, .int .i64 b, .func (.func 38) #[] #[.pointer (some ⟨bl, 0, none⟩)]] w (SPost w g N c M (symM (ltI cf) f d a m b)) := by
  intro f
  induction f with
  | zero => intro a m b d w hf _ _ _ ham hmb; omega
  | succ f ih =>
    intro a m b d w hf hcmp hO hd ham hmb hbN
    by_cases hA : m = a + 1
    · exact symA_any cf g bl N c M a m b f d w hcmp hO hd hA hmb hbN hN
    by_cases hB : b = m + 1
    · exact symB_any cf g bl N c M a m b f d w hcmp hO hd ham hA hB hbN hN
    obtain ⟨RES, hRES⟩ : ∃ r, r = symM (ltI cf) (f + 1) d a m b := ⟨_, rfl⟩
    rw [← hRES]
    obtain ⟨mid, hmid⟩ : ∃ q, q = (a + b) / 2 := ⟨_, rfl⟩
    obtain ⟨s, hs⟩ : ∃ q, q = symS (ltI cf) d a m b := ⟨_, rfl⟩
    obtain ⟨d1, hd1⟩ : ∃ q, q = symRot d m s (mid + m - s) := ⟨_, rfl⟩
    obtain ⟨d2, hd2⟩ : ∃ q, q = if a < s ∧ s < mid then symM (ltI cf) f d1 a s mid else d1 := ⟨_, rfl⟩
    have HR := Lib.hid (show RES = if mid < mid + m - s ∧ mid + m - s < b then symM (ltI cf) f d2 mid (mid + m - s) b else d2 by
      rw [hRES, hd2, hd1, hs, hmid]; show (if _ then _ else (if _ then _ else _)) = _; rw [if_neg hA, if_neg hB])
    have HS := Lib.hid (show s = if mid < m then bsr (symP (ltI cf) d (mid + m)) (mid - (mid + m - b)) (mid + m - b) mid else bsr (symP (ltI cf) d (mid + m)) (m - a) a m by rw [hs, hmid]; rfl)
    have HB1 := Lib.hid (fun h : mid < m => show SymB a m b (mid + m - b) mid from hmid ▸ symB1 ham hmb (hmid ▸ h))
    have HB2 := Lib.hid (fun h : ¬ mid < m => show SymB a m b a m from symB2 ham hmb (hmid ▸ h))
    have HMID := Lib.hid hmid
    have HD1 := Lib.hid hd1
    have HD2 := Lib.hid hd2
    have e0 : ((m : Int) - a == 1) = false := by simp; omega
    have e1 : ((b : Int) - m == 1) = false := by simp; omega
    have e2 : ((a : Int) + b) / 2 = (mid : Int) := by omega
    have hm1 : a < mid := by omega
    have hm2 : mid < b := by omega
    have HC := Lib.hid hcmp
    have IH := Lib.hid ih
    clear hRES hmid hs hd1 hd2 hcmp ih hA hB
    go_enter Tryd.func80, Tryd.ntmps80
    go_upto_if 140 with (fail)
    go_cut [20, 21] (fun s20 s21 wx => ∃ s0 r0 : Nat, s20 = .int .i64 s0 ∧ s21 = .int .i64 r0 ∧ SymB a m b s0 r0 ∧ Hid (s = bsr (symP (ltI cf) d (mid + m)) (r0 - s0) s0 r0) ∧ wx = w)
    case first =>
      as_aux_lemma =>
        by_cases hmm : mid < m
        · have HQ := Lib.hid (HB1.out hmm)
          have HQ2 := Lib.hid (show s = bsr (symP (ltI cf) d (mid + m)) (mid - (mid + m - b)) (mid + m - b) mid by rw [HS.out, if_pos hmm])
          have e3 : ((mid + m - b : Nat) : Int) = (mid : Int) + m - b := by omega
          go_wp2
          go_meet
          case rel => exact ⟨mid + m - b, mid, by rw [e3], rfl, HQ.out, HQ2, rfl⟩
        · have HQ := Lib.hid (HB2.out hmm)
          have HQ2 := Lib.hid (show s = bsr (symP (ltI cf) d (mid + m)) (m - a) a m by rw [HS.out, if_neg hmm])
          go_wp2
          go_meet
          case rel => exact ⟨a, m, rfl, rfl, HQ.out, HQ2, rfl⟩
    case rest =>
      as_aux_lemma =>
        obtain ⟨s0, r0, rfl, rfl, hq, hq2, rfl⟩ := hcut
        generalize wc = w0 at *
        obtain ⟨hq0, hq1, hqb, hqs, hqc, hqm⟩ := hq
        have H0 := Lib.hid (show BsTo (symP (ltI cf) d (mid + m)) s0 r0 s by rw [hq2.out]; exact BsTo.start _ _ _)
        have HQC := Lib.hid hqc
        clear hq2 hqc HS HB1 HB2
        go_wp2
        go_loopw [20, 21] (fun s20 s21 wr => ∃ (i j : Nat), s20 = .int .i64 i ∧ s21 = .int .i64 j ∧ s0 ≤ i ∧ i ≤ j ∧ j ≤ r0 ∧ Ownd wr.heap 3 1 (some ⟨g, 0, none⟩) N c (ivals .i64 d) (some g) ∧ Fr (fun k => k = g) w0 wr ∧ Hid (BsTo (symP (ltI cf) d (mid + m)) i j s)) (fun s20 s21 _ => (intOf s21).toNat - (intOf s20).toNat)
        case atStart => exact ⟨s0, r0, rfl, rfl, by omega, by omega, by omega, hO, Fr.refl _ _, H0⟩
        case round =>
          as_aux_lemma =>
            clear hO H0
            obtain ⟨i, j, rfl, rfl, hsi, hij, hjr, hO, hF, hB⟩ := hrel
            by_cases hlt : i < j
            · obtain ⟨g', e', -, hg, hc, hfz⟩ := hO.pos (by omega)
              cases e'
              obtain ⟨h, hh⟩ : ∃ h, h = (i + j) / 2 := ⟨_, rfl⟩
              have eh : ((i : Int) + j) / 2 = (h : Int) := by omega
              have hih : i ≤ h := by omega
              have hhj : h < j := by omega
              have hqh := HQC.out h (by omega) (by omega)
              rw [← HMID.out] at hqh
              have hup := Lib.hid (fun q => BsTo.up hB.out hlt hh q)
              have hdn := Lib.hid (fun q => BsTo.down hB.out hlt hh q)
              obtain ⟨p, hp⟩ : ∃ p, p = mid + m - 1 - h := ⟨_, rfl⟩
              have ep : (mid : Int) + m - 1 - h = (p : Int) := by omega
              have hpN : p < N := by omega
              have hhN : h < N := by omega
              have d0 := (hc h (by omega)).trans (ivals_get .i64 d h (by rw [hd.len]; omega))
              have d1 := (hc p (by omega)).trans (ivals_get .i64 d p (by rw [hd.len]; omega))
              have hcall := fun n : Nat => HC.out (nth d p) (nth d h) wr n (hd.nth (by omega)) (hd.nth (by omega)) hF
              have hlt2 : symP (ltI cf) d (mid + m) h = !decide (cf (nth d p) (nth d h) < 0) := by rw [hp]; rfl
              generalize cf (nth d p) (nth d h) = v at *
              generalize nth d h = x at *
              generalize nth d p = y at *
              clear hc hfz hB hh hp hqh
              by_cases hv : v < 0
              · as_aux_lemma =>
                  have hdv : decide (v < 0) = true := decide_eq_true hv
                  have HE := Lib.hid (hdn.out (by rw [hlt2, hdv]; rfl))
                  clear hlt2 hup hdn
                  go_wp2
                  go_quiet (first | (go_at_call 38; exact hcall _))
                  go_wp2
                  go_roundw
                  case rel => exact ⟨i, h, rfl, rfl, hsi, hih, by omega, hO, hF.drewN nq, HE⟩
                  case measure => simp [intOf]; omega
              · as_aux_lemma =>
                  have hdv : decide (v < 0) = false := decide_eq_false hv
                  have HE := Lib.hid (hup.out (by rw [hlt2, hdv]; rfl))
                  clear hlt2 hup hdn
                  go_wp2
                  go_quiet (first | (go_at_call 38; exact hcall _))
                  go_wp2
                  go_roundw
                  case rel => exact ⟨h + 1, j, by go_num, rfl, by omega, by omega, hjr, hO, hF.drewN nq, HE⟩
                  case measure => simp [intOf]; omega
            · obtain rfl : i = s := hB.out.end (by omega)
              have hsb : i ≤ mid + m := by omega
              obtain ⟨en, hen⟩ : ∃ q, q = mid + m - i := ⟨_, rfl⟩
              have een : (mid : Int) + m - i = (en : Int) := by omega
              rw [← hen] at HR HD1
              have hsN : i ≤ b := by omega
              have heb : en ≤ b := by omega
              have hea : a ≤ i := by omega
              clear hB hen
              go_upto_region 39 with (fail)
              obtain ⟨B1, hB1⟩ : ∃ q : Bool, q = decide (i < m ∧ m < en) := ⟨_, rfl⟩
              go_cut [185] (fun s185 wy => s185 = .bool B1 ∧ wy = wr)
              case first =>
                as_aux_lemma =>
                  have hq : (¬ i < m ∧ B1 = false) ∨ (i < m ∧ ¬ m < en ∧ B1 = false) ∨ (i < m ∧ m < en ∧ B1 = true) := by
                    by_cases h1 : i < m
                    · by_cases h2 : m < en
                      · exact .inr (.inr ⟨h1, h2, by rw [hB1]; exact decide_eq_true ⟨h1, h2⟩⟩)
                      · exact .inr (.inl ⟨h1, h2, by rw [hB1]; exact decide_eq_false (fun q => h2 q.2)⟩)
                    · exact .inl ⟨h1, by rw [hB1]; exact decide_eq_false (fun q => h1 q.1)⟩
                  clear hB1
                  rcases hq with ⟨h1, rfl⟩ | ⟨h1, h2, rfl⟩ | ⟨h1, h2, rfl⟩
                  all_goals
                    go_wp2
                    go_meet
                    case rel => exact ⟨rfl, rfl⟩
              case rest =>
                as_aux_lemma =>
                  obtain ⟨rfl, rfl⟩ := hcut
                  generalize wc = w1 at *
                  have HB1 := Lib.hid hB1
                  clear hB1
                  go_upto_if 185 with (fail)
                  go_cut [20] (fun s20 wy => s20 = .int .i64 i ∧ Ownd wy.heap 3 1 (some ⟨g, 0, none⟩) N c (ivals .i64 d1) (some g) ∧ OkD N M d1 ∧ Fr (fun k => k = g) w0 wy)
                  case first =>
                    as_aux_lemma =>
                      cases B1 with
                      | true =>
                        as_aux_lemma =>
                          obtain ⟨h1, h2⟩ : i < m ∧ m < en := of_decide_eq_true HB1.out.symm
                          have hc := rot_any g N c M i m en (.func (.func 38) #[] #[.pointer (some ⟨bl, 0, none⟩)]) d w1 hO hd h1 h2 (by omega) hN
                          have HD := Lib.hid (show d1 = rotD d i m en by rw [HD1.out]; exact if_pos ⟨h1, h2⟩)
                          clear hO hd
                          go_wp2_with (fail)
                          refine hc.mono ?_
                          rintro e5 w5 ⟨rfl, hO5, hd5, hF5⟩
                          clear hc
                          go_wp2
                          go_meet
                          case rel => exact ⟨rfl, by rw [HD.out]; exact hO5, by rw [HD.out]; exact hd5, hF.trans hF5⟩
                      | false =>
                        as_aux_lemma =>
                          have HD := Lib.hid (show d1 = d by rw [HD1.out]; exact if_neg (of_decide_eq_false HB1.out.symm))
                          go_wp2
                          go_meet
                          case rel => exact ⟨rfl, by rw [HD.out]; exact hO, by rw [HD.out]; exact hd, hF⟩
                  case rest =>
                    as_aux_lemma =>
                      clear hO hF hd
                      obtain ⟨rfl, hO, hd, hF⟩ := hcut
                      generalize wc = w2 at *
                      go_upto_region 41 with (fail)
                      obtain ⟨B2, hB2⟩ : ∃ q : Bool, q = decide (a < i ∧ i < mid) := ⟨_, rfl⟩
                      go_cut [199] (fun s199 wy => s199 = .bool B2 ∧ wy = w2)
                      case first =>
                        as_aux_lemma =>
                          have hq : (¬ a < i ∧ B2 = false) ∨ (a < i ∧ ¬ i < mid ∧ B2 = false) ∨ (a < i ∧ i < mid ∧ B2 = true) := by
                            by_cases h1 : a < i
                            · by_cases h2 : i < mid
                              · exact .inr (.inr ⟨h1, h2, by rw [hB2]; exact decide_eq_true ⟨h1, h2⟩⟩)
                              · exact .inr (.inl ⟨h1, h2, by rw [hB2]; exact decide_eq_false (fun q => h2 q.2)⟩)
                            · exact .inl ⟨h1, by rw [hB2]; exact decide_eq_false (fun q => h1 q.1)⟩
                          clear hB2
                          rcases hq with ⟨h1, rfl⟩ | ⟨h1, h2, rfl⟩ | ⟨h1, h2, rfl⟩
                          all_goals
                            go_wp2
                            go_meet
                            case rel => exact ⟨rfl, rfl⟩
                      case rest =>
                        as_aux_lemma =>
                          obtain ⟨rfl, rfl⟩ := hcut
                          generalize wc = w3 at *
                          have HB2 := Lib.hid hB2
                          clear hB2
                          go_upto_if 199 with (fail)
                          go_cut [20] (fun s20 wy => s20 = .int .i64 i ∧ Ownd wy.heap 3 1 (some ⟨g, 0, none⟩) N c (ivals .i64 d2) (some g) ∧ OkD N M d2 ∧ Fr (fun k => k = g) w0 wy)
                          case first =>
                            as_aux_lemma =>
                              cases B2 with
                              | true =>
                                as_aux_lemma =>
                                  obtain ⟨h1, h2⟩ : a < i ∧ i < mid := of_decide_eq_true HB2.out.symm
                                  have hc := IH.out a i mid d1 w3 (by omega) (HC.out.fr hF) hO hd h1 h2 (by omega)
                                  have HD := Lib.hid (show d2 = symM (ltI cf) f d1 a i mid by rw [HD2.out]; exact if_pos ⟨h1, h2⟩)
                                  clear hO hd
                                  go_wp2_with (fail)
                                  refine hc.mono ?_
                                  rintro e5 w5 ⟨rfl, hO5, hd5, hF5⟩
                                  clear hc
                                  go_wp2
                                  go_meet
                                  case rel => exact ⟨rfl, by rw [HD.out]; exact hO5, by rw [HD.out]; exact hd5, hF.trans hF5⟩
                              | false =>
                                as_aux_lemma =>
                                  have HD := Lib.hid (show d2 = d1 by rw [HD2.out]; exact if_neg (of_decide_eq_false HB2.out.symm))
                                  go_wp2
                                  go_meet
                                  case rel => exact ⟨rfl, by rw [HD.out]; exact hO, by rw [HD.out]; exact hd, hF⟩
                          case rest =>
                            as_aux_lemma =>
                              clear hO hF hd
                              obtain ⟨rfl, hO, hd, hF⟩ := hcut
                              generalize wc = w4 at *
                              go_upto_region 43 with (fail)
                              obtain ⟨B3, hB3⟩ : ∃ q : Bool, q = decide (mid < en ∧ en < b) := ⟨_, rfl⟩
                              go_cut [213] (fun s213 wy => s213 = .bool B3 ∧ wy = w4)
                              case first =>
                                as_aux_lemma =>
                                  have hq : (¬ mid < en ∧ B3 = false) ∨ (mid < en ∧ ¬ en < b ∧ B3 = false) ∨ (mid < en ∧ en < b ∧ B3 = true) := by
                                    by_cases h1 : mid < en
                                    · by_cases h2 : en < b
                                      · exact .inr (.inr ⟨h1, h2, by rw [hB3]; exact decide_eq_true ⟨h1, h2⟩⟩)
                                      · exact .inr (.inl ⟨h1, h2, by rw [hB3]; exact decide_eq_false (fun q => h2 q.2)⟩)
                                    · exact .inl ⟨h1, by rw [hB3]; exact decide_eq_false (fun q => h1 q.1)⟩
                                  clear hB3
                                  rcases hq with ⟨h1, rfl⟩ | ⟨h1, h2, rfl⟩ | ⟨h1, h2, rfl⟩
                                  all_goals
                                    go_wp2
                                    go_meet
                                    case rel => exact ⟨rfl, rfl⟩
                              case rest =>
                                as_aux_lemma =>
                                  obtain ⟨rfl, rfl⟩ := hcut
                                  generalize wc = w5 at *
                                  have HB3 := Lib.hid hB3
                                  clear hB3
                                  cases B3 with
                                  | true =>
                                    as_aux_lemma =>
                                      obtain ⟨h1, h2⟩ : mid < en ∧ en < b := of_decide_eq_true HB3.out.symm
                                      have hc := IH.out mid en b d2 w5 (by omega) (HC.out.fr hF) hO hd h1 h2 hbN
                                      have HD := Lib.hid (show RES = symM (ltI cf) f d2 mid en b by rw [HR.out]; exact if_pos ⟨h1, h2⟩)
                                      clear hO hd
                                      go_wp2_with (fail)
                                      refine hc.mono ?_
                                      rintro e5 w6 ⟨rfl, hO5, hd5, hF5⟩
                                      clear hc
                                      go_wp2
                                      go_end0
                                      exact ⟨rfl, by rw [HD.out]; exact hO5, by rw [HD.out]; exact hd5, hF.trans hF5⟩
                                  | false =>
                                    as_aux_lemma =>
                                      have HD := Lib.hid (show RES = d2 by rw [HR.out]; exact if_neg (of_decide_eq_false HB3.out.symm))
                                      go_wp2
                                      go_end0
                                      exact ⟨rfl, by rw [HD.out]; exact hO, by rw [HD.out]; exact hd, hF⟩
end Go.Proofs.YtbmeeglehbaggaaDoor
