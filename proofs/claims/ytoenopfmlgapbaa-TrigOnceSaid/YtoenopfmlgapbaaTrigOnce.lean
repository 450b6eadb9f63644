import Derived.Test.YtoenopfmlgapbaaTrig4
import Derived.Test.YtoenopfmlgapbaaOrdered
namespace Go.Proofs.Ytoenopfmlgapbaa
open Go.RowKit

theorem take_first {hold now : Int} : dueAt hold now (-1) = now := if_pos (by omega)
theorem nil_of_len0 {α : Type} {l : List α} (h : ¬ 0 < l.length) : l = [] := List.eq_nil_of_length_eq_zero (by omega)

set_option maxRecDepth 100000 in
set_option maxHeartbeats 1500000 in
theorem trigOnce_any (hold : Int) (ns : List Nt) (an : Option Addr) (cn : Nat) (at_ later : Int) (w : World) (hn : Recs w.heap an 2 Nt.cells ns) (hnw : ∀ x ∈ ns, Nt.wf x) (ln : ns.length ≤ 9223372036854775807) :
    Calls Try.prog 9 #[.int .i64 hold, .slice an ns.length cn, .int .i64 at_, .int .i64 later] w (RetV w (.bool true)) := by
  go_enter Try.func9, Try.ntmps9
  go_wp2_with (go_at_call 24; refine (noted_any _).mono ?_)
  intro e0 w0 R0
  obtain ⟨rfl, hF0⟩ := R0
  by_cases hh : 0 ≤ hold ∧ hold ≤ 1000
  case neg =>
    go_wp2_with (go_at_call 25; refine (trigNew_bad hold _ (by omega)).mono ?_; rintro e w' ⟨rfl, rfl⟩)
    go_wp2
    go_ret
    exact ⟨by simp, by simpa using hF0⟩
  have hnr := hn.fr hF0 (fun _ _ _ h => h)
  have k0 : NInv w (w0.alloc (.cells #[.int .i64 hold, .int .i64 0, .int .i64 (-1), .slice none 0 0] 93)) w0.heap.size hold 0 (-1) [] none none 0 [] [] none :=
    ⟨IsTrig.new w0 hold, ⟨hh.1, hh.2, by omega, by omega, by omega, by omega, by simp, List.Pairwise.nil⟩, rfl, fun x hx => absurd hx (by simp), Own.nil _ _ _, (fun g hg => nomatch hg), (fun h => nomatch h), (fun g hg => nomatch hg), (fun g hg => nomatch hg), hF0.size, hF0.alloc _⟩
  go_wp2_with (go_at_call 25; refine (trigNew_ok hold _ hh).mono ?_; rintro e w' ⟨rfl, rfl⟩)
  obtain ⟨bt, hbt⟩ : ∃ bt, bt = w0.heap.size := ⟨_, rfl⟩
  rw [← hbt] at k0 ⊢
  clear hnr hbt
  generalize (w0.alloc (.cells #[.int .i64 hold, .int .i64 0, .int .i64 (-1), .slice none 0 0] 93)) = w1 at *
  clear hF0
  go_wp2
  go_loopw [13, 12] (fun s13 s12 wr => ∃ (i : Nat) (L : List Nt) (ob : Option Nat) (aw : Option Addr) (cw : Nat) (want : List Nt) (obw : Option Nat), i ≤ ns.length ∧ s13 = .int .i64 i ∧ s12 = .slice aw want.length cw ∧ NInv w wr bt hold 0 (-1) L ob aw cw want want obw) (fun s _ _ => ns.length - (intOf s).toNat)
  case atStart => exact ⟨0, [], none, none, 0, [], none, by omega, rfl, rfl, k0⟩
  case round =>
    obtain ⟨i, L, ob, aw, cw, want, obw, hi, rfl, rfl, hI⟩ := hrel
    clear k0
    have hlen := hI.len
    by_cases hlt : i < ns.length
    · obtain ⟨bn, on, rfl, hbn, hcn⟩ := Recs.pos hn Nt.cells_len (by omega) (by omega)
      have c0 := (hI.fr.cell (p := ⟨bn, on + (i * 2 + 0), none⟩) hbn (fun h => h)).trans (hcn w rfl i 0 hlt (by omega))
      have c1 := (hI.fr.cell (p := ⟨bn, on + (i * 2 + 1), none⟩) hbn (fun h => h)).trans (hcn w rfl i 1 hlt (by omega))
      have hx := hnw _ (nth_mem ns i hlt)
      clear hcn
      generalize nth ns i = y at *
      have hbnI : ∀ W : World, Fr (fun _ => False) w W → W.cell? ⟨bn, on + (i * 2 + 0), none⟩ = wr.cell? ⟨bn, on + (i * 2 + 0), none⟩ ∧ W.cell? ⟨bn, on + (i * 2 + 1), none⟩ = wr.cell? ⟨bn, on + (i * 2 + 1), none⟩ := fun W hW =>
        ⟨(hW.cell (p := ⟨bn, on + (i * 2 + 0), none⟩) hbn (fun h => h)).trans (hI.fr.cell (p := ⟨bn, on + (i * 2 + 0), none⟩) hbn (fun h => h)).symm, (hW.cell (p := ⟨bn, on + (i * 2 + 1), none⟩) hbn (fun h => h)).trans (hI.fr.cell (p := ⟨bn, on + (i * 2 + 1), none⟩) hbn (fun h => h)).symm⟩
      obtain ⟨xa, xn⟩ := y
      have hx2 : 0 ≤ xa ∧ xa < 4294967296 := ⟨hx.1, hx.2.1⟩
      simp only [Nt.cells, List.getElem?_cons_zero, List.getElem?_cons_succ, ← Nat.add_assoc, Nat.add_zero] at c0 c1 hbnI
      go_wp2_with (go_at_call 26; refine (note_any _ hI.trig hI.ok ⟨xa, xn⟩ 0 hx2).mono ?_)
      intro e2 w2 R2
      cases hr : noteE 0 L ⟨xa, xn⟩ 0 with
      | error q =>
        obtain ⟨rfl, hF2⟩ := R2.errE hr
        have hI2 := hI.fr0 hF2
        clear c0 c1 hbnI hI R2 hF2 hr
        go_wp2
        go_roundw
        case rel => exact ⟨i + 1, L, ob, aw, cw, want, obw, by omega, by go_num, rfl, hI2⟩
        case measure => simp [intOf]; omega
      | ok L2 =>
        obtain ⟨rfl, ob2, hT2, hF2, hN2⟩ := R2.okE hr
        have hI2 := hI.note hx2 hr hT2 hF2 hN2
        have hb2 := hbnI w2 hI2.fr
        have f0 := hb2.1.trans c0
        have f1 := hb2.2.trans c1
        clear hT2 hF2 hN2 R2 hr hI c0 c1 hb2
        go_wp2_with (go_at_call 27; refine (places_any want ⟨xa, xn⟩ aw cw _ hI2.own.rd (by omega) rfl).mono ?_)
        intro e3 w3 R3
        obtain ⟨p, rfl, hF3, hp, hp1, hp2⟩ := R3
        have hI3 := hI2.fr0 hF3
        have hb3 := hbnI w3 hI3.fr
        have hb2 := hbnI w2 hI2.fr
        have d0 := (hb3.1.trans hb2.1.symm).trans f0
        have d1 := (hb3.2.trans hb2.2.symm).trans f1
        clear hI2 hb3 hb2 f0 f1 hF3 hbnI
        by_cases hm : (⟨xa, xn⟩ : Nt) ∈ want
        · have hp3 : ¬ p < 0 := fun h => hp.1 h hm
          rw [if_pos hm] at hI3
          clear hp hm d0 d1
          go_wp2
          go_roundw
          case rel => exact ⟨i + 1, L2, ob2, aw, cw, want, obw, by omega, by go_num, rfl, hI3⟩
          case measure => simp [intOf]; omega
        · have hp3 : p < 0 := hp.2 hm
          rw [if_neg hm] at hI3
          have hrd := rd_lit w3 24 [.int .u32 xa, .int .i64 xn]
          clear hp hm
          go_wp2_with (at_builtin; refine wpList_app rfl _ _ 36 rfl Try.underlying36 infoNt rfl (by decide) rfl rfl (hI3.own.alloc _) hrd (by simp [Value.oneCell']) (by omega) (by omega) ?_)
          intro a4 c4 w4 ob4 z1 z2 z3
          have hI4 := hI3.app _ ⟨xa, xn⟩ z1 z2 (by simpa using z3)
          clear z1 z2 z3 hI3 hrd d0 d1
          go_wp2
          go_roundw
          case rel => exact ⟨i + 1, L2, ob2, a4, c4, want ++ [⟨xa, xn⟩], ob4, by omega, by go_num, by simp, hI4⟩
          case measure => simp [intOf]; omega
    · obtain rfl : i = ns.length := by omega
      clear hn hnw
      by_cases hte : tkErr 0 at_
      · have hte2 : at_ < 0 ∨ 1099511627776 < at_ := hte
        go_wp2_with (go_at_call 28; refine (take_err _ hI.trig at_ hte).mono ?_)
        intro e2 w2 R2
        obtain ⟨rfl, rfl⟩ := R2
        have hFf := hI.fr
        clear hI hte
        by_cases h1 : at_ < 0
        · clear hte2
          go_wp2
          go_ret
          exact ⟨by simp, hFf⟩
        · have h2 : 1099511627776 < at_ := by omega
          clear hte2
          go_wp2
          go_ret
          exact ⟨by simp, hFf⟩
      · have hat : 0 ≤ at_ ∧ at_ ≤ 1099511627776 := by unfold tkErr at hte; omega
        by_cases hw0 : 0 < want.length
        · have hwne : want ≠ [] := fun h => by rw [h] at hw0; simp at hw0
          have hLn : L ≠ [] := fun h => by
            have h2 : 0 = want.length := by have h3 := ordered_len want; rw [← hI.eq, h] at h3; exact h3
            omega
          go_wp2_with (go_at_call 28; refine (take_all _ hI.trig hI.ok at_ hte hLn (by rw [take_first]; omega)).mono ?_)
          intro e2 w2 R2
          obtain ⟨a2, c2, rfl, hO2, hT2, hF2, -⟩ := R2
          obtain ⟨hOw2, hFw2⟩ := hI.took hF2
          have hok2 : TrigOk hold at_ at_ [] := ⟨hI.ok.h0, hI.ok.h1, hat.1, hat.2, by omega, by omega, by simp, List.Pairwise.nil⟩
          have heq := Lib.hid hI.eq
          have hnet := hI.net
          have hbw := hI.bt
          have hapt := hI.apt
          clear hI hF2
          go_wp2_with (go_at_call 30; refine (ordered_any want aw cw _ hOw2.rd (by omega) rfl).mono ?_)
          intro e3 w3 R3
          obtain ⟨a3, c3, ob3, rfl, hO3, hF3, -⟩ := R3
          have hO2b := (hO2.fr hF3 (fun _ _ h => h)).rd
          have hT3 := hT2.fr0 hF3
          have hOw3 := hOw2.fr hF3 (fun _ _ h => h)
          have hFw3 := hFw2.trans hF3
          have hr3 := hO3.rd
          rw [← ordered_len want] at hr3
          have hLl := Lib.hid (show L.length = want.length by rw [heq.out, ordered_len])
          clear hO2 hT2 hOw2 hFw2 hF3 hO3
          go_wp2_with (go_at_call 29; refine (snets_any L (ordered want) a2 a3 c2 c3 _ hO2b hr3 (by have := hLl.out; omega) (by rw [ordered_len]; omega) rfl (by rw [ordered_len])).mono ?_)
          intro e4 w4 R4
          rw [decide_eq_true heq.out] at R4
          obtain ⟨rfl, n4, rfl⟩ := R4
          have hD4 := (Fr.refl (fun _ => False) w3).drewN n4
          have hT4 := hT3.fr0 hD4
          have hOw4 := hOw3.fr hD4 (fun _ _ h => h)
          have hFw4 := hFw3.trans hD4
          clear hO2b hr3 hT3 hOw3 hFw3 hD4 hLn heq hLl
          obtain ⟨gw, rfl, rfl, hgw, hcw, -⟩ := hOw4.pos hw0
          have p0 := (hcw (0 * 2 + 0) (by omega)).trans (flat_get _ 2 Nt.cells_len want 0 0 hw0 (by omega))
          have p1 := (hcw (0 * 2 + 1) (by omega)).trans (flat_get _ 2 Nt.cells_len want 0 1 hw0 (by omega))
          have hx := hnet _ (nth_mem want 0 hw0)
          clear hcw hnet hOw4
          generalize nth want 0 = y at *
          obtain ⟨xa, xn⟩ := y
          simp only [Nt.cells, List.getElem?_cons_zero, List.getElem?_cons_succ, Nat.zero_mul, Nat.add_zero, Nat.zero_add] at p0 p1
          have hn4 : noteE at_ [] ⟨xa, xn⟩ at_ = .ok [⟨xa, xn⟩] := noteE_new hx.1 (by unfold tkErr; omega)
          have hok5 := note_ok hok2 hn4
          have hgb : gw ≠ bt := fun h => hapt (by rw [h])
          go_wp2_with (go_at_call 26; refine (note_any _ hT4 hok2 ⟨xa, xn⟩ at_ hx.2).mono ?_)
          intro e5 w5 R5
          obtain ⟨rfl, ob5, hT5, hF5, hN5⟩ := R5.okE hn4
          have hFw5 : Fr (fun _ => False) w w5 := hFw4.trans' hF5 (fun q hq hS => by have := trig_or hS; omega)
          have q0 := (hF5.cell (p := ⟨gw, 0, none⟩) hgw (fun hS => hgb (trig_or hS))).trans p0
          have q1 := (hF5.cell (p := ⟨gw, 1, none⟩) hgw (fun hS => hgb (trig_or hS))).trans p1
          have hgw5 : gw < w5.heap.size := Nat.lt_of_lt_of_le hgw hF5.size
          clear hn4 R5 hF5 hT4 hFw4 hok2 p0 p1 hgw hN5 hx
          by_cases htl : tkErr at_ later
          · have htl2 : later < at_ ∨ 1099511627776 < later := htl
            go_wp2_with (go_at_call 28; refine (take_err _ hT5 later htl).mono ?_)
            intro e6 w6 R6
            obtain ⟨rfl, rfl⟩ := R6
            clear hT5 htl hok5 q0 q1
            by_cases h1 : later < at_
            · clear htl2
              go_wp2
              go_ret
              exact ⟨by simp, hFw5⟩
            · have h2 : 1099511627776 < later := by omega
              clear htl2
              go_wp2
              go_ret
              exact ⟨by simp, hFw5⟩
          · have hlt2 : at_ ≤ later ∧ later ≤ 1099511627776 := by unfold tkErr at htl; omega
            by_cases hd : later - at_ < hold
            · have hdue : later < dueAt hold later at_ := by unfold dueAt; rw [if_neg (by omega), if_pos (by omega)]; omega
              go_wp2_with (go_at_call 28; refine (take_wait _ hT5 hok5 later htl (by simp) hdue).mono ?_)
              intro e6 w6 R6
              obtain ⟨rfl, -, hF6⟩ := R6
              have hFw6 : Fr (fun _ => False) w w6 := hFw5.trans' hF6 (fun q hq hS => by omega)
              clear hF6 hdue hT5 hok5 q0 q1 hFw5 htl
              go_wp2
              go_ret
              exact ⟨by simp, hFw6⟩
            · have hdue := Lib.hid (show ¬ later < dueAt hold later at_ by unfold dueAt; rw [if_neg (by omega), if_neg (by omega)]; omega)
              go_wp2_with (go_at_call 28; refine (take_all _ hT5 hok5 later htl (by simp) (by have := hdue.out; omega)).mono ?_)
              intro e6 w6 R6
              obtain ⟨a6, c6, he6, hO6, -, hF6, -⟩ := R6
              rw [show ([⟨xa, xn⟩] : List Nt).length = 1 from rfl] at he6 hO6
              subst he6
              have hFw6 : Fr (fun _ => False) w w6 := hFw5.trans' hF6 (fun q hq hS => by omega)
              have u0 := (hF6.cell (p := ⟨gw, 0, none⟩) hgw5 hgb).trans q0
              have u1 := (hF6.cell (p := ⟨gw, 1, none⟩) hgw5 hgb).trans q1
              obtain ⟨g6, rfl, rfl, -, hc6, -⟩ := hO6.pos (by omega)
              have v0 : w6.cell? ⟨g6, 0, none⟩ = some (.int .u32 xa) := hc6 0 (by omega)
              have v1 : w6.cell? ⟨g6, 1, none⟩ = some (.int .i64 xn) := hc6 1 (by omega)
              have e1 : (xa == xa) = true := by simp
              have e2 : (xn == xn) = true := by simp
              clear hF6 hdue hT5 hok5 q0 q1 hFw5 htl hc6 hO6 hgw5 hgb hapt
              have hz : ((want.length : Int) == 0) = false := by simp; exact hwne
              go_wp2
              go_quiet (fail)
              go_wp2
              go_ret
              exact ⟨by simp, hFw6.drewN _⟩
        · have hwe : want = [] := nil_of_len0 hw0
          have hw1 : want.length = 0 := by omega
          obtain rfl : L = [] := by rw [hI.eq, hwe]; rfl
          have heq := Lib.hid (show ([] : List Nt) = ordered want from hI.eq)
          have hbw := hI.bt
          go_wp2_with (go_at_call 28; refine (take_nil _ hI.trig at_ hte).mono ?_)
          intro e2 w2 R2
          obtain ⟨rfl, hT2, hF2⟩ := R2
          obtain ⟨hOw2, hFw2⟩ := hI.took hF2
          clear hI hF2 hwe hte
          go_wp2_with (go_at_call 30; refine (ordered_any want aw cw _ hOw2.rd (by omega) hw1.symm).mono ?_)
          intro e3 w3 R3
          obtain ⟨a3, c3, ob3, rfl, hO3, hF3, -⟩ := R3
          have hT3 := hT2.fr0 hF3
          have hFw3 := hFw2.trans hF3
          have hr3 := hO3.rd
          rw [← ordered_len want] at hr3
          clear hT2 hOw2 hFw2 hF3 hO3
          go_wp2_with (go_at_call 29; refine (snets_any [] (ordered want) none a3 0 c3 _ (Rd.nil _ _ _) hr3 (by simp) (by rw [ordered_len]; omega) rfl (by simp [ordered_len, hw1])).mono ?_)
          intro e4 w4 R4
          rw [decide_eq_true heq.out] at R4
          obtain ⟨rfl, n4, rfl⟩ := R4
          have hD4 := (Fr.refl (fun _ => False) w3).drewN n4
          have hT4 := hT3.fr0 hD4
          have hFw4 := hFw3.trans hD4
          clear hr3 hT3 hFw3 hD4 heq
          by_cases htl : tkErr at_ later
          · have htl2 : later < at_ ∨ 1099511627776 < later := htl
            go_wp2_with (go_at_call 28; refine (take_err _ hT4 later htl).mono ?_)
            intro e6 w6 R6
            obtain ⟨rfl, rfl⟩ := R6
            clear hT4 htl
            by_cases h1 : later < at_
            · clear htl2
              go_wp2
              go_ret
              exact ⟨by simp, hFw4⟩
            · have h2 : 1099511627776 < later := by omega
              clear htl2
              go_wp2
              go_ret
              exact ⟨by simp, hFw4⟩
          · go_wp2_with (go_at_call 28; refine (take_nil _ hT4 later htl).mono ?_)
            intro e6 w6 R6
            obtain ⟨rfl, -, hF6⟩ := R6
            have hFw6 : Fr (fun _ => False) w w6 := hFw4.trans' hF6 (fun q hq hS => by omega)
            clear hF6 hT4 hFw4 htl
            go_wp2
            go_ret
            exact ⟨by simp, hFw6⟩
end Go.Proofs.Ytoenopfmlgapbaa
