import Derived.Test.YtoenopfmlgapbaaTrig4
import Derived.Test.YtoenopfmlgapbaaOrdered
namespace Go.Proofs.Ytoenopfmlgapbaa
open Go.RowKit

/-- As NInv, but what was there at first may hold the news itself: news, and what is wanted of them: nets noted, and a list of them besides. -/
structure NInvS (w0 w : World) (bt : Nat) (hold now last : Int) (L : List Nt) (ob : Option Nat) (aw : Option Addr) (cw : Nat) (want wl : List Nt) (obw : Option Nat) : Prop where
  trig : IsTrig w.heap bt hold now last L ob
  ok : TrigOk hold now last L
  eq : L = ordered wl
  net : ∀ x ∈ wl, netErr x.a x.n = none ∧ 0 ≤ x.a ∧ x.a < 4294967296
  own : Own w.heap 24 2 aw want.length cw (want.flatMap Nt.cells) obw
  apart : ∀ g, ob = some g → obw ≠ some g
  apt : obw ≠ some bt
  newt : ∀ g, ob = some g → w0.heap.size ≤ g
  neww : ∀ g, obw = some g → w0.heap.size ≤ g
  fr : Fr (fun k => k = bt) w0 w
namespace NInvS
variable {w0 w w' : World} {bt : Nat} {hold now now' last : Int} {L L' : List Nt} {ob ob' obw obw' : Option Nat} {aw aw' : Option Addr} {cw cw' : Nat} {want wl : List Nt}
theorem len (h : NInvS w0 w bt hold now last L ob aw cw want wl obw) : wl.length ≤ 64 := by
  have := h.ok.len; rw [h.eq, ordered_len] at this; exact this
theorem fr0 (h : NInvS w0 w bt hold now last L ob aw cw want wl obw) (f : Fr (fun _ => False) w w') : NInvS w0 w' bt hold now last L ob aw cw want wl obw :=
  ⟨h.trig.fr0 f, h.ok, h.eq, h.net, h.own.fr f (fun _ _ h => h), h.apart, h.apt, h.newt, h.neww, h.fr.trans (f.none _)⟩
theorem note (h : NInvS w0 w bt hold now last L ob aw cw want wl obw) {x : Nt} (hx : 0 ≤ x.a ∧ x.a < 4294967296) (hn : noteE now L x now' = .ok L') (hT : IsTrig w'.heap bt hold now' last L' ob') (hF : Fr (fun k => k = bt ∨ ob = some k) w w') (hN : ob' = ob ∨ ∃ g, ob' = some g ∧ w.heap.size ≤ g) :
    NInvS w0 w' bt hold now' last L' ob' aw cw want (if x ∈ wl then wl else wl ++ [x]) obw := by
  obtain ⟨n1, n2, n3⟩ := noteE_ok hn
  have hmem : nHas L x ↔ x ∈ wl := by rw [nHas_iff h.ok.srt, h.eq, ordered_mem]
  have hlt := h.own.lt
  have hE : L' = ordered (if x ∈ wl then wl else wl ++ [x]) := by
    by_cases hm : x ∈ wl
    · rw [if_pos hm]
      rcases n3 with ⟨_, n3⟩ | ⟨n3, _⟩
      · rw [n3, h.eq]
      · exact absurd (hmem.2 hm) n3
    · rw [if_neg hm]
      rcases n3 with ⟨n3, _⟩ | ⟨_, _, n3⟩
      · exact absurd (hmem.1 n3) hm
      · rw [n3, ordered_snoc, ← h.eq]
  refine ⟨hT, note_ok h.ok hn, hE, fun y hy => ?_, h.own.fr hF (fun g hg hS => ?_), fun g hg hw => ?_, h.apt, fun g hg => ?_, h.neww, h.fr.trans' hF (fun q hq hS => ?_)⟩
  · split at hy
    · exact h.net y hy
    · rcases List.mem_append.1 hy with hy | hy
      · exact h.net y hy
      · rw [List.mem_singleton.1 hy]; exact ⟨n1, hx⟩
  · rcases hS with hS | hS
    · exact h.apt (by rw [hg, hS])
    · exact h.apart g hS hg
  · rcases hN with hN | ⟨g', hN, hg'⟩
    · exact h.apart g (by rw [← hN]; exact hg) hw
    · rw [hN] at hg; cases hg; have := hlt g hw; omega
  · rcases hN with hN | ⟨g', hN, hg'⟩
    · exact h.newt g (by rw [← hN]; exact hg)
    · rw [hN] at hg; cases hg; exact Nat.le_trans h.fr.size hg'
  · rcases hS with hS | hS
    · exact hS
    · have := h.newt q hS; omega
theorem app (h : NInvS w0 w bt hold now last L ob aw cw want wl obw) (o : Obj) (x : Nt) (hO : Own w'.heap 24 2 aw' (want.length + 1) cw' (want.flatMap Nt.cells ++ Nt.cells x) obw') (hF : Fr (fun k => obw = some k) (w.alloc o) w') (hN : obw' = obw ∨ ∃ g, obw' = some g ∧ (w.alloc o).heap.size ≤ g) :
    NInvS w0 w' bt hold now last L ob aw' cw' (want ++ [x]) wl obw' := by
  have hF' : Fr (fun k => obw = some k) w w' := ((Fr.refl _ w).alloc o).trans hF
  have hob : ∀ g, ob = some g → g < w.heap.size := by obtain ⟨a, c, _, h2, _⟩ := h.trig; exact h2.lt
  have hbt : bt < w.heap.size := by obtain ⟨a, c, h1, _⟩ := h.trig; exact h1.lt
  refine ⟨h.trig.fr hF' (fun k hk => ⟨fun e => h.apt (by rw [hk, e]), fun e => h.apart k e hk⟩), h.ok, h.eq, h.net, by simpa using hO, fun g hg hw => ?_, fun hw => ?_, h.newt, fun g hg => ?_, h.fr.trans' hF' (fun q hq hS => by have := h.neww q hS; omega)⟩
  · rcases hN with hN | ⟨g', hN, hg'⟩
    · exact h.apart g hg (by rw [← hN]; exact hw)
    · rw [hN] at hw; cases hw; have := hob g hg; simp at hg'; omega
  · rcases hN with hN | ⟨g', hN, hg'⟩
    · exact h.apt (by rw [← hN]; exact hw)
    · rw [hN] at hw; cases hw; simp at hg'; omega
  · rcases hN with hN | ⟨g', hN, hg'⟩
    · exact h.neww g (by rw [← hN]; exact hg)
    · rw [hN] at hg; cases hg; simp at hg'; have := h.fr.size; omega
theorem spoiled (h : NInvS w0 w bt hold now last L ob aw cw want wl obw) {obA : Option Nat} (f : Fr (fun k => obA = some k) w w') (hA : ∀ g, obA = some g → g < w0.heap.size) (hb : obA ≠ some bt) :
    IsTrig w'.heap bt hold now last L ob ∧ Own w'.heap 24 2 aw want.length cw (want.flatMap Nt.cells) obw :=
  ⟨h.trig.fr f (fun k hk => ⟨fun e => hb (by rw [hk, e]), fun e => by have := hA k hk; have := h.newt k e; omega⟩), h.own.fr f (fun g hg hS => by have := hA g hS; have := h.neww g hg; omega)⟩
end NInvS

theorem Fr.fr2 {w B w' : World} {bt : Nat} (h : Fr (fun _ => False) w B) (k : Fr (fun k => k = bt) B w') (hb : w.heap.size ≤ bt) : Fr (fun _ => False) w w' := h.trans' k (fun q hq hS => by omega)

/-- What is taken, where nothing is held back. -/
def TakePost (w : World) (bt : Nat) (now : Int) (l : List Nt) (ob : Option Nat) (e : Ending) (w' : World) : Prop :=
  ∃ A c obA last' ob', e = .returned (.tuple #[.slice A l.length c, .nilIface]) ∧ Own w'.heap 24 2 A l.length c (l.flatMap Nt.cells) obA ∧ IsTrig w'.heap bt 0 now last' [] ob' ∧ Fr (fun k => k = bt) w w' ∧ TrigOk 0 now last' [] ∧ ((obA = none ∧ ob' = ob) ∨ (obA = ob ∧ ob' = none)) ∧ obA ≠ some bt
theorem take_any0 {bt : Nat} {now0 last : Int} {l : List Nt} {ob : Option Nat} (w : World) (hR : IsTrig w.heap bt 0 now0 last l ob) (hok : TrigOk 0 now0 last l) (now : Int) (h : ¬ tkErr now0 now) : Calls Try.prog 28 #[.pointer (some ⟨bt, 0, none⟩), .int .i64 now] w (TakePost w bt now l ob) := by
  obtain ⟨q1, q2, q3, q4, q5, q6, q7, q8⟩ := hok
  have hn : now0 ≤ now ∧ now ≤ 1099511627776 := by unfold tkErr at h; omega
  by_cases hl : l = []
  · subst hl
    refine (take_nil w hR now h).mono ?_
    rintro e w' ⟨rfl, h1, h2⟩
    exact ⟨none, 0, none, last, ob, rfl, Own.nil _ _ _, h1, h2, ⟨by omega, by omega, by omega, by omega, q5, by omega, by simp, List.Pairwise.nil⟩, .inl ⟨rfl, rfl⟩, fun h => nomatch h⟩
  · have hd : ¬ now < dueAt 0 now last := by
      unfold dueAt
      split
      · omega
      · split <;> omega
    refine (take_all w hR ⟨q1, q2, q3, q4, q5, q6, q7, q8⟩ now h hl hd).mono ?_
    rintro e w' ⟨a, c, rfl, h1, h2, h3, h4⟩
    exact ⟨a, c, ob, now, none, rfl, h1, h2, h3, ⟨by omega, by omega, by omega, by omega, by omega, by omega, by simp, List.Pairwise.nil⟩, .inr ⟨rfl, rfl⟩, h4⟩

/-- What is taken first stands in the asker's own memory. -/
theorem took_first {w wr w' : World} {bt : Nat} {last last' now : Int} {L wl : List Nt} {ob obA ob' : Option Nat} {A : Option Addr} {c : Nat} (hI : NInv w wr bt 0 0 last L ob none 0 [] wl none)
    (hO : Own w'.heap 24 2 A L.length c (L.flatMap Nt.cells) obA) (hT : IsTrig w'.heap bt 0 now last' [] ob') (hF : Fr (fun k => k = bt) wr w') (hok : TrigOk 0 now last' []) (hor : (obA = none ∧ ob' = ob) ∨ (obA = ob ∧ ob' = none)) (hb : obA ≠ some bt) :
    ∃ B, Fr (fun _ => False) w B ∧ (∀ g, obA = some g → g < B.heap.size) ∧ (∀ g, obA = some g → w.heap.size ≤ g) ∧ Own B.heap 24 2 A L.length c (L.flatMap Nt.cells) obA ∧ NInvS B w' bt 0 now last' [] ob' none 0 [] [] none := by
  have hF' : Fr (fun _ => False) w w' := hI.fr.trans' hF (fun q hq hS => by have := hI.bt; omega)
  rcases hor with ⟨rfl, rfl⟩ | ⟨rfl, rfl⟩
  · refine ⟨w, Fr.refl _ _, (fun g hg => nomatch hg), (fun g hg => nomatch hg), ⟨hO.len, ?_⟩, hT, hok, rfl, (fun x hx => absurd hx (by simp)), Own.nil _ _ _, (fun g _ h => nomatch h), (fun h => nomatch h), hI.newt, (fun g h => nomatch h), hF'.none _⟩
    rcases hO.is with h | ⟨g, _, _, h, _⟩
    · exact .inl h
    · cases h
  · exact ⟨w', hF', hO.lt, hI.newt, hO, hT, hok, rfl, (fun x hx => absurd hx (by simp)), Own.nil _ _ _, (fun g _ h => nomatch h), (fun h => nomatch h), (fun g h => nomatch h), (fun g h => nomatch h), Fr.refl _ _⟩

set_option maxRecDepth 100000 in
set_option maxHeartbeats 1500000 in
theorem trigOwn_any (ns ms : List Nt) (an am : Option Addr) (cn cm : Nat) (x : Int) (w : World) (hn : Recs w.heap an 2 Nt.cells ns) (hm : Recs w.heap am 2 Nt.cells ms) (hnw : ∀ x ∈ ns, Nt.wf x) (hmw : ∀ x ∈ ms, Nt.wf x) (ln : ns.length ≤ 9223372036854775807) (lm : ms.length ≤ 9223372036854775807) :
    Calls Try.prog 10 #[.slice an ns.length cn, .slice am ms.length cm, .int .i64 x] w (RetV w (.bool true)) := by
  have k0 : NInv w (w.alloc (.cells #[.int .i64 0, .int .i64 0, .int .i64 (-1), .slice none 0 0] 93)) w.heap.size 0 0 (-1) [] none none 0 [] [] none :=
    ⟨IsTrig.new w 0, ⟨by omega, by omega, by omega, by omega, by omega, by omega, by simp, List.Pairwise.nil⟩, rfl, fun x hx => absurd hx (by simp), Own.nil _ _ _, (fun g hg => nomatch hg), (fun h => nomatch h), (fun g hg => nomatch hg), (fun g hg => nomatch hg), Nat.le_refl _, (Fr.refl _ _).alloc _⟩
  go_enter Try.func10, Try.ntmps10
  go_wp2_with (go_at_call 25; refine (trigNew_ok 0 _ (by decide)).mono ?_; rintro e w' ⟨rfl, rfl⟩)
  obtain ⟨bt, hbt⟩ : ∃ bt, bt = w.heap.size := ⟨_, rfl⟩
  rw [← hbt] at k0 ⊢
  replace hbt : w.heap.size ≤ bt := by omega
  generalize (w.alloc (.cells #[.int .i64 0, .int .i64 0, .int .i64 (-1), .slice none 0 0] 93)) = w1 at *
  go_wp2
  go_loopw [10] (fun s10 wr => ∃ (i : Nat) (L : List Nt) (ob : Option Nat) (wl : List Nt), i ≤ ns.length ∧ s10 = .int .i64 i ∧ NInv w wr bt 0 0 (-1) L ob none 0 [] wl none) (fun s _ => ns.length - (intOf s).toNat)
  case atStart => exact ⟨0, [], none, [], by omega, rfl, k0⟩
  case round =>
    obtain ⟨i, L, ob, wl, hi, rfl, hI⟩ := hrel
    clear k0
    by_cases hlt : i < ns.length
    · obtain ⟨bn, on, rfl, hbn, hcn⟩ := Recs.pos hn Nt.cells_len (by omega) (by omega)
      have c0 := (hI.fr.cell (p := ⟨bn, on + (i * 2 + 0), none⟩) hbn (fun h => h)).trans (hcn w rfl i 0 hlt (by omega))
      have c1 := (hI.fr.cell (p := ⟨bn, on + (i * 2 + 1), none⟩) hbn (fun h => h)).trans (hcn w rfl i 1 hlt (by omega))
      have hx := hnw _ (nth_mem ns i hlt)
      clear hcn
      generalize nth ns i = y at *
      obtain ⟨xa, xn⟩ := y
      have hx2 : 0 ≤ xa ∧ xa < 4294967296 := ⟨hx.1, hx.2.1⟩
      simp only [Nt.cells, List.getElem?_cons_zero, List.getElem?_cons_succ, ← Nat.add_assoc, Nat.add_zero] at c0 c1
      go_wp2_with (go_at_call 26; refine (note_any _ hI.trig hI.ok ⟨xa, xn⟩ 0 hx2).mono ?_)
      intro e2 w2 R2
      cases hr : noteE 0 L ⟨xa, xn⟩ 0 with
      | error q =>
        obtain ⟨rfl, hF2⟩ := R2.errE hr
        have hI2 := hI.fr0 hF2
        clear c0 c1 hI R2 hF2 hr
        go_wp2
        go_roundw
        case rel => exact ⟨i + 1, L, ob, wl, by omega, by go_num, hI2⟩
        case measure => simp [intOf]; omega
      | ok L2 =>
        obtain ⟨rfl, ob2, hT2, hF2, hN2⟩ := R2.okE hr
        have hI2 := hI.note hx2 hr hT2 hF2 hN2
        clear hT2 hF2 hN2 R2 hr hI c0 c1
        go_wp2
        go_roundw
        case rel => exact ⟨i + 1, L2, ob2, _, by omega, by go_num, hI2⟩
        case measure => simp [intOf]; omega
    · obtain rfl : i = ns.length := by omega
      clear hn hnw
      go_wp2_with (go_at_call 28; refine (take_any0 _ hI.trig hI.ok 1 (by decide)).mono ?_)
      intro e2 w2 R2
      obtain ⟨A, cA, obA, last, ob1, rfl, hOA, hT2, hF2, hok2, hor, hAb⟩ := R2
      have hLl : L.length ≤ 64 := hI.ok.len
      obtain ⟨B, hFB, hAB, hAw, hOB, k2⟩ := took_first hI hOA hT2 hF2 hok2 hor hAb
      clear hOA hT2 hF2 hok2 hor hI hlt
      obtain ⟨Lc, hLc⟩ : ∃ Lc, Lc = L := ⟨L, rfl⟩
      subst hLc
      go_wp2
      go_loopw [13, 9] (fun s13 s9 wr => ∃ (i : Nat) (now : Int) (L : List Nt) (ob : Option Nat) (aw : Option Addr) (cw : Nat) (want : List Nt) (obw : Option Nat), i ≤ ms.length ∧ now ≤ 1 ∧ s13 = .int .i64 i ∧ s9 = .slice aw want.length cw ∧ NInvS B wr bt 0 now last L ob aw cw want want obw) (fun s _ _ => ms.length - (intOf s).toNat)
      case atStart => exact ⟨0, 1, [], ob1, none, 0, [], none, by omega, by omega, rfl, rfl, k2⟩
      case round =>
        obtain ⟨i, now, L, ob, aw, cw, want, obw, hi, hnow, rfl, rfl, hI⟩ := hrel
        clear k2
        have hlen := hI.len
        by_cases hlt : i < ms.length
        · obtain ⟨bn, on, rfl, hbn, hcn⟩ := Recs.pos hm Nt.cells_len (by omega) (by omega)
          have c0 := ((Fr.fr2 hFB hI.fr hbt).cell (p := ⟨bn, on + (i * 2 + 0), none⟩) hbn (fun h => h)).trans (hcn w rfl i 0 hlt (by omega))
          have c1 := ((Fr.fr2 hFB hI.fr hbt).cell (p := ⟨bn, on + (i * 2 + 1), none⟩) hbn (fun h => h)).trans (hcn w rfl i 1 hlt (by omega))
          have hx := hmw _ (nth_mem ms i hlt)
          clear hcn
          generalize nth ms i = y at *
          have hbnI : ∀ W : World, Fr (fun _ => False) w W → W.cell? ⟨bn, on + (i * 2 + 0), none⟩ = wr.cell? ⟨bn, on + (i * 2 + 0), none⟩ ∧ W.cell? ⟨bn, on + (i * 2 + 1), none⟩ = wr.cell? ⟨bn, on + (i * 2 + 1), none⟩ := fun W hW =>
            ⟨(hW.cell (p := ⟨bn, on + (i * 2 + 0), none⟩) hbn (fun h => h)).trans ((Fr.fr2 hFB hI.fr hbt).cell (p := ⟨bn, on + (i * 2 + 0), none⟩) hbn (fun h => h)).symm, (hW.cell (p := ⟨bn, on + (i * 2 + 1), none⟩) hbn (fun h => h)).trans ((Fr.fr2 hFB hI.fr hbt).cell (p := ⟨bn, on + (i * 2 + 1), none⟩) hbn (fun h => h)).symm⟩
          obtain ⟨xa, xn⟩ := y
          have hx2 : 0 ≤ xa ∧ xa < 4294967296 := ⟨hx.1, hx.2.1⟩
          simp only [Nt.cells, List.getElem?_cons_zero, List.getElem?_cons_succ, ← Nat.add_assoc, Nat.add_zero] at c0 c1 hbnI
          go_wp2_with (go_at_call 26; refine (note_any _ hI.trig hI.ok ⟨xa, xn⟩ 1 hx2).mono ?_)
          intro e2 w2 R2
          cases hr : noteE now L ⟨xa, xn⟩ 1 with
          | error q =>
            obtain ⟨rfl, hF2⟩ := R2.errE hr
            have hI2 := hI.fr0 hF2
            clear c0 c1 hbnI hI R2 hF2 hr
            go_wp2
            go_roundw
            case rel => exact ⟨i + 1, now, L, ob, aw, cw, want, obw, by omega, by omega, by go_num, rfl, hI2⟩
            case measure => simp [intOf]; omega
          | ok L2 =>
            obtain ⟨rfl, ob2, hT2, hF2, hN2⟩ := R2.okE hr
            have hI2 := hI.note hx2 hr hT2 hF2 hN2
            have hb2 := hbnI w2 (Fr.fr2 hFB hI2.fr hbt)
            have f0 := hb2.1.trans c0
            have f1 := hb2.2.trans c1
            clear hT2 hF2 hN2 R2 hr hI c0 c1 hb2
            go_wp2_with (go_at_call 27; refine (places_any want ⟨xa, xn⟩ aw cw _ hI2.own.rd (by omega) rfl).mono ?_)
            intro e3 w3 R3
            obtain ⟨p, rfl, hF3, hp, hp1, hp2⟩ := R3
            have hI3 := hI2.fr0 hF3
            have hb3 := hbnI w3 (Fr.fr2 hFB hI3.fr hbt)
            have hb2 := hbnI w2 (Fr.fr2 hFB hI2.fr hbt)
            have d0 := (hb3.1.trans hb2.1.symm).trans f0
            have d1 := (hb3.2.trans hb2.2.symm).trans f1
            clear hI2 hb3 hb2 f0 f1 hF3 hbnI
            by_cases hmem : (⟨xa, xn⟩ : Nt) ∈ want
            · have hp3 : ¬ p < 0 := fun h => hp.1 h hmem
              rw [if_pos hmem] at hI3
              clear hp hmem d0 d1
              go_wp2
              go_roundw
              case rel => exact ⟨i + 1, 1, L2, ob2, aw, cw, want, obw, by omega, by omega, by go_num, rfl, hI3⟩
              case measure => simp [intOf]; omega
            · have hp3 : p < 0 := hp.2 hmem
              rw [if_neg hmem] at hI3
              have hrd := rd_lit w3 24 [.int .u32 xa, .int .i64 xn]
              clear hp hmem
              go_wp2_with (at_builtin; refine wpList_app rfl _ _ 36 rfl Try.underlying36 infoNt rfl (by decide) rfl rfl (hI3.own.alloc _) hrd (by simp [Value.oneCell']) (by omega) (by omega) ?_)
              intro a4 c4 w4 ob4 z1 z2 z3
              have hI4 := hI3.app _ ⟨xa, xn⟩ z1 z2 (by simpa using z3)
              clear z1 z2 z3 hI3 hrd d0 d1
              go_wp2
              go_roundw
              case rel => exact ⟨i + 1, 1, L2, ob2, a4, c4, want ++ [⟨xa, xn⟩], ob4, by omega, by omega, by go_num, by simp, hI4⟩
              case measure => simp [intOf]; omega
        · obtain rfl : i = ms.length := by omega
          clear hm hmw
          have hOr := hOB.fr hI.fr (fun g hg hS => hAb (by rw [hg, hS]))
          go_wp2_with (go_at_call 31; refine (spoilNets_any obA A cA Lc x _ rfl hOr).mono ?_)
          intro e3 w3 R3
          obtain ⟨rfl, hF3⟩ := R3
          obtain ⟨hT3, hOw3⟩ := hI.spoiled hF3 hAB hAb
          have hFw3 : Fr (fun _ => False) w w3 := (Fr.fr2 hFB hI.fr hbt).trans' hF3 (fun q hq hS => by have := hAw q hS; omega)
          have hok3 := hI.ok
          have heq := Lib.hid hI.eq
          have hapt := hI.apt
          have hLl := Lib.hid (show L.length = want.length by rw [hI.eq, ordered_len])
          clear hI hF3 hOr hOB hFB hAB hAw
          go_wp2_with (go_at_call 28; refine (take_any0 _ hT3 hok3 2 (by unfold tkErr; omega)).mono ?_)
          intro e4 w4 R4
          obtain ⟨A4, c4, obA4, last4, ob4, rfl, hO4, hT4, hF4, hok4, -, hb4⟩ := R4
          have hOw4 := (hOw3.fr hF4 (fun g hg hS => hapt (by rw [hg, hS]))).rd
          have hFw4 : Fr (fun _ => False) w w4 := hFw3.trans' hF4 (fun q hq hS => by omega)
          clear hT3 hOw3 hFw3 hF4 hok3
          go_wp2_with (go_at_call 30; refine (ordered_any want aw cw _ hOw4 (by omega) rfl).mono ?_)
          intro e5 w5 R5
          obtain ⟨a5, c5, ob5, rfl, hO5, hF5, -⟩ := R5
          have hO4b := (hO4.fr hF5 (fun _ _ h => h)).rd
          have hT5 := hT4.fr0 hF5
          have hFw5 := hFw4.trans hF5
          have hr5 := hO5.rd
          rw [← ordered_len want] at hr5
          clear hO4 hT4 hOw4 hFw4 hF5 hO5
          go_wp2_with (go_at_call 29; refine (snets_any L (ordered want) A4 a5 c4 c5 _ hO4b hr5 (by have := hLl.out; omega) (by rw [ordered_len]; omega) rfl (by rw [ordered_len])).mono ?_)
          intro e6 w6 R6
          rw [decide_eq_true heq.out] at R6
          obtain ⟨rfl, n6, rfl⟩ := R6
          have hD6 := (Fr.refl (fun _ => False) w5).drewN n6
          have hT6 := hT5.fr0 hD6
          have hFw6 := hFw5.trans hD6
          clear hO4b hr5 hT5 hFw5 hD6 heq hLl
          go_wp2_with (go_at_call 28; refine (take_any0 _ hT6 hok4 3 (by decide)).mono ?_)
          intro e7 w7 R7
          obtain ⟨A7, c7, obA7, last7, ob7, he7, -, -, hF7, -, -, -⟩ := R7
          rw [show ([] : List Nt).length = 0 from rfl] at he7
          subst he7
          have hFw7 : Fr (fun _ => False) w w7 := hFw6.trans' hF7 (fun q hq hS => by omega)
          clear hT6 hFw6 hF7 hok4
          go_wp2
          go_ret
          exact ⟨by simp, hFw7⟩
end Go.Proofs.Ytoenopfmlgapbaa
