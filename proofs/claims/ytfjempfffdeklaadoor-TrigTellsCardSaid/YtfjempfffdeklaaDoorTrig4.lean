import Derived.Handy
import Derived.Test.YtfjempfffdeklaaDoorTrigW3
import Derived.Test.YtfjempfffdeklaaDoorNetSame
namespace Go.Proofs.YtfjempfffdeklaaDoor
open Go.RowKit

theorem ten_any (w : World) : Calls Tryd.prog 69 #[] w (RetV w (.agg #[.int .u32 167772160, .int .i64 8])) := by
  go_enter Tryd.func69, Tryd.ntmps69
  go_wp2
  go_returns
  exact ⟨rfl, (Fr.refl _ _).alloc _⟩

theorem trig_or {k b : Nat} (h : k = b ∨ (none : Option Nat) = some k) : k = b := h.elim id (fun h => nomatch h)
theorem noteE_new {now0 now : Int} {x : Nt} (hn : netErr x.a x.n = none) (ht : ¬ tkErr now0 now) : noteE now0 [] x now = .ok [x] := by
  unfold noteE
  rw [hn]
  simp only
  rw [if_neg ht, if_neg (by unfold nHas; simp), if_neg (by simp)]
  rfl

set_option maxRecDepth 100000 in
set_option maxHeartbeats 1000000 in
theorem noted_any (w : World) : Calls Tryd.prog 53 #[] w (RetV w (.bool true)) := by
  have k1 := IsTrig.new w 5
  have hok1 : TrigOk 5 0 (-1) [] := ⟨by omega, by omega, by omega, by omega, by omega, by omega, by simp, List.Pairwise.nil⟩
  have hn1 : noteE 0 [] ⟨167772160, 8⟩ 2 = .ok [⟨167772160, 8⟩] := noteE_new (by decide +kernel) (by decide)
  have hok2 := note_ok hok1 hn1
  go_enter Tryd.func53, Tryd.ntmps53
  go_wp2_with (go_at_call 54; refine (trigNew_ok 5 _ (by decide)).mono ?_; rintro e w' ⟨rfl, rfl⟩)
  go_wp2_with (go_at_call 69; refine (ten_any _).mono ?_)
  intro e1 w1 R1
  obtain ⟨rfl, hF1⟩ := R1
  have k2 := k1.fr0 hF1
  have hFw1 := ((Fr.refl (fun _ => False) w).alloc (.cells #[.int .i64 5, .int .i64 0, .int .i64 (-1), .slice none 0 0] 175)).trans hF1
  clear k1 hF1
  go_wp2_with (go_at_call 58; refine (note_any _ k2 hok1 ⟨167772160, 8⟩ 2 (by decide)).mono ?_)
  intro e2 w2 R2
  obtain ⟨rfl, ob2, k3, hF2, hN2⟩ := R2.okE hn1
  have hFw2 : Fr (fun _ => False) w w2 := hFw1.trans' hF2 (fun q hq h => by have := trig_or h; omega)
  clear k2 hF2 hFw1 R2
  go_wp2_with (go_at_call 57; refine (take_all _ k3 hok2 2 (by decide) (by simp) (by decide)).mono ?_)
  intro e3 w3 R3
  obtain ⟨a3, c3, rfl, hO3, k4, hF3, -⟩ := R3
  have hFw3 : Fr (fun _ => False) w w3 := hFw2.trans' hF3 (fun q hq h => by omega)
  clear hO3 k3 k4 hF3 hFw2
  go_wp2
  go_ret
  exact ⟨by simp, by simpa using hFw3⟩

theorem nt_set_n (l : List Nt) (i : Nat) (x : Int) (h : i < l.length) : (l.flatMap Nt.cells).set (i * 2 + 1) (.int .i64 x) = (l.set i ⟨(nth l i).a, x⟩).flatMap Nt.cells := by
  induction l generalizing i with
  | nil => simp at h
  | cons y l ih =>
    cases i with
    | zero => rfl
    | succ i =>
      have := ih i (by simpa using h)
      rw [nth_cons_succ, List.set_cons_succ, List.flatMap_cons, List.flatMap_cons, ← this]
      rw [List.set_append_right _ _ (by simp [Nt.cells_len]; omega)]
      congr 2
      simp [Nt.cells_len]; omega



/-- News, and what is wanted of them: nets noted, and a list of them besides. -/
structure NInv (w0 w : World) (bt : Nat) (hold now last : Int) (L : List Nt) (ob : Option Nat) (aw : Option Addr) (cw : Nat) (want wl : List Nt) (obw : Option Nat) : Prop where
  trig : IsTrig w.heap bt hold now last L ob
  ok : TrigOk hold now last L
  eq : L = ordered wl
  net : ∀ x ∈ wl, netErr x.a x.n = none ∧ 0 ≤ x.a ∧ x.a < 4294967296
  own : Own w.heap 37 2 aw want.length cw (want.flatMap Nt.cells) obw
  apart : ∀ g, ob = some g → obw ≠ some g
  apt : obw ≠ some bt
  newt : ∀ g, ob = some g → w0.heap.size ≤ g
  neww : ∀ g, obw = some g → w0.heap.size ≤ g
  bt : w0.heap.size ≤ bt
  fr : Fr (fun _ => False) w0 w
namespace NInv
variable {w0 w w' : World} {bt : Nat} {hold now now' last : Int} {L L' : List Nt} {ob ob' obw obw' : Option Nat} {aw aw' : Option Addr} {cw cw' : Nat} {want wl : List Nt}
theorem len (h : NInv w0 w bt hold now last L ob aw cw want wl obw) : wl.length ≤ 64 := by
  have := h.ok.len; rw [h.eq, ordered_len] at this; exact this
theorem fr0 (h : NInv w0 w bt hold now last L ob aw cw want wl obw) (f : Fr (fun _ => False) w w') : NInv w0 w' bt hold now last L ob aw cw want wl obw :=
  ⟨h.trig.fr0 f, h.ok, h.eq, h.net, h.own.fr f (fun _ _ h => h), h.apart, h.apt, h.newt, h.neww, h.bt, h.fr.trans f⟩
theorem note (h : NInv w0 w bt hold now last L ob aw cw want wl obw) {x : Nt} (hx : 0 ≤ x.a ∧ x.a < 4294967296) (hn : noteE now L x now' = .ok L') (hT : IsTrig w'.heap bt hold now' last L' ob') (hF : Fr (fun k => k = bt ∨ ob = some k) w w') (hN : ob' = ob ∨ ∃ g, ob' = some g ∧ w.heap.size ≤ g) :
    NInv w0 w' bt hold now' last L' ob' aw cw want (if x ∈ wl then wl else wl ++ [x]) obw := by
  obtain ⟨n1, n2, n3⟩ := noteE_ok hn
  have hmem : nHas L x ↔ x ∈ wl := by rw [nHas_iff h.ok.srt, h.eq, ordered_mem]
  have hlt := h.own.lt
  have hE : L' = ordered (if x ∈ wl then wl else wl ++ [x]) := by
    by_cases hm : x ∈ wl
    · rw [if_pos hm]
      rcases n3 with ⟨_, n3⟩ | ⟨n3, _⟩
      · rw [n3, h.eq]
      · exact absurd (hmem.2 hm) n3
    · rw [if_neg hm]
      rcases n3 with ⟨n3, _⟩ | ⟨_, _, n3⟩
      · exact absurd (hmem.1 n3) hm
      · rw [n3, ordered_snoc, ← h.eq]
  refine ⟨hT, note_ok h.ok hn, hE, fun y hy => ?_, h.own.fr hF (fun g hg hS => ?_), fun g hg hw => ?_, h.apt, fun g hg => ?_, h.neww, h.bt, h.fr.trans' hF (fun q hq hS => ?_)⟩
  · split at hy
    · exact h.net y hy
    · rcases List.mem_append.1 hy with hy | hy
      · exact h.net y hy
      · rw [List.mem_singleton.1 hy]; exact ⟨n1, hx⟩
  · rcases hS with hS | hS
    · exact h.apt (by rw [hg, hS])
    · exact h.apart g hS hg
  · rcases hN with hN | ⟨g', hN, hg'⟩
    · exact h.apart g (by rw [← hN]; exact hg) hw
    · rw [hN] at hg; cases hg; have := hlt g hw; omega
  · rcases hN with hN | ⟨g', hN, hg'⟩
    · exact h.newt g (by rw [← hN]; exact hg)
    · rw [hN] at hg; cases hg; exact Nat.le_trans h.fr.size hg'
  · rcases hS with hS | hS
    · have := h.bt; omega
    · have := h.newt q hS; omega
theorem app (h : NInv w0 w bt hold now last L ob aw cw want wl obw) (o : Obj) (x : Nt) (hO : Own w'.heap 37 2 aw' (want.length + 1) cw' (want.flatMap Nt.cells ++ Nt.cells x) obw') (hF : Fr (fun k => obw = some k) (w.alloc o) w') (hN : obw' = obw ∨ ∃ g, obw' = some g ∧ (w.alloc o).heap.size ≤ g) :
    NInv w0 w' bt hold now last L ob aw' cw' (want ++ [x]) wl obw' := by
  have hF' : Fr (fun k => obw = some k) w w' := ((Fr.refl _ w).alloc o).trans hF
  have hob : ∀ g, ob = some g → g < w.heap.size := by obtain ⟨a, c, _, h2, _⟩ := h.trig; exact h2.lt
  have hbt : bt < w.heap.size := by obtain ⟨a, c, h1, _⟩ := h.trig; exact h1.lt
  refine ⟨h.trig.fr hF' (fun k hk => ⟨fun e => h.apt (by rw [hk, e]), fun e => h.apart k e hk⟩), h.ok, h.eq, h.net, by simpa using hO, fun g hg hw => ?_, fun hw => ?_, h.newt, fun g hg => ?_, h.bt, h.fr.trans' hF' (fun q hq hS => by have := h.neww q hS; omega)⟩
  · rcases hN with hN | ⟨g', hN, hg'⟩
    · exact h.apart g hg (by rw [← hN]; exact hw)
    · rw [hN] at hw; cases hw; have := hob g hg; simp at hg'; omega
  · rcases hN with hN | ⟨g', hN, hg'⟩
    · exact h.apt (by rw [← hN]; exact hw)
    · rw [hN] at hw; cases hw; simp at hg'; omega
  · rcases hN with hN | ⟨g', hN, hg'⟩
    · exact h.neww g (by rw [← hN]; exact hg)
    · rw [hN] at hg; cases hg; simp at hg'; have := h.fr.size; omega
/-- All are taken. -/
theorem took (h : NInv w0 w bt hold now last L ob aw cw want wl obw) (hF : Fr (fun k => k = bt) w w') : Own w'.heap 37 2 aw want.length cw (want.flatMap Nt.cells) obw ∧ Fr (fun _ => False) w0 w' :=
  ⟨h.own.fr hF (fun g hg hS => h.apt (by rw [hg, hS])), h.fr.trans' hF (fun q hq hS => by have := h.bt; omega)⟩
end NInv
end Go.Proofs.YtfjempfffdeklaaDoor
