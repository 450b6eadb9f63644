import Derived.Test.YtfjempfffdeklaaDoorEngShow
import Derived.Test.YtfjempfffdeklaaDoorEngGet
namespace Go.Proofs.YtfjempfffdeklaaDoor
open Go.RowKit Go.Maps
/-- Ways in new memory, each with a list of its own. -/
structure Alls (base : Nat) (H : Array Obj) (R : List BestR) (aR : Option Addr) (cR : Nat) (ob : Option Nat) : Prop where
  own : Own H 40 4 aR R.length cR (R.flatMap BestR.cells) ob
  new : ∀ g, ob = some g → base ≤ g
  row : ∀ x ∈ R, ∃ o, Own H 3 1 x.A x.h.length x.C (ivals .i64 x.h) o ∧ ∀ g, o = some g → base ≤ g ∧ ob ≠ some g
  pw : R.Pairwise fun x y => ∀ p, x.A = some p → y.A ≠ some p
namespace Alls
variable {base : Nat} {w w' : World} {R : List BestR} {aR : Option Addr} {cR : Nat} {ob : Option Nat}
theorem nil (base : Nat) (H : Array Obj) : Alls base H [] none 0 none := ⟨Own.nil _ _ _, (fun _ h => nomatch h), (fun _ h => nomatch h), List.Pairwise.nil⟩
theorem fr0 (h : Alls base w.heap R aR cR ob) (f : Fr (fun _ => False) w w') : Alls base w'.heap R aR cR ob :=
  ⟨h.own.fr f (fun _ _ h => h), h.new, fun x hx => by obtain ⟨o, h1, h2⟩ := h.row x hx; exact ⟨o, h1.fr f (fun _ _ h => h), h2⟩, h.pw⟩
/-- One more. -/
theorem push (h : Alls base w.heap R aR cR ob) (hb : base ≤ w.heap.size) {x : BestR} {o : Option Nat} {a' : Option Addr} {c' : Nat} {ob' : Option Nat} (hx : Own w'.heap 3 1 x.A x.h.length x.C (ivals .i64 x.h) o) (hn : ∀ g, o = some g → w.heap.size ≤ g ∧ ob' ≠ some g)
    (hO : Own w'.heap 40 4 a' (R.length + 1) c' (R.flatMap BestR.cells ++ BestR.cells x) ob') (f : Fr (fun k => ob = some k) w w') (hob : ob' = ob ∨ ∃ g, ob' = some g ∧ w.heap.size ≤ g) : Alls base w'.heap (R ++ [x]) a' c' ob' := by
  refine ⟨?_, fun g hg => ?_, fun y hy => ?_, ?_⟩
  · rw [List.length_append, List.flatMap_append]
    simpa using hO
  · rcases hob with e | ⟨g', e, e2⟩
    · rw [e] at hg; exact h.new g hg
    · rw [e] at hg; cases hg; omega
  · rcases List.mem_append.1 hy with hy | hy
    · obtain ⟨o', h1, h2⟩ := h.row y hy
      refine ⟨o', h1.fr f (fun g hg e => (h2 g hg).2 e), fun g hg => ⟨(h2 g hg).1, ?_⟩⟩
      rcases hob with e | ⟨g', e, e2⟩
      · rw [e]; exact (h2 g hg).2
      · rw [e]; intro e3; cases e3; have := h1.lt g hg; omega
    · rw [List.mem_singleton.1 hy]
      exact ⟨o, hx, fun g hg => ⟨Nat.le_trans hb (hn g hg).1, (hn g hg).2⟩⟩
  · rw [List.pairwise_append]
    refine ⟨h.pw, List.pairwise_singleton _ _, fun y hy z hz p hp hq => ?_⟩
    rw [List.mem_singleton.1 hz] at hq
    obtain ⟨o', h1, -⟩ := h.row y hy
    rcases h1.is with ⟨q, _⟩ | ⟨g1, _, q, q2, _⟩
    · rw [q] at hp; cases hp
    · rcases hx.is with ⟨r, _⟩ | ⟨g2, _, r, r2, _⟩
      · rw [r] at hq; cases hq
      · rw [q] at hp; rw [r] at hq
        rw [← hq] at hp
        simp only [Option.some.injEq, Addr.mk.injEq] at hp
        have := h1.lt g1 q2
        have := (hn g2 r2).1
        omega
end Alls
/-- All ways, told. -/
def RetAll (w : World) (costs : List Int) (all : List Hea) (E : List Ent) (e : Ending) (w' : World) : Prop :=
  ∃ (R : List BestR) (aR : Option Addr) (cR : Nat) (ob : Option Nat), e = .returned (.slice aR R.length cR) ∧ Alls w.heap.size w'.heap R aR cR ob ∧ NSorted (R.map fun x => (⟨x.a, x.n⟩ : Nt)) ∧ (∀ q : Nt, q ∈ (R.map fun x => (⟨x.a, x.n⟩ : Nt)) ↔ ∃ x ∈ E, x.key = q ∧ allP all costs x = true) ∧
    (∀ x ∈ R, (x.m, x.h) = bestM all costs x.a x.n) ∧ Fr (fun _ => False) w w' ∧ R.length ≤ E.length
set_option maxRecDepth 100000 in
set_option maxHeartbeats 8000000 in
theorem all_any {U : Nat → Prop} {be bn : Nat} {costs : List Int} {all : List Hea} {E : List Ent} {ac : Option Addr} {cc : Nat} (w : World) (hE : Eng U w be bn costs all E ac cc) (h64 : E.length ≤ 64) :
    Calls Tryd.prog 34 #[.pointer (some ⟨be, 0, none⟩)] w (RetAll w costs all E) := by
  go_enter Tryd.func34, Tryd.ntmps34
  go_wp2_with (fail)
  refine (selAll_any w hE h64).mono ?_
  rintro e1 w1 ⟨L, aL, cL, obL, rfl, hs, hm, hO, hF, hN, hl⟩
  have hE1 := hE.fr0 hF
  have HS := Lib.hid hs
  have HM := Lib.hid hm
  have HLE := Lib.hid hl
  have hL64 : L.length ≤ 64 := by omega
  have HEL := Lib.hid (show ∀ k, U k → k < w.heap.size from hE.lt)
  have HNL := Lib.hid hN
  clear hE hs hm hl hN
  go_wp2
  go_loopw [9, 3] (fun s9 s3 wr => ∃ (k : Nat) (R : List BestR) (aR : Option Addr) (cR : Nat) (ob : Option Nat), k ≤ L.length ∧ s9 = .int .i64 k ∧ s3 = .slice aR R.length cR ∧ Hid (R.length = k) ∧ Alls w.heap.size wr.heap R aR cR ob ∧ Hid (R.map (fun x => (⟨x.a, x.n⟩ : Nt)) = L.take k ∧ ∀ x ∈ R, (x.m, x.h) = bestM all costs x.a x.n) ∧ Eng U wr be bn costs all E ac cc ∧ Own wr.heap 37 2 aL L.length cL (L.flatMap Nt.cells) obL ∧ Fr (fun _ => False) w wr ∧ Hid (∀ g, obL = some g → ¬ ob = some g)) (fun s _ _ => L.length - (intOf s).toNat)
  case atStart => exact ⟨0, [], none, 0, none, by omega, rfl, rfl, Lib.hid rfl, Alls.nil _ _, Lib.hid ⟨rfl, fun _ h => nomatch h⟩, hE1, hO, hF, Lib.hid (fun _ _ h => nomatch h)⟩
  case round =>
    clear hE1 hO hF
    obtain ⟨k, R, aR, cR, ob, hk, rfl, rfl, hRk, hA, hG, hE, hO, hF, HOL⟩ := hrel
    by_cases hkl : k < L.length
    · obtain ⟨g, o, rfl, hgl, hc⟩ := Recs.pos hO.rd Nt.cells_len (by omega) (by omega)
      have d0 := hc wr rfl k 0 hkl (by omega)
      have d1 := hc wr rfl k 1 hkl (by omega)
      have hmem := nth_mem L k hkl
      have hT := take_succ_nth L k hkl
      obtain ⟨y, hy⟩ : ∃ y, y = nth L k := ⟨_, rfl⟩
      rw [← hy] at d0 d1 hmem hT
      have HT := Lib.hid hT
      obtain ⟨x, hx, hxk, -⟩ := (HM.out y).1 hmem
      obtain ⟨ya, yn⟩ := y
      simp only [Nt.cells, List.getElem?_cons_zero, List.getElem?_cons_succ, ← Nat.add_assoc, Nat.add_zero] at d0 d1
      have hFa := (Fr.refl (fun _ => False) wr).alloc (.cells #[.int .u32 ya, .int .i64 yn] 37)
      have hE2 := hE.fr0 (hFa.drew)
      have hwsz : w.heap.size ≤ wr.heap.size := hF.size
      have hx0 := hE2.ents x hx
      have hB4 := hE2.best4 ya yn
      have hlk := lookL_run hE2.nets keyedN Tryd.underlying135 (zeroPG (w := (wr.alloc (.cells #[.int .u32 ya, .int .i64 yn] 37)).drew)) (nkey x.key hx0.wf) (hE2.inj hx0.wf)
      rw [mget_entL_at hE2.ap hx, Option.getD_some, hxk] at hlk
      have e1 := hE2.blk.cell 1
      have l1 := hE2.blk.lt
      have x1 := hx0.blk.cell 1
      have x2 := hx0.blk.cell 2
      have x3 := hx0.blk.cell 3
      have x4 := hx0.blk.cell 4
      have hI := hx0.hops
      have hlx := hx0.blk.lt
      simp only [entC, List.getElem?_cons_succ, List.getElem?_cons_zero] at e1 x1 x2 x3 x4
      rw [hxk] at x1 x2 x3 x4 hI
      simp only at x1 x2 x3 x4 hI
      obtain ⟨M, hM⟩ : ∃ M, M = bestM all costs ya yn := ⟨_, rfl⟩
      rw [← hM] at x3 x4 hI hB4
      have HMM := Lib.hid hM
      obtain ⟨sm, sh⟩ := M
      simp only at x3 x4 hI hB4
      have HXK := Lib.hid hxk
      have HE := Lib.hid hE
      have HX := Lib.hid hx
      have HA := Lib.hid hA
      have HO := Lib.hid hO
      have HF := Lib.hid hF
      have hBx := Blk.made wr 37 [.int .u32 ya, .int .i64 yn]
      have q0 := hBx.cell 0
      have q1 := hBx.cell 1
      have ql := hBx.lt
      simp only [List.getElem?_cons_succ, List.getElem?_cons_zero] at q0 q1
      clear hM hc hy hmem hT hxk hx0 hE hx hA hO hF hE2 hBx
      go_wp2
      (refine wp_region_mix (AnyW) 12 (by kernel_rfl) (by kernel_rfl) (AnyW.mk _) ?_; simp only [List.take_succ_cons, List.take_zero, List.drop_succ_cons, List.drop_zero])
      (refine wpMix_lateN 1 (AnyW.mk _) (by kernel_rfl) ?_; simp only [List.take_succ_cons, List.take_zero, List.drop_succ_cons, List.drop_zero]; (repeat (go_big_quiet_step (fail))); refine wpQuiet_nil ?_)
      (refine wpMix_earlyN 9 (by kernel_rfl) (by kernel_rfl) ?_; simp only [List.take_succ_cons, List.take_zero, List.drop_succ_cons, List.drop_zero]; (repeat (go_big_quiet_step (fail))); refine wpQuiet_nil ?_)
      refine wpMix_eff (by kernel_rfl) ?_
      go_wp2_with (fail)
      refine (copied_any ya yn sm sh x.bA x.bC _ hI hB4).mono ?_
      rintro e3 w3 ⟨a3, c3, ob3, rfl, hO3, hF3, hN3⟩
      simp only at hO3
      have hFw3 : Fr (fun _ => False) wr w3 := hFa.drew.trans hF3
      have hN3' : ∀ g, ob3 = some g → wr.heap.size < g := fun g hg => by have := hN3 g hg; have h2 : (wr.alloc (.cells #[.int .u32 ya, .int .i64 yn] 37)).drew.heap.size = wr.heap.size + 1 := (by simp : (wr.alloc (.cells #[.int .u32 ya, .int .i64 yn] 37)).heap.size = wr.heap.size + 1); omega
      clear hlk e1 l1 x1 x2 x3 x4 hI hlx q0 q1 ql hF3 hN3 d0 d1
      go_wp2
      refine ⟨AnyW.mk _, ?_⟩
      refine wpMix_eff (by kernel_rfl) ?_
      go_wp2
      refine ⟨AnyW.mk _, ?_⟩
      refine wpMix_nil ?_
      have hA3 := HA.out.fr0 hFw3
      have hrd := rd_lit w3 40 [.int .u32 ya, .int .i64 yn, .int .i64 sm, .slice a3 sh.length c3]
      have hFb := (Fr.refl (fun _ => False) w3).alloc (.cells #[.int .u32 ya, .int .i64 yn, .int .i64 sm, .slice a3 sh.length c3] 40)
      have hAo := hA3.own.alloc (.cells #[.int .u32 ya, .int .i64 yn, .int .i64 sm, .slice a3 sh.length c3] 40)
      have HA3 := Lib.hid (hA3.fr0 hFb)
      have hws3 := hFw3.size
      clear hA3
      go_wp2_with (at_builtin; refine wpList_app rfl _ _ 22 rfl Tryd.underlying22 infoBst rfl (by decide) rfl rfl hAo hrd (by simp [Value.oneCell']) (by have := hRk.out; omega) (by have := hRk.out; omega) ?_)
      intro a8 c8 w8 ob8 v1 v2 v3
      have hs8 := v2.size
      have hs3 : (w3.alloc (.cells #[.int .u32 ya, .int .i64 yn, .int .i64 sm, .slice a3 sh.length c3] 40)).heap.size = w3.heap.size + 1 := by simp
      have hlt3 := hO3.lt
      have hob : ∀ g, ob = some g → g < wr.heap.size := HA.out.own.lt
      have hO38 := (hO3.alloc (.cells #[.int .u32 ya, .int .i64 yn, .int .i64 sm, .slice a3 sh.length c3] 40)).fr v2 (fun g hg e => by have := hob g e; have := hN3' g hg; omega)
      have hF38 : Fr (fun k => ob = some k) wr w8 := ((hFw3.trans hFb).none _).trans v2
      have hob8 : ob8 = ob ∨ ∃ g, ob8 = some g ∧ wr.heap.size ≤ g := by
        rcases v3 with v3 | ⟨g', v3, v4⟩
        · exact .inl v3
        · exact .inr ⟨g', v3, by omega⟩
      have HA8 := Lib.hid (HA.out.push hwsz (x := ⟨ya, yn, sm, sh, a3, c3⟩) hO38 (fun g hg => ⟨Nat.le_of_lt (hN3' g hg), fun e => by
        rcases v3 with v3 | ⟨g', v3, v4⟩
        · rw [v3] at e; have := hob g e; have := hN3' g hg; omega
        · rw [v3] at e; cases e; have := hlt3 g hg; omega⟩) (by simpa using v1) hF38 hob8)
      have holl := HO.out.lt
      have HOL8 := Lib.hid (show ∀ g, obL = some g → ¬ ob8 = some g from fun g hg e => by
        rcases v3 with v3 | ⟨g', v3, v4⟩
        · rw [v3] at e; exact HOL.out g hg e
        · rw [v3] at e; cases e; have := holl g hg; omega)
      have hE8 := (HE.out.fr0 (hFw3.trans hFb)).fr v2 (fun k hk e => by have h1 := HA.out.new k e; have h2 := HEL.out k hk; omega)
      have hO8 := (HO.out.fr (hFw3.trans hFb) (fun _ _ h => h)).fr v2 (fun g hg e => HOL.out g hg e)
      have hF8 : Fr (fun _ => False) w w8 := (HF.out.trans (hFw3.trans hFb)).trans' v2 (fun i hi e => by have h1 := HA.out.new i e; omega)
      have HG8 := Lib.hid (show (R ++ [(⟨ya, yn, sm, sh, a3, c3⟩ : BestR)]).map (fun x => (⟨x.a, x.n⟩ : Nt)) = L.take (k + 1) ∧ ∀ x ∈ R ++ [(⟨ya, yn, sm, sh, a3, c3⟩ : BestR)], (x.m, x.h) = bestM all costs x.a x.n from ⟨by rw [HT.out, List.map_append, hG.out.1]; rfl, fun z hz => by
        rcases List.mem_append.1 hz with hz | hz
        · exact hG.out.2 z hz
        · rw [List.mem_singleton.1 hz]; exact HMM.out⟩)
      clear v1 v2 v3 hO38 hF38 hob8 hO3 hFw3 hFb hAo hrd HA3
      go_wp2
      go_roundw
      case rel => exact ⟨k + 1, R ++ [⟨ya, yn, sm, sh, a3, c3⟩], a8, c8, ob8, by omega, by go_num, by simp, Lib.hid (by have := hRk.out; simp; omega), HA8.out, HG8, hE8, hO8, hF8, HOL8⟩
      case measure => simp [intOf]; omega
    · obtain rfl : k = L.length := by omega
      go_wp2
      go_ret
      refine ⟨R, aR, cR, ob, rfl, hA, by rw [hG.out.1, List.take_length]; exact HS.out, fun q => by rw [hG.out.1, List.take_length]; exact HM.out q, hG.out.2, hF, by have := HLE.out; have := hRk.out; omega⟩
end Go.Proofs.YtfjempfffdeklaaDoor
