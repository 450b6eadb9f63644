import Derived.Test.YtgfbkebbnfcgkaaLib
import Derived.Test.YtgfbkebbnfcgkaaBase
import Derived.Test.YtgfbkebbnfcgkaaQRt11
section
namespace Go
/-- Any world. -/
def AnyW (_ : World) : Prop := True
theorem AnyW.mk (w : World) : AnyW w := trivial
end Go
end

section
namespace Go
theorem put4 {w : World} {g : Nat} {E : TypeId} {c0 c1 c2 c3 : Value} (h : Blk w.heap g E [c0, c1, c2, c3]) (u0 u1 u2 u3 : Value) :
    Blk ((((w.setCell ⟨g, 0, none⟩ u0).setCell ⟨g, 1, none⟩ u1).setCell ⟨g, 2, none⟩ u2).setCell ⟨g, 3, none⟩ u3).heap g E [u0, u1, u2, u3] ∧ Fr (fun k => k = g) w ((((w.setCell ⟨g, 0, none⟩ u0).setCell ⟨g, 1, none⟩ u1).setCell ⟨g, 2, none⟩ u2).setCell ⟨g, 3, none⟩ u3) :=
  ⟨(((h.set 0 u0).set 1 u1).set 2 u2).set 3 u3, ((((Fr.refl (fun k => k = g) w).setCell (p := ⟨g, 0, none⟩) (fun _ => rfl) u0).setCell (p := ⟨g, 1, none⟩) (fun _ => rfl) u1).setCell (p := ⟨g, 2, none⟩) (fun _ => rfl) u2).setCell (p := ⟨g, 3, none⟩) (fun _ => rfl) u3⟩
end Go
end

section
namespace Go
theorem Rd.nil' {H : Array Obj} {sz n : Nat} {xs : List Value} (h : Rd H none n sz xs) : xs = [] := by
  rcases h.at' with h | ⟨_, _, h, _⟩
  · exact h
  · cases h
theorem Ints.nil' {H : Array Obj} {l : List Int} (h : Ints H none l) : l = [] := by
  have := Rd.nil' h
  cases l with
  | nil => rfl
  | cons x l => cases this
/-- What was shown of a net. -/
def shownE (E : List Ent) (q : Nt) : Int × List Int := match E.find? (fun x => x.key = q) with
  | some x => (x.sm, x.sh)
  | none => (16, [])
theorem shownE_cons {x : Ent} {E : List Ent} {q : Nt} : shownE (x :: E) q = if x.key = q then (x.sm, x.sh) else shownE E q := by
  unfold shownE
  by_cases h : x.key = q
  · rw [if_pos h, List.find?_cons_of_pos (by simpa using h)]
  · rw [if_neg h, List.find?_cons_of_neg (by simpa using h)]
theorem shownE_at {E : List Ent} (hp : E.Pairwise Ent.ap) {x : Ent} (hx : x ∈ E) : shownE E x.key = (x.sm, x.sh) := by
  induction E with
  | nil => cases hx
  | cons y E ih =>
    rw [shownE_cons]
    obtain ⟨h1, h2⟩ := List.pairwise_cons.1 hp
    rcases List.mem_cons.1 hx with e | hx'
    · rw [e, if_pos rfl]
    · rw [if_neg (h1 x hx').2.2.2.2]; exact ih h2 hx'
theorem shownE_none {E : List Ent} {q : Nt} (h : ∀ x ∈ E, x.key ≠ q) : shownE E q = (16, []) := by
  induction E with
  | nil => rfl
  | cons y E ih => rw [shownE_cons, if_neg (h y (by simp))]; exact ih (fun x hx => h x (by simp [hx]))
end Go
namespace Go.Proofs.Ytgfbkebbnfcgkaa
open Go.RowKit Go.Maps
theorem shownE_upd {x x' : Ent} {E : List Ent} (hk : x'.key = x.key) (hs : (x'.sm, x'.sh) = (x.sm, x.sh)) (h1 : ∀ y ∈ E, y.key = x.key → y = x) (q : Nt) : shownE (Eng.upd x x' E) q = shownE E q := by
  induction E with
  | nil => rfl
  | cons y E ih =>
    show shownE ((if y.key = x.key then x' else y) :: Eng.upd x x' E) q = _
    rw [shownE_cons, shownE_cons, ih (fun z hz => h1 z (by simp [hz]))]
    by_cases h : y.key = x.key
    · have := h1 y (by simp) h
      subst this
      rw [if_pos rfl, hk, hs]
    · rw [if_neg h]
theorem upd_keys {x x' : Ent} {E : List Ent} (hk : x'.key = x.key) : (Eng.upd x x' E).map (·.key) = E.map (·.key) := by
  unfold Eng.upd
  rw [List.map_map]
  apply List.map_congr_left
  intro y _
  simp only [Function.comp]
  split
  · rename_i h; rw [hk, h]
  · rfl

set_option maxRecDepth 100000 in
set_option maxHeartbeats 1000000 in
/-- Chosen of nobody. -/
theorem chosen0_any (a n : Int) (w : World) :
    Calls Try.prog 60 #[.agg #[.int .u32 a, .int .i64 n], .slice none 0 0, .map none] w (RetV w (.agg #[.int .u32 a, .int .i64 n, .int .i64 16, .slice none 0 0])) := by
  go_enter Try.func60, Try.ntmps60
  go_wp2
  have hF := (((Fr.refl (fun _ => False) w).alloc (.cells #[.int .u32 a, .int .i64 n] 34)).alloc (.cells #[.int .u32 0, .int .i64 0, .int .i64 0, .slice none 0 0] 49)).alloc (.cells #[.int .u32 a, .int .i64 n, .int .i64 16, .slice none 0 0] 49)
  have hB1 := (Blk.made (w.alloc (.cells #[.int .u32 a, .int .i64 n] 34)) 49 [.int .u32 0, .int .i64 0, .int .i64 0, .slice none 0 0]).alloc (.cells #[.int .u32 a, .int .i64 n, .int .i64 16, .slice none 0 0] 49)
  have hB2 := Blk.made ((w.alloc (.cells #[.int .u32 a, .int .i64 n] 34)).alloc (.cells #[.int .u32 0, .int .i64 0, .int .i64 0, .slice none 0 0] 49)) 49 [.int .u32 a, .int .i64 n, .int .i64 16, .slice none 0 0]
  rw [show (w.alloc (.cells #[.int .u32 a, .int .i64 n] 34)).heap.size = w.heap.size + 1 by simp] at hB1
  rw [show ((w.alloc (.cells #[.int .u32 a, .int .i64 n] 34)).alloc (.cells #[.int .u32 0, .int .i64 0, .int .i64 0, .slice none 0 0] 49)).heap.size = w.heap.size + 2 by simp] at hB2
  go_loopw [16] (fun s16 wr => s16 = .int .i64 0 ∧ Blk wr.heap (w.heap.size + 1) 49 [.int .u32 0, .int .i64 0, .int .i64 0, .slice none 0 0] ∧ Blk wr.heap (w.heap.size + 2) 49 [.int .u32 a, .int .i64 n, .int .i64 16, .slice none 0 0] ∧ Fr (fun _ => False) w wr) (fun _ _ => 0)
  case atStart => exact ⟨rfl, hB1, hB2, hF⟩
  case round =>
    clear hB1 hB2 hF
    obtain ⟨rfl, hB1, hB2, hF⟩ := hrel
    have b0 := hB2.cell 0
    have b1 := hB2.cell 1
    have b2 := hB2.cell 2
    have b3 := hB2.cell 3
    have r0 := hB1.cell 0
    have r1 := hB1.cell 1
    have r2 := hB1.cell 2
    have r3 := hB1.cell 3
    have g0 := hB1.frozen 0
    have g1 := hB1.frozen 1
    have g2 := hB1.frozen 2
    have g3 := hB1.frozen 3
    simp only [List.getElem?_cons_succ, List.getElem?_cons_zero] at b0 b1 b2 b3 r0 r1 r2 r3
    obtain ⟨hBe, hFe⟩ := put4 hB1 (.int .u32 a) (.int .i64 n) (.int .i64 16) (.slice none 0 0)
    have y0 := hBe.cell 0
    have y1 := hBe.cell 1
    have y2 := hBe.cell 2
    have y3 := hBe.cell 3
    simp only [List.getElem?_cons_succ, List.getElem?_cons_zero] at y0 y1 y2 y3
    have hl := hB2.lt
    have HFe := Lib.hid (hF.trans' hFe (fun i hi h => by have h2 : i = w.heap.size + 1 := h; omega))
    clear hBe hFe hB1 hB2 hF
    go_wp2
    refine bodyPost_ret (v := .agg #[.int .u32 a, .int .i64 n, .int .i64 16, .slice none 0 0]) (by simp [results, Try.results60, go_sem, y0, y1, y2, y3]) rfl ?_
    exact RetV.mk rfl rfl HFe.out

set_option maxRecDepth 100000 in
set_option maxHeartbeats 1000000 in
/-- A way, its list copied. -/
theorem copied_any (a n m : Int) (h : List Int) (A : Option Addr) (C : Nat) (w : World) (hI : Ints w.heap A h) (hl : h.length ≤ 4) :
    Calls Try.prog 61 #[.agg #[.int .u32 a, .int .i64 n, .int .i64 m, .slice A h.length C]] w (RetBest w a n (m, h)) := by
  have hF0 := ((Fr.refl (fun _ => False) w).alloc (.cells #[.int .u32 a, .int .i64 n, .int .i64 m, .slice A h.length C] 49)).alloc (.cells #[.int .u32 0, .int .i64 0, .int .i64 0, .slice none 0 0] 49)
  have hB1 := (Blk.made w 49 [.int .u32 a, .int .i64 n, .int .i64 m, .slice A h.length C]).alloc (.cells #[.int .u32 0, .int .i64 0, .int .i64 0, .slice none 0 0] 49)
  have hB2 := Blk.made (w.alloc (.cells #[.int .u32 a, .int .i64 n, .int .i64 m, .slice A h.length C] 49)) 49 [.int .u32 0, .int .i64 0, .int .i64 0, .slice none 0 0]
  rw [show (w.alloc (.cells #[.int .u32 a, .int .i64 n, .int .i64 m, .slice A h.length C] 49)).heap.size = w.heap.size + 1 by simp] at hB2
  go_enter Try.func61, Try.ntmps61
  go_wp2_with (fail)
  refine (clone_int A h C _ (by omega) (hI.fr0 hF0 (fun _ _ h => h)) (fun e => by subst e; exact hI.nil')).mono ?_
  rintro e1 w1 ⟨a1, c1, ob1, he1, hO1, hF1, hN1⟩
  simp only [id] at he1
  subst he1
  have hb1 := hB1.fr hF1 (fun h => h)
  have hb2 := hB2.fr hF1 (fun h => h)
  have hFF := hF0.trans hF1
  have hs := hB2.lt
  have hne1 : ∀ g, ob1 = some g → w.heap.size + 2 ≤ g := fun g hg => by have := hN1 g hg; omega
  have x0 := hb1.cell 0
  have x1 := hb1.cell 1
  have x2 := hb1.cell 2
  have x3 := hb1.cell 3
  have z0 := hb1.frozen 3
  have y0 := hb2.cell 0
  have y1 := hb2.cell 1
  have y2 := hb2.cell 2
  have y3 := hb2.cell 3
  have v0 := hb2.frozen 0
  have v1 := hb2.frozen 1
  have v2 := hb2.frozen 2
  have v3 := hb2.frozen 3
  simp only [List.getElem?_cons_succ, List.getElem?_cons_zero] at x0 x1 x2 x3 y0 y1 y2 y3
  have hb1' := hb1.set 3 (.slice a1 h.length c1)
  have hb2' := hb2.other (p := ⟨w.heap.size, 3, none⟩) (by simp) (.slice a1 h.length c1)
  obtain ⟨hBe, hFe⟩ := put4 hb2' (.int .u32 a) (.int .i64 n) (.int .i64 m) (.slice a1 h.length c1)
  have hO1' := (hO1.other (p := ⟨w.heap.size, 3, none⟩) (fun e => by have h2 : ob1 = some w.heap.size := e; have := hne1 _ h2; omega) (.slice a1 h.length c1)).fr hFe (fun g hg e => by have h2 : g = w.heap.size + 1 := e; have := hne1 _ hg; omega)
  have hF3 := (hFF.setCell (p := ⟨w.heap.size, 3, none⟩) (fun h => absurd h (Nat.lt_irrefl _)) (.slice a1 h.length c1)).trans' hFe (fun i hi e => by have h2 : i = w.heap.size + 1 := e; omega)
  have q0 := hBe.cell 0
  have q1 := hBe.cell 1
  have q2 := hBe.cell 2
  have q3 := hBe.cell 3
  simp only [List.getElem?_cons_succ, List.getElem?_cons_zero] at q0 q1 q2 q3
  have HO := Lib.hid hO1'
  have HF := Lib.hid hF3
  clear hb1 hb2 hb1' hb2' hBe hFe hO1 hO1' hF3 hF1 hFF hB1 hB2 hN1
  go_wp2
  refine bodyPost_ret (v := .agg #[.int .u32 a, .int .i64 n, .int .i64 m, .slice a1 h.length c1]) (by simp [results, Try.results61, go_sem, q0, q1, q2, q3]) rfl ?_
  exact RetBest.mk rfl rfl rfl rfl HO.out HF.out (fun g hg => by have := hne1 g hg; omega)
end Go.Proofs.Ytgfbkebbnfcgkaa
end
