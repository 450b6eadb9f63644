import Derived.Test.YtgfbkebbnfcgkaaRibW
namespace Go.Proofs.Ytgfbkebbnfcgkaa
open Go.RowKit

theorem hd_take (x : Td) : (Td.cells x).take 4 = Td.hcells x := rfl
set_option maxRecDepth 100000 in
set_option maxHeartbeats 2000000 in
theorem ribList_any {base br : Nat} {now0 : Int} {l : List Td} (w : World) (hR : IsRib w.heap base br now0 l) (hl : l.length ≤ 64) :
    Calls Try.prog 38 #[.pointer (some ⟨br, 0, none⟩)] w (RetNew w 111 4 l.length (l.flatMap Td.hcells) id) := by
  obtain ⟨a, c, h1, h2, h3, h4⟩ := hR
  have c1 := h1.cell 1
  simp only [List.getElem?_cons_succ, List.getElem?_cons_zero] at c1
  go_enter Try.func38, Try.ntmps38
  go_wp2
  go_loopw [11, 3] (fun s11 s3 wr => ∃ (k : Nat) (ao : Option Addr) (co : Nat) (ob : Option Nat), k ≤ l.length ∧ s11 = .int .i64 k ∧ s3 = .slice ao k co ∧ Ownd wr.heap 111 4 ao k co ((l.take k).flatMap Td.hcells) ob ∧ Fr (fun _ => False) w wr ∧ (∀ g, ob = some g → w.heap.size ≤ g)) (fun s _ _ => l.length - (intOf s).toNat)
  case atStart => exact ⟨0, none, 0, none, by omega, rfl, rfl, Ownd.nil _ _ _, Fr.refl _ _, (fun g h => nomatch h)⟩
  case round =>
    obtain ⟨k, ao, co, ob, hk, rfl, rfl, hO, hF, hN⟩ := hrel
    have hcap := hO.cap
    by_cases hkl : k < l.length
    · obtain ⟨b, off, rfl, hbb, hc⟩ := Recs.pos h2 Td.cells_len (by omega) (by omega)
      have htk : (l.take (k + 1)).flatMap Td.hcells = (l.take k).flatMap Td.hcells ++ Td.hcells (nth l k) := by
        rw [take_succ_nth l k hkl, List.flatMap_append]; simp
      have d0 := (hF.cell (p := ⟨b, off + (k * 5 + 0), none⟩) hbb (fun h => h)).trans (hc w rfl k 0 hkl (by omega))
      have d1 := (hF.cell (p := ⟨b, off + (k * 5 + 1), none⟩) hbb (fun h => h)).trans (hc w rfl k 1 hkl (by omega))
      have d2 := (hF.cell (p := ⟨b, off + (k * 5 + 2), none⟩) hbb (fun h => h)).trans (hc w rfl k 2 hkl (by omega))
      have d3 := (hF.cell (p := ⟨b, off + (k * 5 + 3), none⟩) hbb (fun h => h)).trans (hc w rfl k 3 hkl (by omega))
      have d4 := (hF.cell (p := ⟨b, off + (k * 5 + 4), none⟩) hbb (fun h => h)).trans (hc w rfl k 4 hkl (by omega))
      generalize nth l k = x at *
      obtain ⟨xf, xa, xn, xm, xt⟩ := x
      simp only [Td.cells, List.getElem?_cons_zero, List.getElem?_cons_succ, ← Nat.add_assoc, Nat.add_zero] at d0 d1 d2 d3 d4
      have HT := Lib.hid htk
      clear hc htk
      have hrd := rd_lit1 wr (.cells #[.int .i64 xf, .int .u32 xa, .int .i64 xn, .int .i64 xm, .int .i64 xt] 128) 111 [.int .i64 xf, .int .u32 xa, .int .i64 xn, .int .i64 xm]
      go_wp2_with (at_builtin; refine wpList_app rfl _ _ 108 rfl Try.underlying108 infoHd rfl (by decide) rfl rfl ((hO.alloc _).alloc _) hrd (by simp [Value.oneCell']) (by omega) (by omega) ?_)
      intro a' c' w6 ob' z1 z2 z3
      have hF6 := Fr.app ((hF.alloc _).alloc _) z2 hN
      have hN6 := app_new hN z3 (by have := hF.size; simp; omega)
      have z1 : Ownd w6.heap 111 4 a' (k + 1) c' ((l.take (k + 1)).flatMap Td.hcells) ob' := by rw [HT.out]; exact z1
      clear z2 z3 hrd hO
      go_wp2
      go_roundw
      case rel => exact ⟨k + 1, a', c', ob', by omega, by go_num, rfl, z1, hF6, hN6⟩
      case measure => simp [intOf]; omega
    · obtain rfl : k = l.length := by omega
      rw [List.take_length] at hO
      go_wp2
      go_ret
      exact ⟨ao, co, ob, rfl, hO, hF, hN⟩

def aheadB (x : Td) (f a n : Int) : Bool := decide (tdAhead x f a n)
set_option maxRecDepth 100000 in
set_option maxHeartbeats 1000000 in
theorem ahead_any (x : Td) (f a n : Int) (w : World) : Calls Try.prog 53 #[.agg #[.int .i64 x.f, .int .u32 x.a, .int .i64 x.n, .int .i64 x.m, .int .i64 x.t], .int .i64 f, .agg #[.int .u32 a, .int .i64 n]] w (RetV w (.bool (aheadB x f a n))) := by
  obtain ⟨xf, xa, xn, xm, xt⟩ := x
  go_enter Try.func53, Try.ntmps53
  by_cases h1 : xf < f
  · have hX := Lib.hid (show aheadB ⟨xf, xa, xn, xm, xt⟩ f a n = true from decide_eq_true (.inl h1))
    have hd : decide (xf < f) = true := decide_eq_true h1
    clear h1
    go_wp2
    go_ret
    exact RetV.mk (x := .bool true) (by rw [hX.out]) rfl (((Fr.refl _ _).alloc _).alloc _)
  · have hd : decide (xf < f) = false := decide_eq_false h1
    by_cases h2 : xf = f
    · have hX := Lib.hid (show aheadB ⟨xf, xa, xn, xm, xt⟩ f a n = lessB xa xn a n by unfold aheadB tdAhead lessB; simp [h1, h2])
      have he : (xf == f) = true := by simp [h2]
      clear h1 h2
      go_wp2_with (go_at_call 64; refine (less_any xa xn a n _).mono ?_)
      intro e1 w1 R1
      obtain ⟨rfl, hF1⟩ := R1
      go_wp2
      go_ret
      exact RetV.mk (x := .bool (lessB xa xn a n)) (by rw [hX.out]) rfl ((((Fr.refl _ _).alloc _).alloc _).trans hF1)
    · have hX := Lib.hid (show aheadB ⟨xf, xa, xn, xm, xt⟩ f a n = false by unfold aheadB tdAhead; simp [h1, h2])
      have he : (xf == f) = false := by simp [h2]
      clear h1 h2
      go_wp2
      go_ret
      exact RetV.mk (x := .bool false) (by rw [hX.out]) rfl (((Fr.refl _ _).alloc _).alloc _)

set_option maxRecDepth 100000 in
set_option maxHeartbeats 1000000 in
theorem learn1_any (x : Td) (f a n : Int) (b6 b7 : Nat) (w : World) (h6 : w.cell? ⟨b6, 0, none⟩ = some (.int .i64 f)) (h7 : w.cell? ⟨b7, 0, none⟩ = some (.int .u32 a)) (h8 : w.cell? ⟨b7, 1, none⟩ = some (.int .i64 n)) (l6 : b6 < w.heap.size) (l7 : b7 < w.heap.size) :
    Calls Try.prog 52 #[.agg #[.int .i64 x.f, .int .u32 x.a, .int .i64 x.n, .int .i64 x.m, .int .i64 x.t], .pointer (some ⟨b6, 0, none⟩), .pointer (some ⟨b7, 0, none⟩)] w (RetV w (.bool (!aheadB x f a n))) := by
  go_enter Try.func52, Try.ntmps52
  go_wp2_with (go_at_call 53; refine (ahead_any x f a n _).mono ?_)
  intro e1 w1 R1
  obtain ⟨rfl, hF1⟩ := R1
  go_wp2
  go_ret
  exact RetV.mk (x := .bool (!aheadB x f a n)) rfl rfl (((Fr.refl _ _).alloc _).trans hF1)
end Go.Proofs.Ytgfbkebbnfcgkaa
