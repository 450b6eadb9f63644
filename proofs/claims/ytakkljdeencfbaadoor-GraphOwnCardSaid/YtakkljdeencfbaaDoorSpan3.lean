import Derived.Test.YtakkljdeencfbaaDoorSpan2
import Derived.Test.YtakkljdeencfbaaDoorConcat
import Derived.Test.YtakkljdeencfbaaDoorLkInfo
namespace Go.Proofs.YtakkljdeencfbaaDoor
open Go.RowKit

theorem rd_lit (w : World) (T : TypeId) (xs : List Value) : Rd (w.alloc (.cells xs.toArray T)).heap (some ⟨w.heap.size, 0, none⟩) 1 xs.length xs := (Own.made w T xs.length 1 xs (by omega) (by decide)).rd
theorem rd_lit1 (w : World) (o : Obj) (T : TypeId) (xs : List Value) : Rd ((w.alloc o).alloc (.cells xs.toArray T)).heap (some ⟨w.heap.size + 1, 0, none⟩) 1 xs.length xs := by
  have := rd_lit (w.alloc o) T xs
  rwa [show (w.alloc o).heap.size = w.heap.size + 1 by simp] at this
def Lk.turn (x : Lk) : Lk := ⟨x.b, x.a, x.c⟩
def Lk.tcells (x : Lk) : List Value := Lk.cells (Lk.turn x)
theorem tcells_map (l : List Lk) : l.flatMap Lk.tcells = (l.map Lk.turn).flatMap Lk.cells := by
  induction l with
  | nil => rfl
  | cons x l ih => simp only [List.flatMap_cons, List.map_cons, ih]; rfl

set_option maxRecDepth 100000 in
set_option maxHeartbeats 1000000 in
theorem turned_any (l : List Lk) (a : Option Addr) (c : Nat) (w : World) (hL : Links w.heap a l) (hl : l.length ≤ 4096) :
    Calls Tryd.prog 46 #[.slice a l.length c] w (RetNew w 32 3 l.length ((l.map Lk.turn).flatMap Lk.cells) id) := by
  rw [← tcells_map]
  go_enter Tryd.func46, Tryd.ntmps46
  go_wp2
  go_loopw [8, 3] (fun s8 s3 wr => ∃ (k : Nat) (ao : Option Addr) (co : Nat) (ob : Option Nat), k ≤ l.length ∧ s8 = .int .i64 k ∧ s3 = .slice ao k co ∧ Own wr.heap 32 3 ao k co ((l.take k).flatMap Lk.tcells) ob ∧ Fr (fun _ => False) w wr ∧ (∀ g, ob = some g → w.heap.size ≤ g)) (fun s _ _ => l.length - (intOf s).toNat)
  case atStart => exact ⟨0, none, 0, none, by omega, rfl, rfl, Own.nil _ _ _, Fr.refl _ _, (fun g h => nomatch h)⟩
  case round =>
    obtain ⟨k, ao, co, ob, hk, rfl, rfl, hO, hF, hN⟩ := hrel
    have hcap := hO.cap
    by_cases hkl : k < l.length
    · obtain ⟨b, off, rfl, hbb, hc⟩ := Recs.pos hL Lk.cells_len (by omega) (by omega)
      have htk : (l.take (k + 1)).flatMap Lk.tcells = (l.take k).flatMap Lk.tcells ++ Lk.tcells (nth l k) := by
        rw [take_succ_nth l k hkl, List.flatMap_append]; simp
      have d0 := (hF.cell (p := ⟨b, off + (k * 3 + 0), none⟩) hbb (fun h => h)).trans (hc w rfl k 0 hkl (by omega))
      have d1 := (hF.cell (p := ⟨b, off + (k * 3 + 1), none⟩) hbb (fun h => h)).trans (hc w rfl k 1 hkl (by omega))
      have d2 := (hF.cell (p := ⟨b, off + (k * 3 + 2), none⟩) hbb (fun h => h)).trans (hc w rfl k 2 hkl (by omega))
      generalize nth l k = x at *
      obtain ⟨xa, xb, xc⟩ := x
      simp only [Lk.cells, List.getElem?_cons_zero, List.getElem?_cons_succ, ← Nat.add_assoc, Nat.add_zero] at d0 d1 d2
      have HT := Lib.hid htk
      clear hc htk
      have hrd := rd_lit1 wr (.cells #[.int .i64 xa, .int .i64 xb, .int .i64 xc] 32) 32 [.int .i64 xb, .int .i64 xa, .int .i64 xc]
      go_wp2_with (at_builtin; refine wpList_app rfl _ _ 22 rfl Tryd.underlying22 infoLk rfl (by decide) rfl rfl ((hO.alloc _).alloc _) hrd (by simp [Value.oneCell']) (by omega) (by omega) ?_)
      intro a' c' w6 ob' z1 z2 z3
      have hF6 := Fr.app ((hF.alloc _).alloc _) z2 hN
      have hN6 := app_new hN z3 (by have := hF.size; simp; omega)
      have z1 : Own w6.heap 32 3 a' (k + 1) c' ((l.take (k + 1)).flatMap Lk.tcells) ob' := by rw [HT.out]; exact z1
      clear z2 z3 hrd hO
      go_wp2
      go_roundw
      case rel => exact ⟨k + 1, a', c', ob', by omega, by go_num, rfl, z1, hF6, hN6⟩
      case measure => simp [intOf]; omega
    · obtain rfl : k = l.length := by omega
      rw [List.take_length] at hO
      go_wp2
      go_ret
      exact ⟨ao, co, ob, rfl, hO, hF, hN⟩

set_option maxRecDepth 100000 in
set_option maxHeartbeats 1000000 in
theorem growL_any (n : Nat) (w : World) (hn : n ≤ 8192) : Calls Tryd.prog 56 #[.slice none 0 0, .int .i64 n] w (RetNew w 32 3 0 [] id) := by
  go_enter Tryd.func56, Tryd.ntmps56
  by_cases h0 : n = 0
  · subst h0
    go_wp2
    go_ret
    exact ⟨none, 0, none, rfl, Own.nil _ _ _, Fr.refl _ _, fun g h => nomatch h⟩
  · go_wp2_with (at_builtin; refine wpList_appz rfl _ _ 22 3 rfl Tryd.underlying22 Tryd.underlying3 infoLk rfl (by decide) rfl rfl (by omega) (by omega) (by omega) ?_)
    intro c' w' h1 h2 h3
    go_wp2
    go_ret
    exact ⟨_, c', _, rfl, h2, h3, fun g h => by cases h; exact Nat.le_refl _⟩

/-- How many, and what, ahead of the k-th of two. -/
def preN (n m k : Nat) : Nat := if k = 0 then 0 else if k = 1 then n else n + m
def preL (l m : List Lk) (k : Nat) : List Lk := if k = 0 then [] else if k = 1 then l else l ++ m
set_option maxRecDepth 100000 in
set_option maxHeartbeats 1000000 in
theorem concatL_any (l m : List Lk) (bq : Nat) (a b : Option Addr) (c d : Nat) (w : World) (hl : Links w.heap a l) (hm : Links w.heap b m) (q0 : w.cell? ⟨bq, 0, none⟩ = some (.slice a l.length c)) (q1 : w.cell? ⟨bq, 1, none⟩ = some (.slice b m.length d)) (hq : bq < w.heap.size) (ll : l.length ≤ 4096) (lm : m.length ≤ 4096) :
    Calls Tryd.prog 45 #[.slice (some ⟨bq, 0, none⟩) 2 2] w (RetNew w 32 3 (l.length + m.length) ((l ++ m).flatMap Lk.cells) id) := by
  go_enter Tryd.func45, Tryd.ntmps45
  go_wp2
  go_loop [11, 3] (fun s11 s3 => ∃ k : Nat, k ≤ 2 ∧ s11 = .int .i64 k ∧ s3 = .int .i64 (preN l.length m.length k : Nat)) (fun s _ => 2 - (intOf s).toNat)
  case atStart => exact ⟨0, by omega, rfl, rfl⟩
  case round =>
    obtain ⟨k, hk, rfl, rfl⟩ := hrel
    obtain rfl | rfl | rfl : k = 0 ∨ k = 1 ∨ k = 2 := by omega
    · simp only [preN, if_true]
      go_wp2
      go_round
      case rel => exact ⟨1, by omega, rfl, by simp⟩
      case measure => simp [intOf]
    · rw [show preN l.length m.length 1 = l.length from rfl]
      go_wp2
      go_round
      case rel => exact ⟨2, by omega, rfl, by simp [preN]⟩
      case measure => simp [intOf]
    · rw [show preN l.length m.length 2 = l.length + m.length from rfl]
      go_wp2_with (go_at_call 56; refine (growL_any (l.length + m.length) _ (by omega)).mono ?_)
      intro e1 w1 R1
      obtain ⟨a1, c1, ob1, rfl, hO1, hF1, hN1⟩ := R1
      go_wp2
      go_loopw [27, 6] (fun s27 s6 wr => ∃ (k n : Nat) (a' : Option Addr) (c' : Nat) (ob' : Option Nat), k ≤ 2 ∧ n = preN l.length m.length k ∧ s27 = .int .i64 k ∧ s6 = .slice a' n c' ∧ Own wr.heap 32 3 a' n c' ((preL l m k).flatMap Lk.cells) ob' ∧ Fr (fun _ => False) w wr ∧ (∀ g, ob' = some g → w.heap.size ≤ g)) (fun s _ _ => 2 - (intOf s).toNat)
      case atStart => exact ⟨0, 0, a1, c1, ob1, by omega, rfl, rfl, rfl, hO1, hF1, hN1⟩
      case round =>
        obtain ⟨k, n, a', c', ob', hk, hn, rfl, rfl, hO, hF, hN⟩ := hrel
        have p0 := (hF.cell (p := ⟨bq, 0, none⟩) hq (fun h => h)).trans q0
        have p1 := (hF.cell (p := ⟨bq, 1, none⟩) hq (fun h => h)).trans q1
        obtain rfl | rfl | rfl : k = 0 ∨ k = 1 ∨ k = 2 := by omega
        · obtain rfl : n = 0 := hn
          have hr := hl.fr hF (fun _ _ _ h => h)
          go_wp2_with (at_builtin; refine wpList_app rfl _ _ 22 rfl Tryd.underlying22 infoLk rfl (by decide) rfl rfl hO hr (lk_one l) (by omega) (by omega) ?_)
          intro a2 c2 w2 ob2 z1 z2 z3
          have hF2 := Fr.app hF z2 hN
          have hN2 := app_new hN z3 hF.size
          have z4 : Own w2.heap 32 3 a2 l.length c2 ((preL l m 1).flatMap Lk.cells) ob2 := by
            rw [show preL l m 1 = l from rfl]
            rw [show preL l m 0 = [] from rfl] at z1
            simpa using z1
          clear z1 z2 z3 hO hr
          go_wp2
          go_roundw
          case rel => exact ⟨1, l.length, a2, c2, ob2, by omega, by simp [preN], rfl, by simp, z4, hF2, hN2⟩
          case measure => simp [intOf]
        · obtain rfl : n = l.length := hn
          have hr := hm.fr hF (fun _ _ _ h => h)
          go_wp2_with (at_builtin; refine wpList_app rfl _ _ 22 rfl Tryd.underlying22 infoLk rfl (by decide) rfl rfl hO hr (lk_one m) (by omega) (by omega) ?_)
          intro a2 c2 w2 ob2 z1 z2 z3
          have hF2 := Fr.app hF z2 hN
          have hN2 := app_new hN z3 hF.size
          have z4 : Own w2.heap 32 3 a2 (l.length + m.length) c2 ((preL l m 2).flatMap Lk.cells) ob2 := by
            rw [show preL l m 2 = l ++ m from rfl, List.flatMap_append]; exact z1
          clear z1 z2 z3 hO hr
          go_wp2
          go_roundw
          case rel => exact ⟨2, l.length + m.length, a2, c2, ob2, by omega, by simp [preN], rfl, rfl, z4, hF2, hN2⟩
          case measure => simp [intOf]
        · obtain rfl : n = l.length + m.length := hn
          have z4 : Own wr.heap 32 3 a' (l.length + m.length) c' ((l ++ m).flatMap Lk.cells) ob' := hO
          clear hO
          go_wp2
          go_ret
          exact ⟨a', c', ob', rfl, z4, hF, hN⟩
end Go.Proofs.YtakkljdeencfbaaDoor
