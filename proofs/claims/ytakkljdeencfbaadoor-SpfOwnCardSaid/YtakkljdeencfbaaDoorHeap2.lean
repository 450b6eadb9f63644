import Derived.Test.YtakkljdeencfbaaDoorHeap1
import Derived.IntWalk
namespace Go.Proofs.YtakkljdeencfbaaDoor
open Go.RowKit

/-- One of two, by integers. -/
theorem less_at {l : List Pl} {B : Nat → Prop} {p n : Nat} {a : Option Addr} {c : Nat} {ob : Option Nat} (w : World) (hH : HeapIs w.heap B p n l a c ob) (hl : n ≤ 100000) (I K : Int) (hI : 0 ≤ I ∧ I < n) (hK : 0 ≤ K ∧ K < n) :
    Calls Tryd.prog 82 #[.slice a n c, .int .i64 I, .int .i64 K] w (RetB w) := by
  obtain ⟨i, rfl⟩ := Int.eq_ofNat_of_zero_le hI.1
  obtain ⟨k, rfl⟩ := Int.eq_ofNat_of_zero_le hK.1
  obtain rfl := hH.len
  exact hless_any a c w hH.own.rd hl i k (by omega) (by omega)
/-- Two change places. -/
def PostSwap (w : World) (B : Nat → Prop) (p n : Nat) (l : List Pl) (a : Option Addr) (c : Nat) (ob : Option Nat) (e : Ending) (w' : World) : Prop :=
  e = .returned (.tuple #[]) ∧ (∃ l' : List Pl, l'.Perm l ∧ HeapIs w'.heap B p n l' a c ob) ∧ Fr B w w'
theorem swap_at {l : List Pl} {B : Nat → Prop} {p n : Nat} {a : Option Addr} {c : Nat} {ob : Option Nat} (w : World) (hH : HeapIs w.heap B p n l a c ob) (hl : n ≤ 100000) (I K : Int) (hI : 0 ≤ I ∧ I < n) (hK : 0 ≤ K ∧ K < n) :
    Calls Tryd.prog 85 #[.slice a n c, .int .i64 I, .int .i64 K] w (PostSwap w B p n l a c ob) := by
  obtain ⟨i, rfl⟩ := Int.eq_ofNat_of_zero_le hI.1
  obtain ⟨k, rfl⟩ := Int.eq_ofNat_of_zero_le hK.1
  refine (hswap_any a c ob w hH.own hH.len hl i k (by omega) (by omega)).mono ?_
  rintro e w' ⟨rfl, hO, hF⟩
  have hbp : ob ≠ some p := fun h => (hH.bo p h).2 rfl
  exact ⟨rfl, ⟨_, perm_swap l i k (by rw [hH.len]; omega) (by rw [hH.len]; omega), ⟨by rw [swapL_len]; exact hH.len, hH.box.fr hF hbp, hO, hH.bp, hH.bo⟩⟩, hF.mono (fun i _ h => (hH.bo i h).1)⟩

/-- The heap, its places in another order. -/
def PostPerm (w : World) (B : Nat → Prop) (p n : Nat) (l : List Pl) (a : Option Addr) (c : Nat) (ob : Option Nat) (e : Ending) (w' : World) : Prop :=
  (∃ v, e = .returned v) ∧ (∃ l' : List Pl, l'.Perm l ∧ HeapIs w'.heap B p n l' a c ob) ∧ Fr B w w'

set_option maxRecDepth 100000 in
set_option maxHeartbeats 1000000 in
theorem up_any {l : List Pl} {B : Nat → Prop} {p n : Nat} {a : Option Addr} {c : Nat} {ob : Option Nat} (w : World) (hH : HeapIs w.heap B p n l a c ob) (hl : n ≤ 100000) (J : Int) (hJ : 0 ≤ J ∧ J < n) :
    Calls Tryd.prog 49 #[.iface 72 (.pointer (some ⟨p, 0, none⟩)), .int .i64 J] w (PostPerm w B p n l a c ob) := by
  have a1 := ahLess ⟨p, 0, none⟩
  have a2 := ahSwap ⟨p, 0, none⟩
  obtain ⟨j0, j1⟩ := hJ
  go_enter Tryd.func49, Tryd.ntmps49
  go_wp2
  go_loopw [1] (fun s1 wr => ∃ (j : Int) (l' : List Pl), s1 = .int .i64 j ∧ 0 ≤ j ∧ j < n ∧ Hid (l'.Perm l) ∧ HeapIs wr.heap B p n l' a c ob ∧ Fr B w wr) (fun s _ => (intOf s).toNat)
  case atStart => exact ⟨J, l, rfl, j0, j1, List.Perm.refl _, hH, Fr.refl _ _⟩
  case round =>
    clear hH j0 j1
    obtain ⟨j, l', rfl, j0, j1, hP, hH, hF⟩ := hrel
    have m1 := meLess hH.cell
    have m2 := fun k : Nat => meSwap (w := wr.drewN k) hH.cell
    by_cases h0 : j = 0
    · subst h0
      go_wp2
      go_end0
      exact ⟨⟨_, rfl⟩, ⟨l', hP.out, hH⟩, hF⟩
    · have k0 : 0 ≤ j - 1 := by omega
      have k1 : 1 ≤ j := by omega
      have k2 : ((j - 1) / 2 == j) = false := by simp; omega
      have k3 : ¬ (j - 1) / 2 = j := by omega
      clear h0
      go_wp2_with (go_at_call 82; refine (less_at _ hH hl j ((j - 1) / 2) ⟨j0, j1⟩ ⟨by omega, by omega⟩).mono ?_; rintro e1 w1 ⟨b, rfl, n1, rfl⟩)
      · go_end0
        exact ⟨⟨_, rfl⟩, ⟨l', hP.out, hH⟩, hF.drewN n1⟩
      · go_wp2_with (go_at_call 85; refine (swap_at _ (hH.fr ((Fr.refl (fun _ => False) wr).drewN n1) (fun _ _ h => h)) hl ((j - 1) / 2) j ⟨by omega, by omega⟩ ⟨j0, j1⟩).mono ?_; rintro e2 w2 ⟨rfl, ⟨l2, hP2, hH2⟩, hF2⟩)
        have HP := Lib.hid (hP2.trans hP.out)
        clear hP2
        go_wp2
        go_roundw
        case rel => exact ⟨(j - 1) / 2, l2, rfl, by omega, by omega, HP, hH2, (hF.drewN n1).trans hF2⟩
        case measure => simp [intOf]; omega

set_option maxRecDepth 100000 in
set_option maxHeartbeats 2000000 in
theorem down_any {l : List Pl} {B : Nat → Prop} {p n : Nat} {a : Option Addr} {c : Nat} {ob : Option Nat} (w : World) (hH : HeapIs w.heap B p n l a c ob) (hl : n ≤ 100000) (M : Int) (hM : 0 ≤ M ∧ M ≤ n) :
    Calls Tryd.prog 48 #[.iface 72 (.pointer (some ⟨p, 0, none⟩)), .int .i64 0, .int .i64 M] w (PostPerm w B p n l a c ob) := by
  have a1 := ahLess ⟨p, 0, none⟩
  have a2 := ahSwap ⟨p, 0, none⟩
  obtain ⟨m0, m1⟩ := hM
  go_enter Tryd.func48, Tryd.ntmps48
  go_wp2
  go_loopw [7] (fun s7 wr => ∃ (i : Int) (l' : List Pl), s7 = .int .i64 i ∧ 0 ≤ i ∧ i ≤ M ∧ Hid (l'.Perm l) ∧ HeapIs wr.heap B p n l' a c ob ∧ Fr B w wr) (fun s _ => (M - intOf s).toNat)
  case atStart => exact ⟨0, l, rfl, by omega, by omega, List.Perm.refl _, hH, Fr.refl _ _⟩
  case round =>
    clear hH
    obtain ⟨i, l', rfl, i0, i1, hP, hH, hF⟩ := hrel
    have m1 := fun k : Nat => meLess (w := wr.drewN k) hH.cell
    have m2 := fun k : Nat => meSwap (w := wr.drewN k) hH.cell
    have m3 := meLess hH.cell
    by_cases h0 : 2 * i + 1 < M
    · have k1 : ¬ M ≤ 2 * i + 1 := by omega
      have k2 : 0 ≤ 2 * i := by omega
      have k3 : 0 ≤ 2 * i + 1 := by omega
      have k4 : ¬ 2 * i + 1 < 0 := by omega
      by_cases h1 : 2 * i + 1 + 1 < M
      · go_wp2_with (fail)
        refine (less_at _ hH hl (2 * i + 1 + 1) (2 * i + 1) ⟨by omega, by omega⟩ ⟨by omega, by omega⟩).mono ?_
        rintro e1 w1 ⟨b, rfl, n1, rfl⟩
        cases b
        · go_wp2_with (fail)
          refine (less_at _ (HeapIs.fr (S := fun _ => False) hH ((Fr.refl _ wr).drewN n1) (fun _ _ h => h)) hl (2 * i + 1) i ⟨by omega, by omega⟩ ⟨by omega, by omega⟩).mono ?_
          rintro e2 w2 ⟨b2, rfl, n2, rfl⟩
          cases b2
          · go_wp2_with (fail)
            go_ret
            exact ⟨⟨_, rfl⟩, ⟨l', hP.out, hH⟩, hF.drewN (n1 + n2)⟩
          · go_wp2_with (fail)
            refine (swap_at _ (HeapIs.fr (S := fun _ => False) hH ((Fr.refl _ wr).drewN (n1 + n2)) (fun _ _ h => h)) hl i (2 * i + 1) ⟨by omega, by omega⟩ ⟨by omega, by omega⟩).mono ?_
            rintro e3 w3 ⟨rfl, ⟨l3, hP3, hH3⟩, hF3⟩
            have HP := Lib.hid (hP3.trans hP.out)
            clear hP3
            go_wp2
            go_roundw
            case rel => exact ⟨2 * i + 1, l3, rfl, by omega, by omega, HP, hH3, (hF.drewN (n1 + n2)).trans hF3⟩
            case measure => simp [intOf]; omega
        · go_wp2_with (fail)
          refine (less_at _ (HeapIs.fr (S := fun _ => False) hH ((Fr.refl _ wr).drewN n1) (fun _ _ h => h)) hl (2 * i + 1 + 1) i ⟨by omega, by omega⟩ ⟨by omega, by omega⟩).mono ?_
          rintro e2 w2 ⟨b2, rfl, n2, rfl⟩
          cases b2
          · go_wp2_with (fail)
            go_ret
            exact ⟨⟨_, rfl⟩, ⟨l', hP.out, hH⟩, hF.drewN (n1 + n2)⟩
          · go_wp2_with (fail)
            refine (swap_at _ (HeapIs.fr (S := fun _ => False) hH ((Fr.refl _ wr).drewN (n1 + n2)) (fun _ _ h => h)) hl i (2 * i + 1 + 1) ⟨by omega, by omega⟩ ⟨by omega, by omega⟩).mono ?_
            rintro e3 w3 ⟨rfl, ⟨l3, hP3, hH3⟩, hF3⟩
            have HP := Lib.hid (hP3.trans hP.out)
            clear hP3
            go_wp2
            go_roundw
            case rel => exact ⟨2 * i + 1 + 1, l3, rfl, by omega, by omega, HP, hH3, (hF.drewN (n1 + n2)).trans hF3⟩
            case measure => simp [intOf]; omega
      · have k5 : M ≤ 2 * i + 1 + 1 := by omega
        go_wp2_with (fail)
        refine (less_at _ hH hl (2 * i + 1) i ⟨by omega, by omega⟩ ⟨by omega, by omega⟩).mono ?_
        rintro e2 w2 ⟨b2, rfl, n2, rfl⟩
        cases b2
        · go_wp2_with (fail)
          go_ret
          exact ⟨⟨_, rfl⟩, ⟨l', hP.out, hH⟩, (hF).drewN n2⟩
        · go_wp2_with (fail)
          refine (swap_at _ (HeapIs.fr (S := fun _ => False) hH ((Fr.refl _ _).drewN n2) (fun _ _ h => h)) hl i (2 * i + 1) ⟨by omega, by omega⟩ ⟨by omega, by omega⟩).mono ?_
          rintro e3 w3 ⟨rfl, ⟨l3, hP3, hH3⟩, hF3⟩
          have HP := Lib.hid (hP3.trans hP.out)
          clear hP3
          go_wp2
          go_roundw
          case rel => exact ⟨2 * i + 1, l3, rfl, by omega, by omega, HP, hH3, ((hF).drewN n2).trans hF3⟩
          case measure => simp [intOf]; omega
    · have k1 : M ≤ 2 * i + 1 := by omega
      have k2 : 0 ≤ 2 * i := by omega
      have k3 : 0 ≤ 2 * i + 1 := by omega
      clear h0
      go_wp2
      go_ret
      exact ⟨⟨_, rfl⟩, ⟨l', hP.out, hH⟩, hF⟩

/-- One more on the heap. -/
def PostPut (w : World) (B : Nat → Prop) (p n : Nat) (l : List Pl) (x : Pl) (e : Ending) (w' : World) : Prop :=
  e = .returned (.tuple #[]) ∧ (∃ l' : List Pl, l'.Perm (x :: l) ∧ HeapAt w'.heap B p (n + 1) l') ∧ Fr B w w'
set_option maxRecDepth 100000 in
set_option maxHeartbeats 1000000 in
theorem put_any {l : List Pl} {B : Nat → Prop} {p n : Nat} (w : World) (hH : HeapAt w.heap B p n l) (hB : ∀ k, w.heap.size ≤ k → B k) (hl : n < 100000) (xf xv : Int) :
    Calls Tryd.prog 40 #[.iface 72 (.pointer (some ⟨p, 0, none⟩)), .iface 74 (.agg #[.int .i64 xf, .int .i64 xv])] w (PostPut w B p n l ⟨xf, xv⟩) := by
  have a1 := ahPush ⟨p, 0, none⟩
  have a2 := ahLen ⟨p, 0, none⟩
  have m1 := mePush ⟨p, 0, none⟩
  go_enter Tryd.func40, Tryd.ntmps40
  go_wp2_with (fail)
  refine (hpush_any w hH hB (by omega) ⟨xf, xv⟩).mono ?_
  rintro e1 w1 ⟨rfl, ⟨a, c, ob, hH1⟩, hF1⟩
  have m2 := meLen hH1.cell
  have m3 : IntKind.i64.wrap ((n : Int) + 1) = (n : Int) + 1 := IntWalk.i64_in _ (by omega)
  go_wp2_with (fail)
  refine (hlen_any a (n + 1) c w1).mono ?_
  rintro e2 w2 ⟨rfl, rfl⟩
  clear m3
  go_wp2_with (fail)
  refine (up_any w1 hH1 (by omega) n ⟨by omega, by omega⟩).mono ?_
  rintro e3 w3 ⟨⟨v, rfl⟩, ⟨l3, hP3, hH3⟩, hF3⟩
  have HP := Lib.hid (hP3.trans (List.perm_append_singleton (⟨xf, xv⟩ : Pl) l))
  clear hP3
  go_wp2
  go_end0
  exact ⟨rfl, ⟨l3, HP.out, ⟨a, c, ob, hH3⟩⟩, hF1.trans hF3⟩

/-- One is taken. -/
def PostGot (w : World) (B : Nat → Prop) (p n : Nat) (l : List Pl) (e : Ending) (w' : World) : Prop :=
  ∃ (x : Pl) (l' : List Pl), e = .returned (.iface 74 (.agg #[.int .i64 x.f, .int .i64 x.v])) ∧ (x :: l').Perm l ∧ HeapAt w'.heap B p n l' ∧ Fr B w w'
set_option maxRecDepth 100000 in
set_option maxHeartbeats 1000000 in
theorem got_any {l : List Pl} {B : Nat → Prop} {p n : Nat} (w : World) (hH : HeapAt w.heap B p (n + 1) l) (hl : n < 100000) :
    Calls Tryd.prog 39 #[.iface 72 (.pointer (some ⟨p, 0, none⟩))] w (PostGot w B p n l) := by
  have a1 := ahPop ⟨p, 0, none⟩
  have a2 := ahLen ⟨p, 0, none⟩
  have a3 := ahSwap ⟨p, 0, none⟩
  have m1 := mePop ⟨p, 0, none⟩
  obtain ⟨a, c, ob, hH⟩ := hH
  have m2 := meLen hH.cell
  have m3 := meSwap hH.cell
  go_enter Tryd.func39, Tryd.ntmps39
  go_wp2_with (fail)
  refine (hlen_any a (n + 1) c w).mono ?_
  rintro e1 w1 ⟨rfl, rfl⟩
  go_wp2_with (fail)
  refine (swap_at _ hH (by omega) 0 n ⟨by omega, by omega⟩ ⟨by omega, by omega⟩).mono ?_
  rintro e2 w2 ⟨rfl, ⟨l2, hP2, hH2⟩, hF2⟩
  go_wp2_with (fail)
  refine (down_any w2 hH2 (by omega) n ⟨by omega, by omega⟩).mono ?_
  rintro e3 w3 ⟨⟨v, rfl⟩, ⟨l3, hP3, hH3⟩, hF3⟩
  have HP := Lib.hid (hP3.trans hP2)
  have hne : l3 ≠ [] := fun h => by have := hH3.len; rw [h] at this; simp at this
  obtain ⟨l4, x, rfl⟩ : ∃ l4 x, l3 = l4 ++ [x] := ⟨_, _, (List.dropLast_concat_getLast hne).symm⟩
  clear hP3 hP2 hne
  go_wp2_with (fail)
  refine (hpop_any w3 x ⟨a, c, ob, hH3⟩ (by omega)).mono ?_
  rintro e4 w4 ⟨rfl, hH4, hF4⟩
  go_wp2
  go_ret
  exact ⟨x, l4, rfl, (List.perm_append_singleton x l4).symm.trans HP.out, hH4, (hF2.trans hF3).trans hF4⟩
end Go.Proofs.YtakkljdeencfbaaDoor
