/- TrieOwn's walk: what a table of nets told is the asker's, at every list of nets. -/
import Derived.Test.YtbmeeglehbaggaaTrieList
import Derived.Test.YtbmeeglehbaggaaNetsOwn
import Derived.Test.YtbmeeglehbaggaaNetSame
namespace Go.Proofs.Ytbmeeglehbaggaa
open Go.RowKit

/-- A table that lies beyond what was there. -/
theorem Fr.trie {w w1 w2 : World} {base bt : Nat} {N : Int → Nat → Option Nat} {C : List Nt} {V : Nt → Int} (h : IsTrie w1.heap base bt N C V) (hF : Fr (fun _ => False) w w1) (hb : w.heap.size ≤ base) (h2 : Fr (Tof N) w1 w2) : Fr (fun _ => False) w w2 :=
  hF.trans' h2 (fun i hi ⟨a, k, hk⟩ => by have := (h.ok a k i hk).2.2.2; omega)
set_option maxRecDepth 100000 in
set_option maxHeartbeats 16000000 in
theorem trieOwn_any (l : List Nt) (al : Option Addr) (cl : Nat) (x : Int) (w : World) (hL : Recs w.heap al 2 Nt.cells l) (hw : ∀ x ∈ l, 0 ≤ x.a ∧ x.a < 4294967296) (hll : l.length ≤ 9223372036854775807) :
    Calls Try.prog 4 #[.slice al l.length cl, .int .i64 x] w (RetV w (.bool true)) := by
  have HL := Lib.hid hL
  have HW := Lib.hid hw
  clear hL hw
  go_enter Try.func4, Try.ntmps4
  go_wp2_with (fail)
  refine (trieNew_any w).mono ?_
  rintro e1 w1 ⟨rfl, rfl⟩
  have hT0 := isTrie_new w w.heap.size (Nat.le_refl _)
  have hF0 := (Fr.refl (fun _ => False) w).alloc (.cells #[.bool false, .int .i64 0, .pointer none, .pointer none, .int .i64 0] 88)
  have hp := put_any 0 0 3 _ hT0 (by omega) (by simp)
  generalize w.alloc (.cells #[.bool false, .int .i64 0, .pointer none, .pointer none, .int .i64 0] 88) = w1 at *
  go_wp2_with (fail)
  refine hp.mono ?_
  intro e2 w2 R2
  have hpe : putE [] 0 0 = none := by unfold putE; rw [show netErr 0 0 = none by decide]; rfl
  obtain ⟨rfl, N2, V2, hT2, -, -, hF2, hN2⟩ := R2.okE hpe
  have hF02 := Fr.trie hT0 hF0 (Nat.le_refl _) hF2
  have hc1 : (putC [] (⟨0, 0⟩ : Nt)).length = 1 := by decide
  generalize putC [] (⟨0, 0⟩ : Nt) = C2 at *
  have hl2 := list_any w2 hT2
  rw [hc1] at hl2
  have HT2 := Lib.hid hT2
  clear hp hpe R2 hF2 hN2 hT0 hF0 hT2 hc1
  go_wp2_with (fail)
  refine hl2.mono ?_
  rintro e3 w3 ⟨a3, c3, ob3, rfl, -, hF3, -⟩
  have hT3 := HT2.out.fr0 hF3
  have hF03 := hF02.trans hF3
  clear hl2 hF3 hF02 HT2
  go_wp2
  go_loopw [6] (fun s6 wr => ∃ (i : Nat) (N : Int → Nat → Option Nat) (C : List Nt) (V : Nt → Int), i ≤ l.length ∧ s6 = .int .i64 i ∧ IsTrie wr.heap w.heap.size w.heap.size N C V ∧ Fr (fun _ => False) w wr) (fun s _ => l.length - (intOf s).toNat)
  case atStart => exact ⟨0, N2, C2, V2, by omega, rfl, hT3, hF03⟩
  case round =>
    clear hT3 hF03
    obtain ⟨i, N, C, V, hi, rfl, hT, hF⟩ := hrel
    by_cases hil : i < l.length
    · obtain ⟨g, o, rfl, hgl, hgc⟩ := Recs.pos HL.out Nt.cells_len (by omega) (by omega)
      have d0 := (hF.cell (p := ⟨g, o + (i * 2 + 0), none⟩) hgl (fun h => h)).trans (hgc w rfl i 0 hil (by omega))
      have d1 := (hF.cell (p := ⟨g, o + (i * 2 + 1), none⟩) hgl (fun h => h)).trans (hgc w rfl i 1 hil (by omega))
      have hx := HW.out _ (nth_mem l i hil)
      generalize nth l i = y at *
      obtain ⟨ya, yn⟩ := y
      simp only [Nt.cells, List.getElem?_cons_zero, List.getElem?_cons_succ, ← Nat.add_assoc, Nat.add_zero] at d0 d1 hx
      have hp := put_any ya yn i wr hT hx hF.size
      have hgw := Nat.lt_of_lt_of_le hgl hF.size
      have HT := Lib.hid hT
      clear hgc hT
      go_wp2_with (fail)
      refine hp.mono ?_
      intro e4 w4 R4
      cases hpe : putE C ya yn with
      | some q =>
        obtain ⟨rfl, hF4⟩ := R4.errE hpe
        have hT4 := HT.out.fr0 hF4
        have hF04 := hF.trans hF4
        clear R4 hp hpe hF4 hF d0 d1 HT
        go_wp2
        go_roundw
        case rel => exact ⟨i + 1, N, C, V, by omega, by go_num, hT4, hF04⟩
        case measure => simp [intOf]; omega
      | none =>
        obtain ⟨rfl, N4, V4, hT4, -, -, hF4, -⟩ := R4.okE hpe
        have hF04 := Fr.trie HT.out hF (Nat.le_refl _) hF4
        clear R4 hp hpe hF4 hF d0 d1 HT
        go_wp2
        go_roundw
        case rel => exact ⟨i + 1, N4, _, V4, by omega, by go_num, hT4, hF04⟩
        case measure => simp [intOf]; omega
    · obtain rfl : i = l.length := by omega
      have hcl := hT.len
      have h5 := list_any wr hT
      have HT := Lib.hid hT
      clear hT
      obtain ⟨n, hn⟩ : ∃ n, n = C.length := ⟨_, rfl⟩
      rw [← hn] at h5 hcl
      have HN := Lib.hid hn
      clear hn
      go_wp2_with (fail)
      refine h5.mono ?_
      rintro e5 w5 ⟨a5, c5, ob5, rfl, hO5, hF5, -⟩
      have hT5 := HT.out.fr0 hF5
      have h6 := netsCopy_any C a5 c5 w5 (by show Rd _ _ _ _ _; rw [← HN.out]; exact hO5.rd) HN.out (by omega)
      have hF05 := hF.trans hF5
      clear h5 hO5 hF5 hF HT
      go_wp2_with (fail)
      refine h6.mono ?_
      rintro e6 w6 ⟨a6, c6, ob6, rfl, hO6, hF6, hN6⟩
      have hT6 := hT5.fr0 hF6
      have hF06 := hF05.trans hF6
      have h7 := list_any w6 hT6
      rw [← HN.out] at h7
      clear h6 hF05 hF6 hT5
      go_wp2_with (fail)
      refine h7.mono ?_
      rintro e7 w7 ⟨a7, c7, ob7, rfl, hO7, hF7, hN7⟩
      have hT7 := hT6.fr0 hF7
      have hO67 := hO6.fr hF7 (fun _ _ h => h)
      have hF07 := hF06.trans hF7
      have h8 := netsSpoil_any ob7 a7 c7 C x w7 HN.out.symm hO7
      have hlt7 := hO6.lt
      have hltT := hT6.lt
      have hs7 := hF06.size
      clear h7 hO7 hF7 hF06 hO6
      go_wp2_with (fail)
      refine h8.mono ?_
      rintro e8 w8 ⟨rfl, hF8⟩
      have hT8 := hT7.fr hF8 (fun k hk hs => by have h1 := hN7 k hs; have h2 := hltT k hk; omega)
      have hO8 := hO67.fr hF8 (fun g hg hs => by have h1 := hN7 g hs; have h2 := hlt7 g hg; omega)
      have hF08 := hF07.trans' hF8 (fun i hi hs => by have h1 := hN7 i hs; omega)
      have h9 := list_any w8 hT8
      rw [← HN.out] at h9
      clear h8 hT7 hO67 hF07 hF8 hT6 hT8 hlt7 hltT hN7
      go_wp2_with (fail)
      refine h9.mono ?_
      rintro e9 w9 ⟨a9, c9, ob9, rfl, hO9, hF9, -⟩
      have hO69 := hO8.fr hF9 (fun _ _ h => h)
      have hF09 := hF08.trans hF9
      have h10 := snets_any C C a9 a6 c9 c6 w9 (by show Rd _ _ _ _ _; rw [← HN.out]; exact hO9.rd) (by show Rd _ _ _ _ _; rw [← HN.out]; exact hO69.rd) (by rw [← HN.out]; omega) (by rw [← HN.out]; omega) HN.out HN.out
      rw [decide_eq_true rfl] at h10
      clear h9 hO9 hF9 hO8 hF08 hO69
      go_wp2_with (fail)
      refine h10.mono ?_
      intro e11 w11 R11
      obtain ⟨rfl, hF11⟩ := R11.v
      have hFe := hF09.trans hF11
      clear h10 R11 hF09 hF11
      go_wp2
      go_ret
      exact RetV.mk rfl rfl hFe
end Go.Proofs.Ytbmeeglehbaggaa
