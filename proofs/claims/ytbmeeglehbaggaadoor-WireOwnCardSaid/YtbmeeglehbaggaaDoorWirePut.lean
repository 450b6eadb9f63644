import Derived.Test.YtbmeeglehbaggaaDoorWireW
namespace Go.Proofs.YtbmeeglehbaggaaDoor
open Go.RowKit
/-- Bytes put behind others. -/
def RetPut (w : World) (xs : List Int) (ys : List Int) (N : Nat) (ob : Option Nat) (e : Ending) (w' : World) : Prop :=
  ∃ a c ob', e = .returned (.slice a N c) ∧ Own w'.heap 5 1 a N c (ivals .u8 (xs ++ ys)) ob' ∧ Fr (fun k => ob = some k) w w' ∧ (ob' = ob ∨ ∃ g, ob' = some g ∧ w.heap.size ≤ g)
theorem ivals_app (k : IntKind) (a b : List Int) : ivals k a ++ ivals k b = ivals k (a ++ b) := by simp [ivals]
theorem ivals_u8_one (k : IntKind) (l : List Int) : ∀ u ∈ ivals k l, u.oneCell' = true := ivals_one k l

set_option maxRecDepth 100000 in
set_option maxHeartbeats 4000000 in
theorem put2_any {M : Nat} {a : Option Addr} {c : Nat} {ob : Option Nat} (xs : List Int) (n : Int) (w : World) (hO : Own w.heap 5 1 a M c (ivals .u8 xs) ob) (hn : 0 ≤ n ∧ n < 4294967296) (hM : M ≤ 1000000) :
    Calls Tryd.prog 57 #[.slice a M c, .int .u32 n, .int .i64 2] w (RetPut w xs (beB n 2) (M + 2) ob) := by
  go_enter Tryd.func57, Tryd.ntmps57
  go_wp2
  go_loopw [7, 0] (fun s7 s0 wr => ∃ (s : Int) (i : Nat) (a' : Option Addr) (c' : Nat) (ob' : Option Nat), s7 = .int .i64 s ∧ ((s = 8 ∧ i = 0) ∨ (s = 0 ∧ i = 1) ∨ (s = -8 ∧ i = 2)) ∧ s0 = .slice a' (M + i) c' ∧ Own wr.heap 5 1 a' (M + i) c' (ivals .u8 (xs ++ (beB n 2).take i)) ob' ∧ Fr (fun k => ob = some k) w wr ∧ (ob' = ob ∨ ∃ g, ob' = some g ∧ w.heap.size ≤ g)) (fun s _ _ => (intOf s + 8).toNat)
  case atStart => exact ⟨8, 0, a, c, ob, rfl, by omega, rfl, by simpa using hO, Fr.refl _ _, .inl rfl⟩
  case round =>
    obtain ⟨s, i, a', c', ob', rfl, hs, rfl, hO1, hF, hob⟩ := hrel
    have hwsz := hF.size
    rcases hs with ⟨rfl, rfl⟩ | ⟨rfl, rfl⟩ | ⟨rfl, rfl⟩
    · have hv : n / 2 ^ (8 * 1) % 256 = n / 256 % 256 := by
        rw [show (2 : Int) ^ (8 * 1) = 256 by decide]
        try omega
      obtain ⟨zs, hzs⟩ : ∃ zs, zs = xs ++ (beB n 2).take 0 := ⟨_, rfl⟩
      obtain ⟨N, hN⟩ : ∃ N, N = M + 0 := ⟨_, rfl⟩
      rw [← hzs, ← hN] at hO1
      rw [← hN]
      have hN1 : N ≤ 1000004 := by omega
      have HE := Lib.hid (show ivals .u8 (xs ++ (beB n 2).take (0 + 1)) = ivals .u8 zs ++ [.int .u8 (n / 256 % 256)] by
        rw [show (beB n 2).take (0 + 1) = (beB n 2).take 0 ++ [n / 2 ^ (8 * 1) % 256] from rfl, hv, hzs]
        simp [ivals])
      have HN := Lib.hid hN
      have hrd := rd_lit wr 5 [.int .u8 (n / 256 % 256)]
      have hOa := hO1.alloc (.cells #[.int .u8 (n / 256 % 256)] 5)
      have hFa := hF.alloc (.cells #[.int .u8 (n / 256 % 256)] 5)
      clear hv hzs hN
      go_wp2_with (at_builtin; refine wpList_app rfl _ _ 60 rfl Tryd.underlying60 infoU8 rfl (by decide) rfl rfl hOa hrd (by simp [Value.oneCell']) (by omega) (by omega) ?_)
      intro a8 c8 w8 ob8 v1 v2 v3
      have hF8 : Fr (fun k => ob = some k) w w8 := hFa.trans' v2 (fun i hi e => by
        rcases hob with h | ⟨g, h, h2⟩
        · rw [← h]; exact e
        · rw [h] at e; cases e; omega)
      have hsa : (wr.alloc (.cells #[.int .u8 (n / 256 % 256)] 5)).heap.size = wr.heap.size + 1 := by simp
      have hob8 : ob8 = ob ∨ ∃ g, ob8 = some g ∧ w.heap.size ≤ g := by
        rcases v3 with h | ⟨g, h, h2⟩
        · rw [h]; exact hob
        · exact .inr ⟨g, h, by omega⟩
      have v1' : Own w8.heap 5 1 a8 (M + (0 + 1)) c8 (ivals .u8 (xs ++ (beB n 2).take (0 + 1))) ob8 := by
        rw [HE.out, show M + (0 + 1) = N + 1 by have := HN.out; omega]; exact v1
      clear v1 v2 v3 hOa hrd hFa hO1 hF hob
      go_wp2
      go_roundw
      case rel => exact ⟨0, 0 + 1, a8, c8, ob8, by go_num, by omega, by rw [show M + (0 + 1) = N + 1 by have := HN.out; omega], v1', hF8, hob8⟩
      case measure => simp [intOf]
    · have hv : n / 2 ^ (8 * 0) % 256 = n % 256 := by
        rw [show (2 : Int) ^ (8 * 0) = 1 by decide]
        try omega
      obtain ⟨zs, hzs⟩ : ∃ zs, zs = xs ++ (beB n 2).take 1 := ⟨_, rfl⟩
      obtain ⟨N, hN⟩ : ∃ N, N = M + 1 := ⟨_, rfl⟩
      rw [← hzs, ← hN] at hO1
      rw [← hN]
      have hN1 : N ≤ 1000004 := by omega
      have HE := Lib.hid (show ivals .u8 (xs ++ (beB n 2).take (1 + 1)) = ivals .u8 zs ++ [.int .u8 (n % 256)] by
        rw [show (beB n 2).take (1 + 1) = (beB n 2).take 1 ++ [n / 2 ^ (8 * 0) % 256] from rfl, hv, hzs]
        simp [ivals])
      have HN := Lib.hid hN
      have hrd := rd_lit wr 5 [.int .u8 (n % 256)]
      have hOa := hO1.alloc (.cells #[.int .u8 (n % 256)] 5)
      have hFa := hF.alloc (.cells #[.int .u8 (n % 256)] 5)
      clear hv hzs hN
      go_wp2_with (at_builtin; refine wpList_app rfl _ _ 60 rfl Tryd.underlying60 infoU8 rfl (by decide) rfl rfl hOa hrd (by simp [Value.oneCell']) (by omega) (by omega) ?_)
      intro a8 c8 w8 ob8 v1 v2 v3
      have hF8 : Fr (fun k => ob = some k) w w8 := hFa.trans' v2 (fun i hi e => by
        rcases hob with h | ⟨g, h, h2⟩
        · rw [← h]; exact e
        · rw [h] at e; cases e; omega)
      have hsa : (wr.alloc (.cells #[.int .u8 (n % 256)] 5)).heap.size = wr.heap.size + 1 := by simp
      have hob8 : ob8 = ob ∨ ∃ g, ob8 = some g ∧ w.heap.size ≤ g := by
        rcases v3 with h | ⟨g, h, h2⟩
        · rw [h]; exact hob
        · exact .inr ⟨g, h, by omega⟩
      have v1' : Own w8.heap 5 1 a8 (M + (1 + 1)) c8 (ivals .u8 (xs ++ (beB n 2).take (1 + 1))) ob8 := by
        rw [HE.out, show M + (1 + 1) = N + 1 by have := HN.out; omega]; exact v1
      clear v1 v2 v3 hOa hrd hFa hO1 hF hob
      go_wp2
      go_roundw
      case rel => exact ⟨-8, 1 + 1, a8, c8, ob8, by go_num, by omega, by rw [show M + (1 + 1) = N + 1 by have := HN.out; omega], v1', hF8, hob8⟩
      case measure => simp [intOf]
    · go_wp2
      go_ret
      exact ⟨a', c', ob', rfl, hO1, hF, hob⟩

set_option maxRecDepth 100000 in
set_option maxHeartbeats 4000000 in
theorem put4_any {M : Nat} {a : Option Addr} {c : Nat} {ob : Option Nat} (xs : List Int) (n : Int) (w : World) (hO : Own w.heap 5 1 a M c (ivals .u8 xs) ob) (hn : 0 ≤ n ∧ n < 4294967296) (hM : M ≤ 1000000) :
    Calls Tryd.prog 57 #[.slice a M c, .int .u32 n, .int .i64 4] w (RetPut w xs (beB n 4) (M + 4) ob) := by
  go_enter Tryd.func57, Tryd.ntmps57
  go_wp2
  go_loopw [7, 0] (fun s7 s0 wr => ∃ (s : Int) (i : Nat) (a' : Option Addr) (c' : Nat) (ob' : Option Nat), s7 = .int .i64 s ∧ ((s = 24 ∧ i = 0) ∨ (s = 16 ∧ i = 1) ∨ (s = 8 ∧ i = 2) ∨ (s = 0 ∧ i = 3) ∨ (s = -8 ∧ i = 4)) ∧ s0 = .slice a' (M + i) c' ∧ Own wr.heap 5 1 a' (M + i) c' (ivals .u8 (xs ++ (beB n 4).take i)) ob' ∧ Fr (fun k => ob = some k) w wr ∧ (ob' = ob ∨ ∃ g, ob' = some g ∧ w.heap.size ≤ g)) (fun s _ _ => (intOf s + 8).toNat)
  case atStart => exact ⟨24, 0, a, c, ob, rfl, by omega, rfl, by simpa using hO, Fr.refl _ _, .inl rfl⟩
  case round =>
    obtain ⟨s, i, a', c', ob', rfl, hs, rfl, hO1, hF, hob⟩ := hrel
    have hwsz := hF.size
    rcases hs with ⟨rfl, rfl⟩ | ⟨rfl, rfl⟩ | ⟨rfl, rfl⟩ | ⟨rfl, rfl⟩ | ⟨rfl, rfl⟩
    · have hv : n / 2 ^ (8 * 3) % 256 = n / 16777216 := by
        rw [show (2 : Int) ^ (8 * 3) = 16777216 by decide]
        try omega
      obtain ⟨zs, hzs⟩ : ∃ zs, zs = xs ++ (beB n 4).take 0 := ⟨_, rfl⟩
      obtain ⟨N, hN⟩ : ∃ N, N = M + 0 := ⟨_, rfl⟩
      rw [← hzs, ← hN] at hO1
      rw [← hN]
      have hN1 : N ≤ 1000004 := by omega
      have HE := Lib.hid (show ivals .u8 (xs ++ (beB n 4).take (0 + 1)) = ivals .u8 zs ++ [.int .u8 (n / 16777216)] by
        rw [show (beB n 4).take (0 + 1) = (beB n 4).take 0 ++ [n / 2 ^ (8 * 3) % 256] from rfl, hv, hzs]
        simp [ivals])
      have HN := Lib.hid hN
      have hrd := rd_lit wr 5 [.int .u8 (n / 16777216)]
      have hOa := hO1.alloc (.cells #[.int .u8 (n / 16777216)] 5)
      have hFa := hF.alloc (.cells #[.int .u8 (n / 16777216)] 5)
      clear hv hzs hN
      go_wp2_with (at_builtin; refine wpList_app rfl _ _ 60 rfl Tryd.underlying60 infoU8 rfl (by decide) rfl rfl hOa hrd (by simp [Value.oneCell']) (by omega) (by omega) ?_)
      intro a8 c8 w8 ob8 v1 v2 v3
      have hF8 : Fr (fun k => ob = some k) w w8 := hFa.trans' v2 (fun i hi e => by
        rcases hob with h | ⟨g, h, h2⟩
        · rw [← h]; exact e
        · rw [h] at e; cases e; omega)
      have hsa : (wr.alloc (.cells #[.int .u8 (n / 16777216)] 5)).heap.size = wr.heap.size + 1 := by simp
      have hob8 : ob8 = ob ∨ ∃ g, ob8 = some g ∧ w.heap.size ≤ g := by
        rcases v3 with h | ⟨g, h, h2⟩
        · rw [h]; exact hob
        · exact .inr ⟨g, h, by omega⟩
      have v1' : Own w8.heap 5 1 a8 (M + (0 + 1)) c8 (ivals .u8 (xs ++ (beB n 4).take (0 + 1))) ob8 := by
        rw [HE.out, show M + (0 + 1) = N + 1 by have := HN.out; omega]; exact v1
      clear v1 v2 v3 hOa hrd hFa hO1 hF hob
      go_wp2
      go_roundw
      case rel => exact ⟨16, 0 + 1, a8, c8, ob8, by go_num, by omega, by rw [show M + (0 + 1) = N + 1 by have := HN.out; omega], v1', hF8, hob8⟩
      case measure => simp [intOf]
    · have hv : n / 2 ^ (8 * 2) % 256 = n / 65536 % 256 := by
        rw [show (2 : Int) ^ (8 * 2) = 65536 by decide]
        try omega
      obtain ⟨zs, hzs⟩ : ∃ zs, zs = xs ++ (beB n 4).take 1 := ⟨_, rfl⟩
      obtain ⟨N, hN⟩ : ∃ N, N = M + 1 := ⟨_, rfl⟩
      rw [← hzs, ← hN] at hO1
      rw [← hN]
      have hN1 : N ≤ 1000004 := by omega
      have HE := Lib.hid (show ivals .u8 (xs ++ (beB n 4).take (1 + 1)) = ivals .u8 zs ++ [.int .u8 (n / 65536 % 256)] by
        rw [show (beB n 4).take (1 + 1) = (beB n 4).take 1 ++ [n / 2 ^ (8 * 2) % 256] from rfl, hv, hzs]
        simp [ivals])
      have HN := Lib.hid hN
      have hrd := rd_lit wr 5 [.int .u8 (n / 65536 % 256)]
      have hOa := hO1.alloc (.cells #[.int .u8 (n / 65536 % 256)] 5)
      have hFa := hF.alloc (.cells #[.int .u8 (n / 65536 % 256)] 5)
      clear hv hzs hN
      go_wp2_with (at_builtin; refine wpList_app rfl _ _ 60 rfl Tryd.underlying60 infoU8 rfl (by decide) rfl rfl hOa hrd (by simp [Value.oneCell']) (by omega) (by omega) ?_)
      intro a8 c8 w8 ob8 v1 v2 v3
      have hF8 : Fr (fun k => ob = some k) w w8 := hFa.trans' v2 (fun i hi e => by
        rcases hob with h | ⟨g, h, h2⟩
        · rw [← h]; exact e
        · rw [h] at e; cases e; omega)
      have hsa : (wr.alloc (.cells #[.int .u8 (n / 65536 % 256)] 5)).heap.size = wr.heap.size + 1 := by simp
      have hob8 : ob8 = ob ∨ ∃ g, ob8 = some g ∧ w.heap.size ≤ g := by
        rcases v3 with h | ⟨g, h, h2⟩
        · rw [h]; exact hob
        · exact .inr ⟨g, h, by omega⟩
      have v1' : Own w8.heap 5 1 a8 (M + (1 + 1)) c8 (ivals .u8 (xs ++ (beB n 4).take (1 + 1))) ob8 := by
        rw [HE.out, show M + (1 + 1) = N + 1 by have := HN.out; omega]; exact v1
      clear v1 v2 v3 hOa hrd hFa hO1 hF hob
      go_wp2
      go_roundw
      case rel => exact ⟨8, 1 + 1, a8, c8, ob8, by go_num, by omega, by rw [show M + (1 + 1) = N + 1 by have := HN.out; omega], v1', hF8, hob8⟩
      case measure => simp [intOf]
    · have hv : n / 2 ^ (8 * 1) % 256 = n / 256 % 256 := by
        rw [show (2 : Int) ^ (8 * 1) = 256 by decide]
        try omega
      obtain ⟨zs, hzs⟩ : ∃ zs, zs = xs ++ (beB n 4).take 2 := ⟨_, rfl⟩
      obtain ⟨N, hN⟩ : ∃ N, N = M + 2 := ⟨_, rfl⟩
      rw [← hzs, ← hN] at hO1
      rw [← hN]
      have hN1 : N ≤ 1000004 := by omega
      have HE := Lib.hid (show ivals .u8 (xs ++ (beB n 4).take (2 + 1)) = ivals .u8 zs ++ [.int .u8 (n / 256 % 256)] by
        rw [show (beB n 4).take (2 + 1) = (beB n 4).take 2 ++ [n / 2 ^ (8 * 1) % 256] from rfl, hv, hzs]
        simp [ivals])
      have HN := Lib.hid hN
      have hrd := rd_lit wr 5 [.int .u8 (n / 256 % 256)]
      have hOa := hO1.alloc (.cells #[.int .u8 (n / 256 % 256)] 5)
      have hFa := hF.alloc (.cells #[.int .u8 (n / 256 % 256)] 5)
      clear hv hzs hN
      go_wp2_with (at_builtin; refine wpList_app rfl _ _ 60 rfl Tryd.underlying60 infoU8 rfl (by decide) rfl rfl hOa hrd (by simp [Value.oneCell']) (by omega) (by omega) ?_)
      intro a8 c8 w8 ob8 v1 v2 v3
      have hF8 : Fr (fun k => ob = some k) w w8 := hFa.trans' v2 (fun i hi e => by
        rcases hob with h | ⟨g, h, h2⟩
        · rw [← h]; exact e
        · rw [h] at e; cases e; omega)
      have hsa : (wr.alloc (.cells #[.int .u8 (n / 256 % 256)] 5)).heap.size = wr.heap.size + 1 := by simp
      have hob8 : ob8 = ob ∨ ∃ g, ob8 = some g ∧ w.heap.size ≤ g := by
        rcases v3 with h | ⟨g, h, h2⟩
        · rw [h]; exact hob
        · exact .inr ⟨g, h, by omega⟩
      have v1' : Own w8.heap 5 1 a8 (M + (2 + 1)) c8 (ivals .u8 (xs ++ (beB n 4).take (2 + 1))) ob8 := by
        rw [HE.out, show M + (2 + 1) = N + 1 by have := HN.out; omega]; exact v1
      clear v1 v2 v3 hOa hrd hFa hO1 hF hob
      go_wp2
      go_roundw
      case rel => exact ⟨0, 2 + 1, a8, c8, ob8, by go_num, by omega, by rw [show M + (2 + 1) = N + 1 by have := HN.out; omega], v1', hF8, hob8⟩
      case measure => simp [intOf]
    · have hv : n / 2 ^ (8 * 0) % 256 = n % 256 := by
        rw [show (2 : Int) ^ (8 * 0) = 1 by decide]
        try omega
      obtain ⟨zs, hzs⟩ : ∃ zs, zs = xs ++ (beB n 4).take 3 := ⟨_, rfl⟩
      obtain ⟨N, hN⟩ : ∃ N, N = M + 3 := ⟨_, rfl⟩
      rw [← hzs, ← hN] at hO1
      rw [← hN]
      have hN1 : N ≤ 1000004 := by omega
      have HE := Lib.hid (show ivals .u8 (xs ++ (beB n 4).take (3 + 1)) = ivals .u8 zs ++ [.int .u8 (n % 256)] by
        rw [show (beB n 4).take (3 + 1) = (beB n 4).take 3 ++ [n / 2 ^ (8 * 0) % 256] from rfl, hv, hzs]
        simp [ivals])
      have HN := Lib.hid hN
      have hrd := rd_lit wr 5 [.int .u8 (n % 256)]
      have hOa := hO1.alloc (.cells #[.int .u8 (n % 256)] 5)
      have hFa := hF.alloc (.cells #[.int .u8 (n % 256)] 5)
      clear hv hzs hN
      go_wp2_with (at_builtin; refine wpList_app rfl _ _ 60 rfl Tryd.underlying60 infoU8 rfl (by decide) rfl rfl hOa hrd (by simp [Value.oneCell']) (by omega) (by omega) ?_)
      intro a8 c8 w8 ob8 v1 v2 v3
      have hF8 : Fr (fun k => ob = some k) w w8 := hFa.trans' v2 (fun i hi e => by
        rcases hob with h | ⟨g, h, h2⟩
        · rw [← h]; exact e
        · rw [h] at e; cases e; omega)
      have hsa : (wr.alloc (.cells #[.int .u8 (n % 256)] 5)).heap.size = wr.heap.size + 1 := by simp
      have hob8 : ob8 = ob ∨ ∃ g, ob8 = some g ∧ w.heap.size ≤ g := by
        rcases v3 with h | ⟨g, h, h2⟩
        · rw [h]; exact hob
        · exact .inr ⟨g, h, by omega⟩
      have v1' : Own w8.heap 5 1 a8 (M + (3 + 1)) c8 (ivals .u8 (xs ++ (beB n 4).take (3 + 1))) ob8 := by
        rw [HE.out, show M + (3 + 1) = N + 1 by have := HN.out; omega]; exact v1
      clear v1 v2 v3 hOa hrd hFa hO1 hF hob
      go_wp2
      go_roundw
      case rel => exact ⟨-8, 3 + 1, a8, c8, ob8, by go_num, by omega, by rw [show M + (3 + 1) = N + 1 by have := HN.out; omega], v1', hF8, hob8⟩
      case measure => simp [intOf]
    · go_wp2
      go_ret
      exact ⟨a', c', ob', rfl, hO1, hF, hob⟩
end Go.Proofs.YtbmeeglehbaggaaDoor
