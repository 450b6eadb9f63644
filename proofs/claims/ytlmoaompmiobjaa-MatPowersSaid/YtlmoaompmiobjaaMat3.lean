import Derived.Test.YtlmoaompmiobjaaMat2
namespace Go.Proofs.Ytlmoaompmiobjaa
open Go.RowKit

abbrev at2 (rs : List (List Int)) (i k : Nat) : Int := nth (nth rs i) k
abbrev ran {α : Type} (n : Nat) (F : Nat → α) : List α := (List.range n).map F
def tab (n : Nat) (F : Nat → Nat → Int) : List (List Int) := ran n fun i => ran n (F i)
theorem ran_len {α : Type} (n : Nat) (F : Nat → α) : (ran n F).length = n := by simp
theorem nth_ran {α : Type} [Inhabited α] (n : Nat) (F : Nat → α) (i : Nat) (h : i < n) : nth (ran n F) i = F i := by simp [nth, List.getD, h]
theorem tab_len (n : Nat) (F : Nat → Nat → Int) : (tab n F).length = n := by simp [tab]
theorem at2_tab (n : Nat) (F : Nat → Nat → Int) (i k : Nat) (hi : i < n) (hk : k < n) : at2 (tab n F) i k = F i k := by
  unfold at2 tab; rw [nth_ran n _ i hi, nth_ran n _ k hk]
theorem ran_set {n : Nat} (F F' : Nat → Int) (k : Nat) (x : Int) (hk : k < n) (h1 : F' k = x) (h2 : ∀ c, c < n → c ≠ k → F' c = F c) : (ran n F).set k x = ran n F' := by
  apply ext_nth
  · simp
  · intro c hc
    have hc' : c < n := by simpa using hc
    rw [nth_set _ _ _ _ (by simpa using hk), nth_ran n F' c hc']
    split
    · rename_i h; subst h; exact h1.symm
    · rename_i h; rw [nth_ran n F c hc', h2 c hc' h]
theorem ran_ext {α : Type} {n : Nat} {F F' : Nat → α} (h : ∀ i, i < n → F i = F' i) : ran n F = ran n F' := List.map_congr_left (fun i hi => h i (List.mem_range.1 hi))

def imin (x y : Int) : Int := if y < x then y else x
/-- The least of 16 and the first j sums. -/
def mm (f g : Nat → Int) : Nat → Int
  | 0 => 16
  | j + 1 => imin (mm f g j) (f j + g j)
def mulM (n : Nat) (a b : List (List Int)) : List (List Int) := tab n fun i c => mm (fun j => at2 a i j) (fun j => at2 b j c) n
noncomputable def mulE (a b : List (List Int)) : Except Int (List (List Int)) :=
  match matErr a with
  | some k => .error k
  | none => match matErr b with
    | some k => .error k
    | none => if a.length ≠ b.length then .error 3 else .ok (mulM a.length a b)

theorem errOpt_some (k : Int) : errOpt (some k) = errv k := rfl
theorem errOpt_none : errOpt none = .nilIface := rfl

set_option maxRecDepth 100000 in
set_option maxHeartbeats 2000000 in
theorem mul_mat (a b : List (List Int)) (aa ab : Option Addr) (ca cb : Nat) (A B : Nat → Option Addr) (CA CB : Nat → Nat) (w : World) (hA : Mat w.heap aa a A CA) (hB : Mat w.heap ab b B CB) (la : a.length ≤ 9223372036854775807) (lb : b.length ≤ 9223372036854775807) :
    Calls Try.prog 17 #[.slice aa a.length ca, .slice ab b.length cb] w (RetMat w (mulE a b)) := by
  go_enter Try.func17, Try.ntmps17
  go_wp2_with (go_at_call 18; refine (check_any a aa ca A CA _ hA la).mono ?_)
  intro e1 w1 R1
  obtain ⟨rfl, hF1⟩ := R1
  cases ha : matErr a with
  | some k =>
    have hX := Lib.hid (show mulE a b = .error k by unfold mulE; rw [ha])
    clear ha
    rw [errOpt_some]
    go_wp2
    go_ret2
    exact RetMat.err hX.out rfl hF1
  | none =>
    have hTa := matErr_none.1 ha
    have HA := Lib.hid ha
    clear ha
    rw [errOpt_none]
    go_wp2_with (go_at_call 18; refine (check_any b ab cb B CB _ (hB.fr hF1 (fun _ _ h => h)) lb).mono ?_)
    intro e2 w2 R2
    obtain ⟨rfl, hF2⟩ := R2
    have hFw2 := hF1.trans hF2
    cases hb : matErr b with
    | some k =>
      have hX := Lib.hid (show mulE a b = .error k by unfold mulE; rw [HA.out, hb])
      clear hb
      rw [errOpt_some]
      go_wp2
      go_ret2
      exact RetMat.err hX.out rfl hFw2
    | none =>
      have hTb := matErr_none.1 hb
      have HB := Lib.hid hb
      clear hb
      rw [errOpt_none]
      by_cases hlen : a.length = b.length
      · have hne : ((a.length : Int) != (b.length : Int)) = false := by simp [hlen]
        have hX := Lib.hid (show mulE a b = .ok (mulM a.length a b) by unfold mulE; rw [HA.out, HB.out]; simp only; rw [if_neg (by simpa using hlen)])
        have n1 := hTa.n1
        have n8 := hTa.n8
        rw [← hlen] at hTb
        have HL := Lib.hid hlen
        have hlb : (b.length : Int) = (a.length : Int) := by omega
        clear hlen
        have hA2 := hA.fr hFw2 (fun _ _ h => h)
        have hB2 := hB.fr hFw2 (fun _ _ h => h)
        generalize hn : a.length = n at *
        obtain ⟨E, hE⟩ : ∃ E : Nat → Nat → Nat → Int, E = fun i c j => mm (fun j => at2 a i j) (fun j => at2 b j c) j := ⟨_, rfl⟩
        have E0 : ∀ i c, E i c 0 = 16 := fun i c => by rw [hE]; rfl
        have ES : ∀ i c j, E i c (j + 1) = imin (E i c j) (nth (nth a i) j + nth (nth b j) c) := fun i c j => by rw [hE]; rfl
        have hX2 := Lib.hid (show mulE a b = .ok (tab n fun i c => E i c n) by rw [hX.out, hE]; rfl)
        clear hX hE
        go_wp2
        go_loopw [34, 8] (fun s34 s8 wr => ∃ (i : Nat) (ao : Option Addr) (co : Nat) (ob : Option Nat) (G C : Nat → Nat), i ≤ n ∧ s34 = .int .i64 i ∧ s8 = .slice ao i co ∧ OMat wr.heap w.heap.size 28 3 ao co ob (ran i fun i => ran n fun c => E i c n) G C ∧ Fr (fun _ => False) w wr) (fun s _ _ => n - (intOf s).toNat)
        case atStart => exact ⟨0, none, 0, none, fun _ => 0, fun _ => 0, by omega, rfl, rfl, OMat.nil _ _ _ _ _ _, hFw2⟩
        case round =>
          obtain ⟨i, ao, co, ob, G, C, hi, rfl, rfl, hM, hF⟩ := hrel
          by_cases hlt : i < n
          · have hAr := hA.fr hF (fun _ _ h => h)
            have hrow := hAr.row i (by omega)
            have hAi : ∃ b off, aa = some ⟨b, off, none⟩ ∧ b < w.heap.size ∧ wr.cell? ⟨b, off + i, none⟩ = some (.slice (A i) n (CA i)) := by
              obtain ⟨b, off, h1, _, h2⟩ := hAr.pos (by omega)
              obtain ⟨b', off', h1', h3', _⟩ := hA.pos (by omega)
              rw [h1] at h1'
              cases h1'
              have := h2 wr rfl i (by omega)
              rw [hTa.rows i hlt] at this
              exact ⟨b, off, h1, h3', this⟩
            obtain ⟨bA, oA, rfl, -, hck⟩ := hAi
            have hlit := (Own.made wr 3 1 1 [.int .i64 16] rfl (by decide)).rd
            go_wp2_with (go_at_call 26; refine (repeat_int 16 _ 1 n _ hlit (by omega) (by omega)).mono ?_)
            intro e3 w3 R3
            obtain ⟨a3, c3, ob3, rfl, hO3, hF3, hN3⟩ := R3
            have hFw3 : Fr (fun _ => False) w w3 := (hF.alloc _).trans hF3
            have hM3 := hM.fr ((Fr.refl _ wr).alloc (.cells #[.int .i64 16] 3) |>.trans hF3) (fun _ _ _ h => h)
            obtain ⟨g, rfl, rfl, hg, -, -⟩ := hO3.pos (by omega)
            have hgn : wr.heap.size < g := by have := hN3 g rfl; simp at this; omega
            have hgw : w.heap.size ≤ g := by have := hF.size; omega
            have hO3' : Own w3.heap 3 1 (some ⟨g, 0, none⟩) n c3 (ivals .i64 (ran n fun c => E i c 0)) (some g) := by
              have e : (ran n fun c => E i c 0) = List.replicate n 16 := by
                apply ext_nth (by simp)
                intro k hk
                rw [nth_ran n _ k (by simpa using hk), nth_replicate _ _ _ (by simpa using hk), E0]
              rw [e]; exact hO3
            clear hO3 hlit hck hAr hrow
            go_wp2
            go_loopw [44] (fun s44 wx => ∃ j : Nat, j ≤ n ∧ s44 = .int .i64 j ∧ Own wx.heap 3 1 (some ⟨g, 0, none⟩) n c3 (ivals .i64 (ran n fun c => E i c j)) (some g) ∧ Fr (fun k => k = g) w3 wx) (fun s _ => n - (intOf s).toNat)
            case atStart => exact ⟨0, by omega, rfl, hO3', Fr.refl _ _⟩
            case round =>
              clear hO3'
              obtain ⟨j, hj, rfl, hO4, hF4⟩ := hrel
              obtain ⟨wx, hwx⟩ : ∃ wx, wx = wr := ⟨_, rfl⟩
              subst hwx
              by_cases hjl : j < n
              · have hFx := hFw3.trans' hF4 (fun q hq h => by omega)
                obtain ⟨bR, oR, hAi, -, hcR⟩ := Ints.pos ((hA.fr hFx (fun _ _ h => h)).row i (by omega)) (by rw [hTa.rows i hlt]; omega)
                have hcij := hcR wx rfl j (by rw [hTa.rows i hlt]; exact hjl)
                have hBx := hB.fr hFx (fun _ _ h => h)
                obtain ⟨bB, oB, rfl, -, hcB⟩ := hBx.pos (by omega)
                have hcb := hcB wx rfl j (by omega)
                rw [hTb.rows j hjl] at hcb
                have hBl := HL.out
                have hrj := hB.row j (by omega)
                rw [hTb.rows j hjl] at hrj
                obtain ⟨bS, oS, hBj, hbS, hcS⟩ := Ints.pos hrj (by omega)
                have hS : ∀ k, k < n → wx.cell? ⟨bS, oS + k, none⟩ = some (.int .i64 (nth (nth b j) k)) := fun k hk => (hFx.cell (p := ⟨bS, oS + k, none⟩) hbS (fun x => x)).trans (hcS w rfl k hk)
                have hxs := hFx.size
                clear hcR hcB hcS hBx hrj
                go_wp2
                go_loopw [54] (fun s54 wy => ∃ k : Nat, k ≤ n ∧ s54 = .int .i64 k ∧ Own wy.heap 3 1 (some ⟨g, 0, none⟩) n c3 (ivals .i64 (ran n fun c => if c < k then E i c (j + 1) else E i c j)) (some g) ∧ Fr (fun k => k = g) wx wy) (fun s _ => n - (intOf s).toNat)
                case atStart => exact ⟨0, by omega, rfl, by simpa using hO4, Fr.refl _ _⟩
                case round =>
                  obtain ⟨k, hk, rfl, hO5, hF5⟩ := hrel
                  by_cases hkl : k < n
                  · obtain ⟨_, h5, h6, -, hc5, hf5⟩ := hO5.pos (by omega)
                    cases h5
                    cases h6
                    have hck := (hc5 k (by omega)).trans (ivals_get .i64 _ k (by simpa using hkl))
                    rw [nth_ran n _ k hkl, if_neg (Nat.lt_irrefl k)] at hck
                    have hfk := hf5 k
                    obtain ⟨dA1, dA2⟩ := hTa.dist i j hlt hjl
                    obtain ⟨dB1, dB2⟩ := hTb.dist j k hjl hkl
                    have hsk : wr.cell? ⟨bS, oS + k, none⟩ = some (.int .i64 (nth (nth b j) k)) := (hF5.cell (p := ⟨bS, oS + k, none⟩) (by show bS < _; omega) (by show ¬ bS = g; omega)).trans (hS k hkl)
                    clear hc5 hf5
                    have hset := hO5.set rfl k (.int .i64 (E i k (j + 1)))
                    have e : (ivals .i64 (ran n fun c => if c < k then E i c (j + 1) else E i c j)).set k (.int .i64 (E i k (j + 1))) = ivals .i64 (ran n fun c => if c < k + 1 then E i c (j + 1) else E i c j) := by
                      rw [ivals, ← List.map_set]
                      rw [ran_set (F' := fun c => if c < k + 1 then E i c (j + 1) else E i c j) _ k _ hkl (if_pos (Nat.lt_succ_self k)) (fun c hc hne => by
                        by_cases h : c < k
                        · rw [if_pos h, if_pos (by omega)]
                        · rw [if_neg h, if_neg (by omega)])]
                    rw [e] at hset
                    clear e
                    have hES := ES i k j
                    simp only [imin] at hES
                    have HES := Lib.hid hES
                    clear hES hO5
                    go_wp2
                    go_roundw
                    case rel => exact ⟨k + 1, by omega, by go_num, by rw [← HES.out]; exact hset, hF5.at1 k _⟩
                    case measure => simp [intOf]; omega
                  · obtain rfl : k = n := by omega
                    have e : (ran k fun c => if c < k then E i c (j + 1) else E i c j) = ran k fun c => E i c (j + 1) := ran_ext (fun c hc => if_pos hc)
                    rw [e] at hO5
                    clear e
                    go_wp2
                    go_roundw
                    case rel => exact ⟨j + 1, by omega, by go_num, hO5, hF4.trans hF5⟩
                    case measure => simp [intOf]; omega
              · obtain rfl : j = n := by omega
                have hFx := hFw3.trans' hF4 (fun q hq h => by omega)
                have hlen : (ran i fun i => ran j fun c => E i c j).length = i := ran_len _ _
                have hrl : (ran j fun c => E i c j).length = j := ran_len _ _
                have hob : ob ≠ some g := fun h => by have := (hM.top.lt g h); omega
                have hGg : ∀ q, q < i → G q ≠ g := fun q hq h => by have := (hM.row q (by rw [hlen]; exact hq)).lt _ rfl; omega
                have hM4 := hM3.fr' hF4 (fun k hk => by subst hk; exact ⟨fun q hq => hGg q (by rw [hlen] at hq; exact hq), hob⟩)
                have htop := (hM4.alloc (.cells #[.slice (some ⟨g, 0, none⟩) j c3] 28)).top
                rw [hlen] at htop
                have hrd := (Own.made wx 28 1 1 [.slice (some ⟨g, 0, none⟩) j c3] rfl (by decide)).rd
                go_wp2_with (at_builtin; refine wpList_app rfl _ _ 27 rfl Try.underlying27 infoInts rfl (by decide) rfl rfl htop hrd (by simp [Value.oneCell']) (by omega) (by omega) ?_)
                intro a' c' w6 ob' z1 z2 z3
                go_wp2
                have hP := OMat.push (r := ran j fun c => E i c j) (cr := c3) (hM4.alloc (.cells #[.slice (some ⟨g, 0, none⟩) j c3] 28)) (by rw [hrl]; exact hO4.alloc _) hgw hob (fun q hq => hGg q (by rw [hlen] at hq; exact hq)) (by have := (hFx.alloc (.cells #[.slice (some ⟨g, 0, none⟩) j c3] 28)).size; exact this) (by rw [hlen, hrl]) (by rw [hlen]; exact z1) z2 (by simpa using z3)
                have hF6 := Fr.app (hFx.alloc _) z2 (fun k hk => (hM4.obn k hk).1)
                have e : (ran i fun i => ran j fun c => E i c j) ++ [ran j fun c => E i c j] = ran (i + 1) fun i => ran j fun c => E i c j := by simp [ran, List.range_succ]
                rw [e] at hP
                clear e htop hrd hO4 z1 z2 z3 hM4 hM3 hM
                go_roundw
                case rel => exact ⟨i + 1, a', c', ob', _, _, by omega, by go_num, rfl, hP, hF6⟩
                case measure => simp [intOf]; omega
          · obtain rfl : i = n := by omega
            go_wp2
            go_ret2
            exact RetMat.ok hX2.out (by rw [tab_len]; rfl) hM hF
      · have hne : ((a.length : Int) != (b.length : Int)) = true := by simp; omega
        have hX := Lib.hid (show mulE a b = .error 3 by unfold mulE; rw [HA.out, HB.out]; simp only; rw [if_pos hlen])
        clear hlen
        go_wp2
        go_ret2
        exact RetMat.err hX.out rfl hFw2
end Go.Proofs.Ytlmoaompmiobjaa
