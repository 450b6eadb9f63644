/- GaoUp's walk: whoever one comes to from a node, going from customer to provider, has a way to it by a customer; at every n, deals and nodes. -/
import Derived.Test.YtbmeeglehbaggaaGaoWays2
namespace Go.Proofs.Ytbmeeglehbaggaa
open Go.RowKit

theorem whatM_cons (y : Lk) (l : List Lk) (p q : Int) : whatM (y :: l) p q = if hitB p q y = true then (if y.a = p ∧ y.b = q then y.c else 4 - y.c) else whatM l p q := by
  unfold whatM
  rw [List.find?_cons]
  cases h : hitB p q y <;> simp
set_option maxRecDepth 100000 in
set_option maxHeartbeats 2000000 in
theorem whatOf_any {n : Nat} (l : List Lk) (p q : Int) (a : Option Addr) (c : Nat) (w : World) (hL : Links w.heap a l) (hn : n = l.length) (hl : n ≤ 9223372036854775806) (hok : ∀ x ∈ l, 1 ≤ x.c ∧ x.c ≤ 3) :
    Calls Try.prog 55 #[.slice a n c, .int .i64 p, .int .i64 q] w (RetS w (.int .i64 (whatM l p q))) := by
  have HN := Lib.hid hn
  have HOK := Lib.hid hok
  obtain ⟨v, hv⟩ : ∃ v, v = whatM l p q := ⟨_, rfl⟩
  rw [← hv]
  have H0 : Hid (v = whatM (l.drop 0) p q) := Lib.hid hv
  clear hn hok hv
  go_enter Try.func55, Try.ntmps55
  go_wp2
  go_loopw [7] (fun s7 wr => ∃ k : Nat, k ≤ n ∧ s7 = .int .i64 k ∧ wr = w ∧ Hid (v = whatM (l.drop k) p q)) (fun s _ => n - (intOf s).toNat)
  case atStart => exact ⟨0, by omega, rfl, rfl, H0⟩
  case round =>
    clear H0
    obtain ⟨k, hk, rfl, rfl, hE⟩ := hrel
    by_cases hkn : k < n
    · have hkl : k < l.length := by have := HN.out; omega
      obtain ⟨b, off, rfl, hb, hc⟩ := Recs.pos hL Lk.cells_len (by omega) (by omega)
      have d0 := hc wr rfl k 0 hkl (by omega)
      have d1 := hc wr rfl k 1 hkl (by omega)
      have d2 := hc wr rfl k 2 hkl (by omega)
      have HD := Lib.hid (drop_nth l k hkl)
      have hyc := HOK.out _ (nth_mem l k hkl)
      generalize nth l k = y at *
      obtain ⟨ya, yb, yc⟩ := y
      simp only [Lk.cells, List.getElem?_cons_zero, List.getElem?_cons_succ, ← Nat.add_assoc, Nat.add_zero] at d0 d1 d2 hyc
      have HW := Lib.hid (show v = if hitB p q ⟨ya, yb, yc⟩ = true then (if ya = p ∧ yb = q then yc else 4 - yc) else whatM (l.drop (k + 1)) p q by rw [hE.out, HD.out]; exact whatM_cons _ _ _ _)
      have HH : Hid (hitB p q ⟨ya, yb, yc⟩ = true ↔ (ya = p ∧ yb = q) ∨ (ya = q ∧ yb = p)) := Lib.hid (by unfold hitB; simp only [Bool.or_eq_true, Bool.and_eq_true, decide_eq_true_eq])
      clear hc hkl hE
      by_cases h1 : ya = p ∧ yb = q
      · have HV := Lib.hid (show v = yc by rw [HW.out, if_pos (HH.out.2 (.inl h1)), if_pos h1])
        have e1 : (ya == p) = true := by simp [h1.1]
        have e2 : (yb == q) = true := by simp [h1.2]
        clear h1 HW HH
        go_wp2
        go_ret
        exact RetS.mk (x := .int .i64 yc) (by rw [HV.out]) rfl rfl
      · have E1 : ((ya == p) = true ∧ (yb == q) = false) ∨ (ya == p) = false := by
          by_cases q1 : ya = p
          · by_cases q2 : yb = q
            · exact absurd ⟨q1, q2⟩ h1
            · exact .inl ⟨by simp [q1], by simp [q2]⟩
          · exact .inr (by simp [q1])
        by_cases h2 : ya = q ∧ yb = p
        · have HV := Lib.hid (show v = 4 - yc by rw [HW.out, if_pos (HH.out.2 (.inr h2)), if_neg h1])
          have e3 : (ya == q) = true := by simp [h2.1]
          have e4 : (yb == p) = true := by simp [h2.2]
          clear h1 h2 HW HH
          rcases E1 with ⟨e1, e2⟩ | e1
          · go_wp2
            go_ret
            exact RetS.mk (x := .int .i64 (4 - yc)) (by rw [HV.out]) rfl rfl
          · go_wp2
            go_ret
            exact RetS.mk (x := .int .i64 (4 - yc)) (by rw [HV.out]) rfl rfl
        · have HV := Lib.hid (show v = whatM (l.drop (k + 1)) p q by rw [HW.out, if_neg (fun h => by rcases HH.out.1 h with h | h; exact h1 h; exact h2 h)])
          have E2 : ((ya == q) = true ∧ (yb == p) = false) ∨ (ya == q) = false := by
            by_cases q1 : ya = q
            · by_cases q2 : yb = p
              · exact absurd ⟨q1, q2⟩ h2
              · exact .inl ⟨by simp [q1], by simp [q2]⟩
            · exact .inr (by simp [q1])
          clear h1 h2 HW HH
          rcases E1 with ⟨e1, e2⟩ | e1 <;> rcases E2 with ⟨e3, e4⟩ | e3
          all_goals go_wp2
          all_goals go_roundw
          all_goals first | (case rel => exact ⟨k + 1, by omega, by go_num, by first | trivial | rfl, HV⟩) | (case measure => simp [intOf]; omega)
    · obtain rfl : k = n := by omega
      have HV := Lib.hid (show v = 0 by rw [hE.out, HN.out, List.drop_length]; rfl)
      go_wp2
      go_ret
      exact RetS.mk (x := .int .i64 0) (by rw [HV.out]) rfl rfl
theorem any_succ (p : Nat → Bool) (k : Nat) : (List.range (k + 1)).any p = ((List.range k).any p || p k) := by simp [List.range_succ]
theorem any_one {n : Nat} (p : Nat → Bool) {k : Nat} (hk : k < n) (h : p k = true) : (List.range n).any p = true := List.any_eq_true.2 ⟨k, List.mem_range.2 hk, h⟩
set_option maxRecDepth 100000 in
set_option maxHeartbeats 400000 in
/-- One step of the climb, whatever the steps behind it tell. -/
theorem climbs_round {n L : Nat} (v : Bool) (p q : Nat → Bool) (g : Nat → Int) (A B s : Nat) (a : Option Addr) (c : Nat) (w : World) (hp : ∀ k, p k = (decide (g k = 3) && q k)) (hV : v = (List.range n).any p) (hAB : A ≠ B) (hn8 : n ≤ 8) (hA : A ≤ 100) (hs : s ≤ 100)
    (hwo : ∀ k : Nat, Calls Try.prog 55 #[.slice a L c, .int .i64 A, .int .i64 k] w (RetS w (.int .i64 (g k))))
    (hrc : ∀ k : Nat, k < n → Calls Try.prog 29 #[.int .i64 n, .slice a L c, .int .i64 k, .int .i64 B, .int .i64 s] w (RetS w (.bool (q k)))) :
    Calls Try.prog 29 #[.int .i64 n, .slice a L c, .int .i64 A, .int .i64 B, .int .i64 ((s : Int) + 1)] w (RetS w (.bool v)) := by
  have HP := Lib.hid hp
  have HV := Lib.hid hV
  have HWO := Lib.hid hwo
  have HRC := Lib.hid hrc
  have e1 : ((A : Int) == (B : Int)) = false := by simp; omega
  clear hp hV hwo hrc hAB
  go_enter Try.func29, Try.ntmps29
  go_wp2
  go_loopw [11] (fun s11 wr => ∃ k : Nat, k ≤ n ∧ s11 = .int .i64 k ∧ wr = w ∧ Hid ((List.range k).any p = false)) (fun s11 _ => n - (intOf s11).toNat)
  case atStart => exact ⟨0, by omega, rfl, rfl, Lib.hid rfl⟩
  case round =>
    obtain ⟨k, hk, rfl, rfl, hE⟩ := hrel
    by_cases hkn : k < n
    · have hwo := HWO.out k
      by_cases h3 : g k = 3
      · have HPK := Lib.hid (show p k = q k by rw [HP.out, h3]; simp)
        rw [h3] at hwo
        clear h3
        go_wp2_with (fail)
        refine hwo.mono ?_
        rintro e1 w1 ⟨rfl, rfl⟩
        clear hwo
        have hrc := HRC.out k hkn
        obtain ⟨z, hz⟩ : ∃ z, z = q k := ⟨_, rfl⟩
        rw [← hz] at hrc HPK
        clear hz
        go_wp2_with (fail)
        refine hrc.mono ?_
        rintro e2 w2 ⟨rfl, rfl⟩
        clear hrc
        cases z with
        | true =>
          have HT := Lib.hid (show v = true by rw [HV.out]; exact any_one p hkn HPK.out)
          clear HPK
          go_wp2
          go_ret
          exact RetS.mk (x := .bool true) (by rw [HT.out]) rfl rfl
        | false =>
          have HT := Lib.hid (show (List.range (k + 1)).any p = false by rw [any_succ, hE.out, HPK.out]; rfl)
          clear HPK hE
          go_wp2
          go_roundw
          case rel => exact ⟨k + 1, by omega, by go_num, by first | trivial | rfl, HT⟩
          case measure => simp [intOf]; omega
      · have e3 : (g k == 3) = false := by simp [h3]
        have HT := Lib.hid (show (List.range (k + 1)).any p = false by rw [any_succ, hE.out, HP.out, decide_eq_false h3]; rfl)
        generalize g k = z at *
        clear h3 hE
        go_wp2_with (fail)
        refine hwo.mono ?_
        rintro e1 w1 ⟨rfl, rfl⟩
        clear hwo
        go_wp2
        go_roundw
        case rel => exact ⟨k + 1, by omega, by go_num, by first | trivial | rfl, HT⟩
        case measure => simp [intOf]; omega
    · obtain rfl : k = n := by omega
      have HV3 := Lib.hid (HV.out.trans hE.out)
      clear hE
      go_wp2
      go_ret
      exact RetS.mk (x := .bool false) (by rw [HV3.out]) rfl rfl
set_option maxRecDepth 100000 in
set_option maxHeartbeats 400000 in
theorem climbs_at {n L : Nat} (A s : Nat) (si : Int) (a : Option Addr) (c : Nat) (w : World) : Calls Try.prog 29 #[.int .i64 n, .slice a L c, .int .i64 A, .int .i64 A, .int .i64 si] w (RetS w (.bool true)) := by
  go_enter Try.func29, Try.ntmps29
  have e1 : ((A : Int) == (A : Int)) = true := by simp
  go_wp2
  go_ret
  exact RetS.mk (x := .bool true) rfl rfl rfl
set_option maxRecDepth 100000 in
set_option maxHeartbeats 400000 in
theorem climbs_zero {n L : Nat} (A B : Nat) (a : Option Addr) (c : Nat) (w : World) (hAB : A ≠ B) : Calls Try.prog 29 #[.int .i64 n, .slice a L c, .int .i64 A, .int .i64 B, .int .i64 0] w (RetS w (.bool false)) := by
  have e1 : ((A : Int) == (B : Int)) = false := by simp; omega
  clear hAB
  go_enter Try.func29, Try.ntmps29
  go_wp2
  go_loopw [11] (fun s11 wr => s11 = .int .i64 0 ∧ wr = w) (fun _ _ => 0)
  case atStart => exact ⟨rfl, rfl⟩
  case round =>
    obtain ⟨rfl, rfl⟩ := hrel
    go_wp2
    go_ret
    exact RetS.mk (x := .bool false) rfl rfl rfl
theorem climbs_any {n L : Nat} (l : List Lk) (B : Nat) (a : Option Addr) (c : Nat) (w : World) (hL : Links w.heap a l) (hn : L = l.length) (hl : L ≤ 9223372036854775806) (hok : ∀ x ∈ l, 1 ≤ x.c ∧ x.c ≤ 3) (hn8 : n ≤ 8) :
    ∀ (s A : Nat), s ≤ 100 → A ≤ 100 → Calls Try.prog 29 #[.int .i64 n, .slice a L c, .int .i64 A, .int .i64 B, .int .i64 s] w (RetS w (.bool (climbsM (fun p q => whatM l p q) n A B s)))
  | 0, A, _, _ => by
    by_cases hAB : A = B
    · subst hAB
      have e : climbsM (fun p q => whatM l p q) n A A 0 = true := decide_eq_true rfl
      rw [e]
      exact climbs_at A 0 _ a c w
    · have e : climbsM (fun p q => whatM l p q) n A B 0 = false := decide_eq_false hAB
      rw [e]
      exact climbs_zero A B a c w hAB
  | s + 1, A, hs, hA => by
    by_cases hAB : A = B
    · subst hAB
      have e : climbsM (fun p q => whatM l p q) n A A (s + 1) = true := climbs_iff.2 (.inl rfl)
      rw [e]
      exact climbs_at A 0 _ a c w
    · have e : ((s + 1 : Nat) : Int) = (s : Int) + 1 := by simp
      rw [e]
      refine climbs_round _ (fun k => decide (whatM l A k = 3) && climbsM (fun p q => whatM l p q) n k B s) (fun k => climbsM (fun p q => whatM l p q) n k B s) (fun k => whatM l A k) A B s a c w (fun _ => rfl) ?_ hAB hn8 hA (by omega) (fun k => whatOf_any l A k a c w hL hn hl hok) (fun k hk => climbs_any l B a c w hL hn hl hok hn8 s k (by omega) (by omega))
      show (decide (A = B) || _) = _
      rw [decide_eq_false hAB]; rfl
theorem climbs_congr {n b : Nat} {W W' : Nat → Nat → Int} (h : ∀ p q, p < n → q < n → W p q = W' p q) : ∀ (s a : Nat), a < n → climbsM W n a b s = climbsM W' n a b s
  | 0, _, _ => rfl
  | s + 1, a, ha => by
    have : ∀ v : Bool, climbsM W n a b (s + 1) = v ↔ climbsM W' n a b (s + 1) = v := fun v => by
      have key : climbsM W n a b (s + 1) = true ↔ climbsM W' n a b (s + 1) = true := by
        rw [climbs_iff, climbs_iff]
        constructor
        · rintro (h1 | ⟨k, h1, h2, h3⟩)
          · exact .inl h1
          · exact .inr ⟨k, h1, by rw [← h a k ha h1]; exact h2, by rw [← climbs_congr h s k h1]; exact h3⟩
        · rintro (h1 | ⟨k, h1, h2, h3⟩)
          · exact .inl h1
          · exact .inr ⟨k, h1, by rw [h a k ha h1]; exact h2, by rw [climbs_congr h s k h1]; exact h3⟩
      cases v with
      | true => exact key
      | false => rw [← Bool.not_eq_true, ← Bool.not_eq_true, key]
    exact (this _).2 rfl
theorem waysErr_ok {n : Int} {l : List Lk} {tt : Int} (h : waysErr n l tt = none) : gaoErr n l = none ∧ 0 ≤ tt ∧ tt < n := by
  unfold waysErr at h
  split at h
  · cases h
  · rename_i h1
    split at h
    · cases h
    · exact ⟨h1, by omega, by omega⟩
theorem ways_one : waysErr 1 [] 0 = none := by decide +kernel
set_option maxRecDepth 100000 in
set_option maxHeartbeats 2000000 in
theorem gaoUp_any (n : Int) (l : List Lk) (tt i : Int) (a : Option Addr) (c : Nat) (w : World) (hL : Links w.heap a l) (hl : l.length ≤ 9223372036854775806) (hc : l.length ≤ c) :
    Calls Try.prog 6 #[.int .i64 n, .slice a l.length c, .int .i64 tt, .int .i64 i] w (RetV w (.bool true)) := by
  have HL := Lib.hid hL
  obtain ⟨L, hLn⟩ : ∃ L, L = l.length := ⟨_, rfl⟩
  have HN := Lib.hid hLn
  have hf := ways_any 1 [] 0 none 0 w (Rd.nil _ _ _) (by simp) (by simp)
  rw [ways_one] at hf
  have hl' : L ≤ 9223372036854775806 := by omega
  have hc' : L ≤ c := by omega
  rw [← hLn]
  clear hL hLn hl hc
  go_enter Try.func6, Try.ntmps6
  go_wp2_with (fail)
  refine hf.mono ?_
  rintro e1 w1 ⟨gf, Rf, rfl, -, -, -, -, hF1⟩
  simp only [Int.toNat_one]
  have hw := ways_any n l tt a c w1 (HL.out.fr hF1 (fun _ _ _ h => h)) (by rw [← HN.out]; exact hl') (by rw [← HN.out]; exact hc')
  rw [← HN.out] at hw
  clear hf
  cases hE : waysErr n l tt with
  | some e =>
    rw [hE] at hw
    clear hE
    go_wp2_with (fail)
    refine hw.mono ?_
    rintro e2 w2 ⟨rfl, hF2⟩
    have hFe := hF1.trans hF2
    clear hw
    go_wp2
    go_ret
    exact RetV.mk (x := .bool true) rfl rfl hFe
  | none =>
    rw [hE] at hw
    obtain ⟨hg, t0, tn⟩ := waysErr_ok hE
    obtain ⟨N, rfl, n1, n8, hok, htb, r, hDW⟩ := gaoErr_ok hg
    obtain ⟨t, rfl⟩ := Int.eq_ofNat_of_zero_le t0
    have htN : t < N := by omega
    rw [Int.toNat_natCast, Int.toNat_natCast] at hw
    have HOK : Hid (∀ x ∈ l, 1 ≤ x.c ∧ x.c ≤ 3) := Lib.hid (fun x hx => by have := (hok.ok x hx).1; unfold Lk.badD at this; omega)
    have HDW := Lib.hid hDW
    have HTB := Lib.hid htb
    clear hE hg hok htb hDW t0 tn
    go_wp2_with (fail)
    refine hw.mono ?_
    rintro e2 w2 ⟨gw, R, rfl, -, hR, hFin, hS, hF2⟩
    have hFe := hF1.trans hF2
    have HR := Lib.hid hR
    have HFin := Lib.hid hFin
    clear hw hF1 hF2 hR hFin
    by_cases hib : i < 0 ∨ (N : Int) ≤ i ∨ i = t
    · by_cases h1 : i < 0
      · clear hib
        go_wp2
        go_ret
        exact RetV.mk (x := .bool true) rfl rfl hFe
      · by_cases h2 : (N : Int) ≤ i
        · clear hib
          go_wp2
          go_ret
          exact RetV.mk (x := .bool true) rfl rfl hFe
        · have e1 : (i == (t : Int)) = true := by simp; omega
          clear hib
          go_wp2
          go_ret
          exact RetV.mk (x := .bool true) rfl rfl hFe
    · obtain ⟨I, rfl⟩ := Int.eq_ofNat_of_zero_le (show 0 ≤ i by omega)
      have hIN : I < N := by omega
      have hIt : I ≠ t := by omega
      have e1 : ((I : Int) == (t : Int)) = false := by simp; omega
      have hcl := climbs_any (n := N) l I a c w2 (HL.out.fr hFe (fun _ _ _ h => h)) HN.out hl' HOK.out n8 N t (by omega) (by omega)
      have hiR : I < R.length := by rw [HR.out]; exact hIN
      have HV : Hid (climbsM (fun p q => whatM l p q) N t I N = true ↔ (nth R I).p ≠ [] ∧ (nth R I).t = 1) := Lib.hid (by
        obtain ⟨m, hm, hfx⟩ := HFin.out
        have hI : InvG (at2 (tabR N l)) N t (R.map WyR.wy) := by rw [hm]; exact inv_iter HDW.out htN m
        have := gao_up HDW.out htN hIN hIt hI hfx
        rw [nth_map _ _ _ hiR] at this
        rw [← climbs_congr (fun p q hp hq => HTB.out.what p q hp hq) N t htN]
        exact this)
      have y0 := (hS.blk.cell (I * 2 + 0)).trans (flat_get WyR.cells 2 WyR.cells_len R I 0 hiR (by omega))
      have y1 := (hS.blk.cell (I * 2 + 1)).trans (flat_get WyR.cells 2 WyR.cells_len R I 1 hiR (by omega))
      have ylt := hS.blk.lt
      generalize nth R I = y at *
      obtain ⟨yt, yp, yA, yC⟩ := y
      simp only [WyR.cells, List.getElem?_cons_zero, List.getElem?_cons_succ, Nat.add_zero] at y0 y1
      obtain ⟨z, hz⟩ : ∃ z, z = climbsM (fun p q => whatM l p q) N t I N := ⟨_, rfl⟩
      rw [← hz] at hcl HV
      have HV2 : Hid (z = true ↔ 0 < yp.length ∧ yt = 1) := Lib.hid (by rw [HV.out]; simp only [List.length_pos_iff])
      generalize yp.length = Y at *
      clear hib hS hz HV hIt hiR
      go_wp2_with (fail)
      refine hcl.mono ?_
      rintro e3 w3 ⟨rfl, rfl⟩
      clear hcl
      by_cases hY : 0 < Y
      · by_cases hyt : yt = 1
        · obtain rfl : z = true := HV2.out.2 ⟨hY, hyt⟩
          have e2 : (yt == 1) = true := by simp [hyt]
          clear hyt HV2
          go_wp2
          go_ret
          exact RetV.mk (x := .bool true) rfl rfl hFe
        · obtain rfl : z = false := Bool.eq_false_iff.2 (fun h => hyt (HV2.out.1 h).2)
          have e2 : (yt == 1) = false := by simp [hyt]
          clear hyt HV2
          go_wp2
          go_ret
          exact RetV.mk (x := .bool true) rfl rfl hFe
      · obtain rfl : z = false := Bool.eq_false_iff.2 (fun h => hY (HV2.out.1 h).1)
        obtain rfl : Y = 0 := by omega
        clear HV2
        go_wp2
        go_ret
        exact RetV.mk (x := .bool true) rfl rfl hFe
end Go.Proofs.Ytbmeeglehbaggaa
