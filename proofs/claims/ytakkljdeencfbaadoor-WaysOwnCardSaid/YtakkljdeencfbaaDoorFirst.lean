import Derived.Test.YtakkljdeencfbaaDoorUps
import Derived.Test.YtakkljdeencfbaaDoorSpfLaw
namespace Go.Proofs.YtakkljdeencfbaaDoor
open Go.RowKit

theorem one_pos {n : Nat} : ∀ (l : List Lk) (rs : List (List Int)), Sq n rs → (∀ x ∈ l, x.a.toNat < n ∧ x.b.toNat < n ∧ 1 ≤ x.c) → (∀ i k, i < n → k < n → i ≠ k → 1 ≤ at2 rs i k) → ∀ i k, i < n → k < n → i ≠ k → 1 ≤ at2 (l.foldl putL rs) i k
  | [], _, _, _, h => h
  | y :: l, rs, hs, hl, h => by
    have h1 := hl y (by simp)
    refine one_pos l _ (putL_sq hs y h1.1 h1.2.1) (fun x hx => hl x (by simp [hx])) (fun i k hi hk hik => ?_)
    rw [putL_at hs y h1.1 h1.2.1]
    split
    · exact h1.2.2
    · split
      · exact h1.2.2
      · exact h i k hi hk hik
theorem cost_pos {N : Nat} {l : List Lk} (h : graphErr N l = none) : ∀ i k, i < N → k < N → i ≠ k → 1 ≤ at2 (costsM N l) i k := by
  obtain ⟨_, hk, -⟩ := graph_ok h
  refine one_pos l _ (one_sq N) (fun y hy => ?_) (fun i k hi hk hik => ?_)
  · have := (hk y hy).1
    unfold Lk.bad at this
    omega
  · rw [one_at hi hk, if_neg (fun e => hik e.symm)]; omega

/-- The first way, step by step. -/
def firstGo (n : Nat) (C : Nat → Nat → Int) (far : List Int) (b : Nat) : Nat → Nat → List Int → Except Int (List Int)
  | 0, _, _ => .error 99
  | f + 1, cur, acc => if cur = b then .ok acc else match upRow C far b cur n with
    | [] => .error 2
    | x :: _ => firstGo n C far b f x.toNat (acc ++ [x])
def firstL (n : Nat) (C : Nat → Nat → Int) (far : List Int) (b a : Nat) : Except Int (List Int) := firstGo n C far b 20 a [(a : Int)]
theorem upRow_mem {C : Nat → Nat → Int} {far : List Int} {s i n : Nat} {x : Int} (h : x ∈ upRow C far s i n) : ∃ k : Nat, x = k ∧ k < n ∧ k ≠ i ∧ nth far i < 16 ∧ nth far k + C k i = nth far i := by
  unfold upRow at h
  obtain ⟨k, hk, rfl⟩ := List.mem_map.1 h
  obtain ⟨h1, h2⟩ := List.mem_filter.1 hk
  have h3 := of_decide_eq_true h2
  exact ⟨k, rfl, List.mem_range.1 h1, h3.2.1, h3.2.2.1, h3.2.2.2⟩

/-- What First tells. -/
def FirstRes (n : Int) (l : List Lk) (a b : Int) (r : Except Int (List Int)) : Prop :=
  match farErr n l b with
  | some k => r = .error k
  | none => if a < 0 ∨ n ≤ a then r = .error 1 else ∃ far, IsFar n.toNat (costF n.toNat l) b.toNat far ∧ r = firstL n.toNat (costF n.toNat l) far b.toNat a.toNat
theorem FirstRes.eq {n : Int} {l : List Lk} {a b : Int} {r r' : Except Int (List Int)} (h : FirstRes n l a b r) (h' : FirstRes n l a b r') : r = r' := by
  unfold FirstRes at h h'
  cases hE : farErr n l b with
  | some k => rw [hE] at h h'; rw [h, h']
  | none =>
    rw [hE] at h h'
    simp only at h h'
    split at h
    · rename_i hr
      rw [if_pos hr] at h'
      rw [h, h']
    · rename_i hr
      rw [if_neg hr] at h'
      obtain ⟨far, h1, rfl⟩ := h
      obtain ⟨far', h2, rfl⟩ := h'
      rw [h1.eq h2]
/-- A list of its own length, or an error. -/
def RetL (w : World) (r : Except Int (List Int)) (e : Ending) (w' : World) : Prop :=
  match r with
  | .error k => RetV w (.tuple #[.slice none 0 0, errv k]) e w'
  | .ok out => RetNew w 3 1 out.length (ivals .i64 out) (fun v => .tuple #[v, .nilIface]) e w'
def RetFirst (w : World) (n : Int) (l : List Lk) (a b : Int) (e : Ending) (w' : World) : Prop := ∃ r, FirstRes n l a b r ∧ RetL w r e w'

/-- By whom each is reached, asked with a node. -/
def RetDown (w : World) (n : Int) (l : List Lk) (a b : Int) (e : Ending) (w' : World) : Prop :=
  (∃ k, RetV w (.tuple #[.slice none 0 0, errv k]) e w' ∧ FirstRes n l a b (.error k)) ∨
  (farErr n l b = none ∧ 0 ≤ a ∧ a < n ∧ ∃ far a' c ob A C G, IsFar n.toNat (costF n.toNat l) b.toNat far ∧ e = .returned (.tuple #[.slice a' n.toNat c, .nilIface]) ∧ NMat w'.heap w.heap.size 30 3 a' c ob (upsM n.toNat (costF n.toNat l) b.toNat far) A C G ∧ Fr (fun _ => False) w w')

set_option maxRecDepth 100000 in
set_option maxHeartbeats 1000000 in
theorem downs_any (n : Int) (l : List Lk) (al : Option Addr) (c : Nat) (a b : Int) (w : World) (hL : Links w.heap al l) (hl : l.length ≤ 9223372036854775807) (hw : ∀ x ∈ l, (Lit.int .i64 x.a).wf = true ∧ (Lit.int .i64 x.b).wf = true ∧ (Lit.int .i64 x.c).wf = true) :
    Calls Tryd.prog 41 #[.int .i64 n, .slice al l.length c, .int .i64 a, .int .i64 b] w (RetDown w n l a b) := by
  go_enter Tryd.func41, Tryd.ntmps41
  go_wp2_with (fail)
  refine (ups_any n l al c b _ hL hl hw).mono ?_
  intro e1 w1 R1
  cases hE : farErr n l b with
  | some k =>
    rw [hE] at R1
    obtain ⟨rfl, hF1⟩ := R1
    have HX := Lib.hid (show FirstRes n l a b (.error k) by unfold FirstRes; rw [hE])
    clear hE
    go_wp2
    go_ret2
    exact .inl ⟨k, ⟨rfl, hF1⟩, HX.out⟩
  | none =>
    rw [hE] at R1
    obtain ⟨far, a1, c1, ob1, A, C, G, hIF, rfl, hM, hF1⟩ := R1
    have HE := Lib.hid hE
    clear hE
    by_cases ha : a < 0 ∨ n ≤ a
    · have HX := Lib.hid (show FirstRes n l a b (.error 1) by unfold FirstRes; rw [HE.out]; simp only [if_pos ha])
      go_wp2
      all_goals go_ret2
      all_goals exact .inl ⟨1, ⟨rfl, hF1⟩, HX.out⟩
    · have a0 : 0 ≤ a := by omega
      have a1' : a < n := by omega
      have HI := Lib.hid hIF
      clear ha hIF
      go_wp2
      go_ret2
      exact .inr ⟨HE.out, a0, a1', far, _, c1, ob1, A, C, G, HI.out, rfl, hM, hF1⟩

set_option maxRecDepth 100000 in
set_option maxHeartbeats 2000000 in
theorem first_any (n : Int) (l : List Lk) (al : Option Addr) (c : Nat) (a b : Int) (w : World) (hL : Links w.heap al l) (hl : l.length ≤ 9223372036854775807) (hw : ∀ x ∈ l, (Lit.int .i64 x.a).wf = true ∧ (Lit.int .i64 x.b).wf = true ∧ (Lit.int .i64 x.c).wf = true) :
    Calls Tryd.prog 25 #[.int .i64 n, .slice al l.length c, .int .i64 a, .int .i64 b] w (RetFirst w n l a b) := by
  go_enter Tryd.func25, Tryd.ntmps25
  go_wp2_with (fail)
  refine (downs_any n l al c a b _ hL hl hw).mono ?_
  intro e1 w1 R1
  rcases R1 with ⟨k, ⟨rfl, hF1⟩, hR⟩ | ⟨hE, ha0, han, far, a1, c1, ob1, A, C, G, hIF, rfl, hM, hF1⟩
  · have HR := Lib.hid hR
    clear hR
    go_wp2
    go_ret2
    exact ⟨.error k, HR.out, rfl, hF1⟩
  · have hgr : graphErr n l = none ∧ 0 ≤ b ∧ b < n := by
      unfold farErr at hE
      split at hE
      · cases hE
      · rename_i hg
        split at hE
        · cases hE
        · exact ⟨hg, by omega, by omega⟩
    obtain ⟨hn, -, -⟩ := graph_ok hgr.1
    obtain ⟨N, rfl⟩ : ∃ N : Nat, n = N := ⟨n.toNat, by omega⟩
    obtain ⟨Aa, rfl⟩ : ∃ k : Nat, a = k := ⟨a.toNat, by omega⟩
    obtain ⟨Bb, rfl⟩ : ∃ k : Nat, b = k := ⟨b.toNat, by omega⟩
    have hpos := cost_pos hgr.1
    have hA : Aa < N := by omega
    have hB : Bb < N := by omega
    have hX : ∀ r, r = firstL N (costF N l) far Bb Aa → FirstRes N l Aa Bb r := fun r hr => by
      unfold FirstRes
      rw [hE]
      simp only
      rw [if_neg (by omega)]
      exact ⟨far, hIF, hr⟩
    have HX := Lib.hid hX
    have HPOS := Lib.hid hpos
    simp only [Int.toNat_natCast] at hIF hM
    have HIF := Lib.hid hIF
    clear hX hpos hE hgr hIF ha0 han
    have hO0 := Own.made w1 3 1 1 [.int .i64 (Aa : Int)] rfl (by decide)
    go_wp2
    go_loopg [2, 12] 20 (fun f s2 s12 wr => ∃ (cur : Nat) (acc : List Int) (m : Nat) (ao : Option Addr) (co : Nat) (ob : Option Nat), s2 = .int .i64 cur ∧ cur < N ∧ s12 = .slice ao m co ∧ Own wr.heap 3 1 ao m co (ivals .i64 acc) ob ∧ (∀ g, ob = some g → w1.heap.size ≤ g) ∧ Fr (fun _ => False) w1 wr ∧ m + f = 21 ∧ Hid (firstL N (costF N l) far Bb Aa = firstGo N (costF N l) far Bb f cur acc ∧ nth far cur < f))
    case atStart => exact ⟨Aa, [(Aa : Int)], 1, _, 1, some w1.heap.size, rfl, hA, rfl, hO0, fun g h => by cases h; omega, (Fr.refl _ _).alloc _, rfl, rfl, by have := (HIF.out.bd Aa hA).2; omega⟩
    case round =>
      clear hO0
      obtain ⟨cur, acc, m, ao, co, ob, rfl, hcN, rfl, hO, hN, hF, hmf, hI⟩ := hrel
      have hml : acc.length = m := by have := hO.len; simpa using this
      have HML := Lib.hid hml
      clear hml
      by_cases hcb : cur = Bb
      · subst hcb
        have hq : firstL N (costF N l) far cur Aa = .ok acc := by
          obtain ⟨h1, h2⟩ := hI.out
          have h0 := HIF.out.zero
          rw [h1]
          cases gk with
          | zero => omega
          | succ f => simp [firstGo]
        have HQ := Lib.hid hq
        have qb : ((cur : Int) != (cur : Int)) = false := by simp
        clear hq
        go_wp2
        go_ret2
        refine ⟨.ok acc, HX.out _ HQ.out.symm, ao, co, ob, by rw [HML.out]; rfl, by rw [HML.out]; exact hO, hF1.trans hF, fun g h => Nat.le_trans hF1.size (hN g h)⟩
      · have qb : ((cur : Int) != (Bb : Int)) = true := by simp; omega
        have qb' : (cur != Bb) = true := by simpa using hcb
        have HCB := Lib.hid hcb
        clear hcb
        obtain ⟨f, rfl⟩ : ∃ f, gk = f + 1 := ⟨gk - 1, by rcases gk with _ | g; (exfalso; have := hI.out.2; have := (HIF.out.bd cur hcN).1; have := HML.out; omega); rfl⟩
        have hMr := hM.fr0 hF (fun _ _ _ h => h)
        have hul : (upsM N (costF N l) Bb far).length = N := ran_len _ _
        have hnr : nth (upsM N (costF N l) Bb far) cur = upRow (costF N l) far Bb cur N := nth_ran _ _ _ hcN
        obtain ⟨bt, ot, rfl, hbt, hct⟩ := hMr.mat.pos (by rw [hul]; omega)
        have d0 := hct wr rfl cur (by rw [hul]; exact hcN)
        have hrow := hMr.rws.row cur (by rw [hul]; exact hcN)
        rw [hnr] at d0 hrow
        have hstep : firstL N (costF N l) far Bb Aa = match upRow (costF N l) far Bb cur N with | [] => .error 2 | x :: _ => firstGo N (costF N l) far Bb f x.toNat (acc ++ [x]) := by
          rw [hI.out.1]
          simp only [firstGo]
          rw [if_neg HCB.out]
        have HST := Lib.hid hstep
        have hmem : ∀ x ∈ upRow (costF N l) far Bb cur N, ∃ k : Nat, x = k ∧ k < N ∧ k ≠ cur ∧ nth far cur < 16 ∧ nth far k + costF N l k cur = nth far cur := fun x hx => upRow_mem hx
        have HMEM := Lib.hid hmem
        clear hct hul hnr hstep hMr hmem
        generalize hrw : upRow (costF N l) far Bb cur N = row at *
        clear hrw
        cases row with
        | nil =>
          have hq : firstL N (costF N l) far Bb Aa = .error 2 := HST.out
          have HQ := Lib.hid hq
          simp only [List.length_nil] at d0
          clear hq hrow
          go_wp2
          go_ret2
          exact ⟨.error 2, HX.out _ HQ.out.symm, rfl, hF1.trans hF⟩
        | cons x r =>
          obtain ⟨k, rfl, hk, hkc, h16, hsum⟩ := HMEM.out x (by simp)
          have hp := HPOS.out k cur hk hcN hkc
          have hb0 := (HIF.out.bd k hk).1
          have hlt : nth far k < nth far cur := by
            have : costF N l k cur = at2 (costsM N l) k cur := rfl
            omega
          have hq : firstL N (costF N l) far Bb Aa = firstGo N (costF N l) far Bb f k (acc ++ [(k : Int)]) := by rw [HST.out]; simp
          have HI2 : Hid (firstL N (costF N l) far Bb Aa = firstGo N (costF N l) far Bb f k (acc ++ [(k : Int)]) ∧ nth far k < f) := ⟨hq, by have := hI.out.2; omega⟩
          obtain ⟨gr, hga, -, hgl, hgc, -⟩ := hrow.pos (by simp)
          have d1 := hgc 0 (by simp)
          simp only [List.length_cons, ivals, List.map_cons, List.getElem?_cons_zero] at d0 d1
          rw [hga] at d0
          generalize r.length = L at *
          have b0 : ((L : Int) + 1 == 0) = false := by simp; omega
          have hrd := (Own.made wr 3 1 1 [.int .i64 (k : Int)] rfl (by decide)).rd
          clear hq hI hsum hp hb0 hlt h16 hkc hgc hrow hga HMEM HST
          go_wp2_with (at_builtin; refine wpList_app rfl _ _ 30 rfl Tryd.underlying30 infoInt rfl (by decide) rfl rfl (hO.alloc _) hrd (ivals_one .i64 [(k : Int)]) (by omega) (by omega) ?_)
          intro a' c' w6 ob' z1 z2 z3
          have e : ivals .i64 acc ++ [.int .i64 (k : Int)] = ivals .i64 (acc ++ [(k : Int)]) := by simp [ivals]
          rw [e] at z1
          have hF6 := Fr.app (hF.alloc _) z2 hN
          have hN6 := app_new hN z3 (by have := hF.size; simp; omega)
          clear z2 z3 e hrd hO
          go_wp2
          go_roundg f
          case measure => omega
          case rel => exact ⟨k, acc ++ [(k : Int)], m + 1, a', c', ob', rfl, hk, rfl, z1, hN6, hF6, by omega, HI2⟩
end Go.Proofs.YtakkljdeencfbaaDoor
