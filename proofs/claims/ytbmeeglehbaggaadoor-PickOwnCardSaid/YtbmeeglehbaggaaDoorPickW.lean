import Derived.Test.YtbmeeglehbaggaaDoorSortPick
namespace Go.Proofs.YtbmeeglehbaggaaDoor
open Go.RowKit Go.Shelf Go.Lib Go.Sort

theorem Ints.pre {H : Array Obj} {a : Option Addr} {l : List Int} (h : Ints H a l) (k : Nat) (hk : k ≤ l.length) : Rd H a k 1 (ivals .i64 (l.take k)) := by
  refine ⟨by simp [ivals]; omega, ?_⟩
  rcases h.at' with h1 | ⟨b', off', h1, h2, h3⟩
  · left; simp only [ivals, List.map_eq_nil_iff] at h1; subst h1; simp
  · right
    refine ⟨b', off', h1, h2, fun w hw i hi => ?_⟩
    have hi' : i < (l.take k).length := by simpa using hi
    have hi2 : i < l.length := by rw [List.length_take] at hi'; omega
    have hi3 : i < k := by rw [List.length_take] at hi'; omega
    rw [h3 w hw i (by simpa using hi2), ivals_get .i64 l i hi2, ivals_get .i64 _ i hi', nth_take _ _ _ hi3]
theorem own_holds1 {w : World} {E : TypeId} {g cap n : Nat} {ob : Option Nat} {l : List Int} (hO : Ownd w.heap E 1 (some ⟨g, 0, none⟩) n cap (ivals .i64 l) ob) (hn : n = l.length) (hl : 0 < n) : Holds (Value.int .i64) w g 0 l.toArray ∧ g < w.heap.size ∧ ob = some g := by
  obtain ⟨g', h0, h1, h2, h3, h4⟩ := hO.pos hl
  cases h0
  subst hn
  refine ⟨fun j hj => ?_, h2, h1⟩
  have hj' : j < l.length := by simpa using hj
  refine ⟨?_, h4 _⟩
  rw [Nat.zero_add, h3 j (by omega), ivals_get .i64 l j hj', nth_arr]
theorem own_sorted1 {w : World} {E : TypeId} {g cap n : Nat} {ob : Option Nat} {xs : List Value} (hO : Ownd w.heap E 1 (some ⟨g, 0, none⟩) n cap xs ob) (d : Array Int) (hd : d.size = n) (m : Nat) (os : Array Obj) :
    Ownd (sortWorld (Value.int .i64) w g 0 m d os).heap E 1 (some ⟨g, 0, none⟩) n cap (ivals .i64 d.toList) ob ∧ Fr (fun i => i = g) w (sortWorld (Value.int .i64) w g 0 m d os) := by
  have hH : ∀ i, i ≠ g → i < w.heap.size → (sortWorld (Value.int .i64) w g 0 m d os).heap[i]? = w.heap[i]? := by
    intro i hi hl
    show ((w.heap.modify g _) ++ os)[i]? = _
    rw [Array.getElem?_append_left (by simpa using hl), Array.getElem?_modify, if_neg (fun e => hi e.symm)]
  have hsz : w.heap.size ≤ (sortWorld (Value.int .i64) w g 0 m d os).heap.size := by
    show _ ≤ ((w.heap.modify g _) ++ os).size
    simp
  refine ⟨⟨by simp [hd], ?_⟩, rfl, rfl, rfl, hsz, fun i hi hs => hH i hs hi⟩
  rcases hO.is with ⟨h, _⟩ | ⟨g', cur, h0, h1, h2, h3, h4, h5, h6⟩
  · cases h
  · cases h0
    have hlt := (Array.getElem?_eq_some_iff.1 h2).1
    refine .inr ⟨g, putCells (Value.int .i64) 0 d cur, rfl, h1, ?_, h3, h4, by simp [putCells, h5], ?_⟩
    · show ((w.heap.modify g _) ++ os)[g]? = _
      rw [Array.getElem?_append_left (by simpa using hlt), Array.getElem?_modify, if_pos rfl, h2]
      rfl
    · apply List.ext_getElem?
      intro i
      rw [List.getElem?_take]
      by_cases hi : i < n * 1
      · have hc : i < cur.size := by omega
        have hid : i < d.size := by omega
        rw [if_pos hi]
        simp [putCells, hid, hc]
      · rw [if_neg hi]
        rw [List.getElem?_eq_none (by simp; omega)]
/-- Numbers that are sorted in place. -/
def RetSortP (w : World) (f : Int) (a : Option Addr) (n c : Nat) (l : List Int) (ob : Option Nat) (e : Ending) (w' : World) : Prop :=
  e = .returned (.tuple #[]) ∧ Ownd w'.heap 3 1 a n c (ivals .i64 (sortP f l)) ob ∧ Fr (fun k => ob = some k) w w'
theorem sortPick_any {n : Nat} (f : Int) (bf : Nat) (l : List Int) (a : Option Addr) (c : Nat) (ob : Option Nat) (w : World) (hO : Ownd w.heap 3 1 a n c (ivals .i64 l) ob) (hn : n = l.length) (hl : l.length ≤ 4611686018427387903) (hB : Blk w.heap bf 3 [.int .i64 f]) (hne : ob ≠ some bf) :
    Calls Tryd.prog 68 #[.slice a n c, .func (.func 44) #[] #[.pointer (some ⟨bf, 0, none⟩)]] w (RetSortP w f a n c l ob) := by
  by_cases h0 : l = []
  · subst h0
    subst hn
    refine (AnyF.slices_SortFunc_none { Tryd.sortInt with } a c _ w).mono ?_
    rintro e w' ⟨rfl, rfl⟩
    exact ⟨rfl, by unfold sortP; simpa using hO, Fr.refl _ _⟩
  · have hpos : 0 < l.length := List.length_pos_iff.2 h0
    obtain ⟨g, rfl, hob, hg, -⟩ := hO.pos (by omega)
    obtain ⟨hH, hblk, -⟩ := own_holds1 hO hn (by omega)
    have hsz : l.toArray.size = n := by simp [hn]
    have hgb : bf ≠ g := fun h => hne (by rw [h]; exact hob)
    have eg : ∀ args w, (callFunc 44 args).run Tryd.prog w = .ok (.enter 44 args) w := enters_of Tryd.func44 (by kernel_rfl) rfl
    have hc := Any.slices_SortFunc_total Tryd.sortInt (Value.int .i64) (fun _ => rfl) (cfP f) (swoP f) 44 #[.pointer (some ⟨bf, 0, none⟩)] g 0 c l.toArray w eg
      (fun m os dk hdk x y => (pcmp_any f x y bf _ (hB.fr (own_sorted1 hO dk (by rw [hdk, hsz]) m os).2 hgb)).mono fun e w' h => ⟨h.1, h.2⟩) hH hblk (by simp; omega) (totP f)
    rw [hsz] at hc
    refine hc.mono ?_
    rintro e w' ⟨rfl, m, os, rfl⟩
    obtain ⟨hO2, hF2⟩ := own_sorted1 hO (sortP f l).toArray (by simp [sortP_len, hn]) m os
    exact ⟨rfl, hO2, hF2.mono (fun i _ e => by rw [e]; exact hob)⟩
set_option maxHeartbeats 1000000 in
theorem sortedPick_any (f : Int) (bf Bs : Nat) (a : Option Addr) (cap : Nat) (zs : List Int) (hlen : zs.length * 8 ≤ 140737488355328) (w : World) (hBs : Bs < w.heap.size)
    (hc : w.cell? ⟨Bs, 0, none⟩ = some (.slice a zs.length cap)) (hI : Ints w.heap a zs) (hB : Blk w.heap bf 3 [.int .i64 f]) :
    Calls Tryd.prog 42 #[.func (.func 69) #[] #[.pointer (some ⟨Bs, 0, none⟩)], .func (.func 44) #[] #[.pointer (some ⟨bf, 0, none⟩)]] w (RetNew w 3 1 zs.length (ivals .i64 (sortP f zs)) id) := by
  have hf := collectI_any Bs a cap zs hlen w hBs hc hI
  have hlt := hB.lt
  clear hI hc
  obtain ⟨n, hn⟩ : ∃ n, n = zs.length := ⟨_, rfl⟩
  rw [← hn] at hf ⊢
  have HN := Lib.hid hn
  have HB := Lib.hid hB
  have hnn : n * 8 ≤ 140737488355328 := by omega
  clear hn hB hlen
  go_enter Tryd.func42, Tryd.ntmps42
  go_wp2_with (fail)
  refine hf.mono ?_
  rintro e1 w1 ⟨a1, c1, ob1, rfl, hO, hF, hN⟩
  have hs := sortPick_any f bf zs a1 c1 ob1 w1 hO HN.out (by have := HN.out; omega) (HB.out.fr hF (fun h => h)) (fun h => by have := hN bf h; omega)
  clear hf hO
  go_wp2_with (fail)
  refine hs.mono ?_
  rintro e2 w2 ⟨rfl, hO2, hF2⟩
  have hFe := hF.trans' hF2 (fun i hi h => by have := hN i h; omega)
  clear hs hF hF2
  go_wp2
  go_ret
  exact ⟨a1, c1, ob1, rfl, hO2, hFe, hN⟩
/-- What pick.Order tells. -/
def RetOrd (w : World) (f : Int) (l : List Int) (n : Nat) (e : Ending) (w' : World) : Prop :=
  ∃ (a : Option Addr) (k c : Nat) (ob : Option Nat), e = .returned (.tuple #[.slice a k c, errO (if l.Nodup then none else some 5)]) ∧ k = (if l.Nodup then n else 0) ∧ Ownd w'.heap 3 1 a k c (ivals .i64 (if l.Nodup then sortP f l else [])) ob ∧ Fr (fun _ => False) w w' ∧ ∀ g, ob = some g → w.heap.size ≤ g
theorem RetOrd.bad {w w' : World} {f : Int} {l : List Int} {n : Nat} {e : Ending} (h : ¬ l.Nodup) (he : e = .returned (.tuple #[.slice none 0 0, errv 5])) (hF : Fr (fun _ => False) w w') : RetOrd w f l n e w' :=
  ⟨none, 0, 0, none, by rw [if_neg h]; exact he, (if_neg h).symm, by rw [if_neg h]; exact Ownd.nil _ _ _, hF, fun _ q => nomatch q⟩
theorem RetOrd.good {w w' : World} {f : Int} {l : List Int} {n : Nat} {e : Ending} {a : Option Addr} {c : Nat} {ob : Option Nat} (h : l.Nodup) (he : e = .returned (.tuple #[.slice a n c, .nilIface])) (hO : Ownd w'.heap 3 1 a n c (ivals .i64 (sortP f l)) ob) (hF : Fr (fun _ => False) w w') (hN : ∀ g, ob = some g → w.heap.size ≤ g) : RetOrd w f l n e w' :=
  ⟨a, n, c, ob, by rw [if_pos h]; exact he, (if_pos h).symm, by rw [if_pos h]; exact hO, hF, hN⟩
theorem nodup_snoc {l : List Int} {k : Nat} (hk : k < l.length) (h : (l.take k).Nodup) (hm : nth l k ∉ l.take k) : (l.take (k + 1)).Nodup := by
  rw [take_succ_nth l k hk, List.nodup_append]
  exact ⟨h, by simp, fun a ha b hb e => by rw [List.mem_singleton] at hb; subst hb; subst e; exact hm ha⟩
theorem nodup_not {l : List Int} {k : Nat} (hk : k < l.length) (hm : nth l k ∈ l.take k) : ¬ l.Nodup := fun h => by
  have h2 : (l.take (k + 1)).Nodup := h.sublist (List.take_sublist _ _)
  rw [take_succ_nth l k hk, List.nodup_append] at h2
  exact h2.2.2 _ hm _ (List.mem_singleton.2 rfl) rfl

set_option maxRecDepth 100000 in
set_option maxHeartbeats 4000000 in
theorem pickOrder_any {n : Nat} (f : Int) (l : List Int) (al : Option Addr) (cl : Nat) (w : World) (hL : Ints w.heap al l) (hn : n = l.length) (hc : n ≤ cl) (hll : n * 8 ≤ 140737488355328) :
    Calls Tryd.prog 19 #[.int .i64 f, .slice al n cl] w (RetOrd w f l n) := by
  have HL := Lib.hid hL
  have HN := Lib.hid hn
  have H0 : Hid (l.take 0).Nodup := Lib.hid (by simp)
  have hF0 := (Fr.refl (fun _ => False) w).alloc (.cells #[.int .i64 f] 3)
  have hB0 := Blk.made w 3 [.int .i64 f]
  have hs0 := hF0.size
  clear hL hn
  go_enter Tryd.func19, Tryd.ntmps19
  go_wp2
  generalize w.alloc (.cells #[.int .i64 f] 3) = w1 at *
  go_loopw [10] (fun s10 wr => ∃ k : Nat, k ≤ n ∧ s10 = .int .i64 k ∧ wr = w1 ∧ Hid (l.take k).Nodup) (fun s _ => n - (intOf s).toNat)
  case atStart => exact ⟨0, by omega, rfl, rfl, H0⟩
  case round =>
    clear H0
    obtain ⟨k, hk, rfl, rfl, hD⟩ := hrel
    by_cases hkn : k < n
    · have hkl : k < l.length := by have := HN.out; omega
      obtain ⟨b, o, rfl, hb, hcs⟩ := Ints.pos HL.out (by omega)
      have d0 := (hF0.cell (p := ⟨b, o + k, none⟩) hb (fun h => h)).trans (hcs w rfl k hkl)
      have hbw := Nat.lt_of_lt_of_le hb hs0
      have HS := Lib.hid (nodup_snoc hkl hD.out)
      have HX := Lib.hid (fun h => nodup_not (k := k) hkl h)
      have hp := contains_int (l.take k) (some ⟨b, o, none⟩) cl (nth l k) wr (by show Rd _ _ _ _ _; rw [List.length_take, Nat.min_eq_left (by omega)]; exact Ints.pre (HL.out.fr hF0 (fun _ _ _ h => h)) k (by omega)) (n := k) (by rw [List.length_take]; omega) (by omega)
      obtain ⟨M, hM⟩ : ∃ M, M = decide (nth l k ∈ l.take k) := ⟨_, rfl⟩
      rw [← hM] at hp
      have HM := Lib.hid hM
      generalize nth l k = x at *
      clear hcs hM hkl hD
      go_wp2_with (fail)
      refine hp.mono ?_
      rintro e1 w2 ⟨rfl, rfl⟩
      clear hp
      cases M with
      | true =>
        have HE := Lib.hid (HX.out (of_decide_eq_true HM.out.symm))
        clear HS HX HM
        go_wp2
        go_ret2
        exact RetOrd.bad HE.out rfl hF0
      | false =>
        have HE := Lib.hid (HS.out (of_decide_eq_false HM.out.symm))
        clear HS HX HM
        go_wp2
        go_roundw
        case rel => exact ⟨k + 1, by omega, by go_num, by first | trivial | rfl, HE⟩
        case measure => simp [intOf]; omega
    · obtain rfl : k = n := by omega
      have HD : Hid l.Nodup := Lib.hid (by have := hD.out; rwa [HN.out, List.take_length] at this)
      have hL1 := HL.out.fr hF0 (fun _ _ _ h => h)
      have hc0 := cell_newI wr (.slice al k cl) 30
      have hf := sortedPick_any f w.heap.size wr.heap.size al cl l (by have := HN.out; omega) (wr.alloc (.cells #[.slice al k cl] 30)) (by simp) (by rw [← HN.out]; exact hc0) (hL1.fr ((Fr.refl (fun _ => False) _).alloc _) (fun _ _ _ h => h)) (hB0.alloc _)
      rw [← HN.out] at hf
      have hF1 := hF0.alloc (.cells #[.slice al k cl] 30)
      clear hD hL1 hc0 hB0
      go_wp2_with (fail)
      refine (valuesI_any al k cl wr).mono ?_
      rintro e1 w2 ⟨rfl, rfl⟩
      go_wp2_with (fail)
      refine hf.mono ?_
      rintro e2 w3 ⟨a3, c3, ob3, rfl, hO3, hF3, hN3⟩
      have hFe := hF1.trans hF3
      have hs1 := hF1.size
      clear hf hF3 hF1 hF0
      go_wp2
      go_ret2
      exact RetOrd.good HD.out rfl hO3 hFe (fun g hg => Nat.le_trans hs1 (hN3 g hg))
end Go.Proofs.YtbmeeglehbaggaaDoor
