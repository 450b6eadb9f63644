import Derived.Test.YtakkljdeencfbaaAsyncP
import Derived.Test.YtakkljdeencfbaaAsyncW
import Derived.Test.YtakkljdeencfbaaCTab
import Derived.Test.YtakkljdeencfbaaGOk
namespace Go.Proofs.Ytakkljdeencfbaa
open Go.RowKit

theorem infoRows : (Try.prog.info? 64).map (fun i => (i.zero, i.size, i.bytes)) = some (some (.slice none 0 0), 1, 24) := by kernel_rfl
def AL.start (base sb fb fc c : Nat) (a : Option Addr) (ob : Option Nat) (G Cc : Nat → Nat) : AL :=
  ⟨a, none, none, c, 0, 0, ob, none, none, fb, fc, G, fun _ => 0, fun _ => 0, Cc, fun _ => 0, fun _ => 0, fun _ _ => none, fun _ _ => 0, fun _ _ => none, fun x => if x = sb then 1 else if x = fb then 5 else if ob = some x then 2 else if base ≤ x then 6 else 0⟩
theorem ANet.start {w : World} {base n fb fc c : Nat} {a : Option Addr} {ob : Option Nat} {rs : List (List Int)} {G Cc : Nat → Nat} {f : List Int} {to : Int} (hM : OMat w.heap base 23 3 a c ob rs G Cc) (hsq : Sq n rs) (hn : 1 ≤ n ∧ n ≤ 8)
    (hf : Own w.heap 3 1 (some ⟨fb, 0, none⟩) n fc (ivals .i64 f) (some fb)) (h1 : base ≤ fb) (h2 : ∀ i, i < n → G i ≠ fb) (h3 : ob ≠ some fb) :
    ANet (w.alloc (.cells #[.int .i64 to, .slice a n c, .slice none 0 0, .slice none 0 0, .slice (some ⟨fb, 0, none⟩) n fc] 75)).heap base w.heap.size n 0 0 to (fun i => nth rs i) (fun _ => []) f (fun _ _ => []) (AL.start base w.heap.size fb fc c a ob G Cc) := by
  have hlt : ∀ i, i < n → G i < w.heap.size := fun i hi => (hM.row i (by rw [hsq.len]; exact hi)).lt _ rfl
  have hfl := hf.lt _ rfl
  have hol := hM.top.lt
  have hT := hM.top
  rw [hsq.len] at hT
  have e : (List.range n).map (fun i => Value.slice (some ⟨G i, 0, none⟩) (nth rs i).length (Cc i)) = (List.range n).map fun i => Value.slice (some ⟨G i, 0, none⟩) n (Cc i) := List.map_congr_left fun i hi => by rw [hsq.rows i (List.mem_range.1 hi)]
  rw [e] at hT
  refine ⟨Blk.made w _ _, hT.alloc _, fun i hi => ?_, Own.nil _ _ _, fun i hi => absurd hi (Nat.not_lt_zero _), fun i k hi => absurd hi (Nat.not_lt_zero _), Own.nil _ _ _, fun i hi => absurd hi (Nat.not_lt_zero _), hf.alloc _, fun i k hi => absurd hi (Nat.not_lt_zero _), fun x hx => ?_, if_pos rfl, fun x hx => ?_, (fun x hx => nomatch hx), (fun x hx => nomatch hx), ?_, fun i hi => ?_, fun i hi => absurd hi (Nat.not_lt_zero _), fun i hi => absurd hi (Nat.not_lt_zero _), fun i k x hi => absurd hi (Nat.not_lt_zero _), hn, Nat.zero_le _, Nat.zero_le _⟩
  · have := (hM.row i (by rw [hsq.len]; exact hi)).alloc (.cells #[.int .i64 to, .slice a n c, .slice none 0 0, .slice none 0 0, .slice (some ⟨fb, 0, none⟩) n fc] 75)
    rw [hsq.rows i hi] at this
    exact this
  · change (if x = w.heap.size then 1 else if x = fb then 5 else if ob = some x then 2 else if base ≤ x then 6 else 0) ≠ 0 at hx
    split at hx
    · omega
    · split at hx
      · omega
      · split at hx
        · rename_i h; exact (hM.obn x h).1
        · split at hx
          · assumption
          · omega
  · change ob = some x at hx
    show (if x = w.heap.size then 1 else if x = fb then 5 else if ob = some x then 2 else if base ≤ x then 6 else 0) = 2
    rw [if_neg (by have := hol x hx; omega), if_neg (fun e => h3 (by rw [hx, e])), if_pos hx]
  · show (if fb = w.heap.size then 1 else if fb = fb then 5 else _) = 5
    rw [if_neg (by omega), if_pos rfl]
  · show (if G i = w.heap.size then 1 else if G i = fb then 5 else if ob = some (G i) then 2 else if base ≤ G i then 6 else 0) = 6
    have hi' : i < rs.length := by rw [hsq.len]; exact hi
    rw [if_neg (by have := hlt i hi; omega), if_neg (h2 i hi), if_neg (fun e => (hM.obn _ e).2 i hi' rfl), if_pos (hM.gn i hi')]

def newE (n : Int) (l : List Lk) (to : Int) : Option Int :=
  match graphErr n l with
  | some k => some k
  | none => if to < 0 ∨ n ≤ to then some 1 else none
def NewPost (w : World) (n : Int) (l : List Lk) (to : Int) (r : Option Int) (e : Ending) (w' : World) : Prop :=
  match r with
  | some k => RetV w (.tuple #[.pointer none, errv k]) e w'
  | none => ∃ (N sb : Nat) (hd : Nat → List Int) (f : List Int) (q : Nat → Nat → List Int) (L : AL), n = N ∧ e = .returned (.tuple #[.pointer (some ⟨sb, 0, none⟩), .nilIface]) ∧ ANet w'.heap w.heap.size sb N N N to (fun i => nth (costsM N l) i) hd f q L ∧ Fr (fun _ => False) w w'
theorem NewPost.err {w w' : World} {n : Int} {l : List Lk} {to : Int} {r : Option Int} {k : Int} {e : Ending} (h : r = some k) (he : e = .returned (.tuple #[.pointer none, errv k])) (hF : Fr (fun _ => False) w w') : NewPost w n l to r e w' := by subst h; exact ⟨he, hF⟩
theorem NewPost.ok {w w' : World} {N sb : Nat} {l : List Lk} {to : Int} {r : Option Int} {e : Ending} {hd : Nat → List Int} {f : List Int} {q : Nat → Nat → List Int} {L : AL} (h : r = none) (he : e = .returned (.tuple #[.pointer (some ⟨sb, 0, none⟩), .nilIface])) (hA : ANet w'.heap w.heap.size sb N N N to (fun i => nth (costsM N l) i) hd f q L) (hF : Fr (fun _ => False) w w') : NewPost w N l to r e w' := by
  subst h; exact ⟨N, sb, hd, f, q, L, rfl, he, hA, hF⟩

set_option maxRecDepth 100000 in
set_option maxHeartbeats 2000000 in
theorem anew_any (n : Int) (l : List Lk) (a : Option Addr) (c : Nat) (to : Int) (w : World) (hL : Links w.heap a l) (hl : l.length ≤ 9223372036854775807) (hw : ∀ x ∈ l, (Lit.int .i64 x.a).wf = true ∧ (Lit.int .i64 x.b).wf = true ∧ (Lit.int .i64 x.c).wf = true) :
    Calls Try.prog 12 #[.int .i64 n, .slice a l.length c, .int .i64 to] w (NewPost w n l to (newE n l to)) := by
  obtain ⟨E, hE⟩ : ∃ E, E = newE n l to := ⟨_, rfl⟩
  rw [← hE]
  have HE := Lib.hid hE
  clear hE
  go_enter Try.func12, Try.ntmps12
  go_wp2_with (fail)
  refine (costs_any n l a c _ hL hl hw).mono ?_
  intro e1 w1 R1
  rcases costsE_cases n l with ⟨k, hg, hc⟩ | ⟨N, rfl, hN1, hN8, hg, hc, hT⟩
  · have hX := Lib.hid (HE.out.trans (show newE n l to = some k by unfold newE; rw [hg]))
    rw [hc] at R1
    obtain ⟨rfl, hF1⟩ := R1
    clear hg hc
    go_wp2
    go_ret2
    exact NewPost.err hX.out rfl hF1
  · have hE0 : newE N l to = if to < 0 ∨ (N : Int) ≤ to then some 1 else none := by unfold newE; rw [hg]
    obtain ⟨a1, c1, ob1, G, Cc, rfl, hM1, hF1⟩ := R1.get hc hT.sq.len
    have HT := Lib.hid hT
    clear R1 hc hg
    by_cases hto : to < 0 ∨ (N : Int) ≤ to
    · have hX := Lib.hid (HE.out.trans (hE0.trans (if_pos hto)))
      have q : decide (to < 0) = true ∨ (decide (to < 0) = false ∧ decide (to ≥ (N : Int)) = true) := by simp only [decide_eq_true_iff, decide_eq_false_iff_not]; omega
      clear hto hE0 hT
      rcases q with q1 | ⟨q1, q2⟩
      all_goals
        go_wp2
        go_ret2
        exact NewPost.err hX.out rfl hF1
    · have hX := Lib.hid (HE.out.trans (hE0.trans (if_neg hto)))
      obtain ⟨t, rfl⟩ := Int.eq_ofNat_of_zero_le (show 0 ≤ to by omega)
      have htN : t < N := by omega
      have q2 : decide ((t : Int) ≥ (N : Int)) = false := by simp; omega
      have hMl := hM1.top.lt
      have hMg := fun i (hi : i < N) => (hM1.row i (by rw [hT.sq.len]; exact hi)).lt _ rfl
      have HML := Lib.hid (And.intro hMl hMg)
      have HM1 := Lib.hid hM1
      clear hto hE0 hT hMl hMg hM1
      have hlit := (Own.made w1 3 1 1 [.int .i64 16] rfl (by decide)).rd
      go_wp2_with (fail)
      refine (repeat_int 16 _ 1 N _ hlit (by omega) (by omega)).mono ?_
      rintro e2 w2 ⟨a2, c2, ob2, rfl, hO2, hF2, hN2⟩
      obtain ⟨fb, rfl, rfl, hfb, hfc, hff⟩ := hO2.pos (by omega)
      have hs1 := hF1.size
      have hfbn : w1.heap.size < fb := by have := hN2 fb rfl; simp at this; omega
      have hF02 := (hF1.alloc (.cells #[.int .i64 16] 3)).trans hF2
      have hM2 := HM1.out.fr (((Fr.refl (fun _ => False) w1).alloc (.cells #[.int .i64 16] 3)).trans hF2) (fun _ _ _ h => h)
      have hO2' : Own (w2.setCell ⟨fb, t, none⟩ (.int .i64 0)).heap 3 1 (some ⟨fb, 0, none⟩) N c2 (ivals .i64 ((List.replicate N (16 : Int)).set t 0)) (some fb) := by
        have h1 := hO2.set rfl t (.int .i64 0)
        rwa [show (ivals .i64 (List.replicate N (16 : Int))).set t (.int .i64 0) = ivals .i64 ((List.replicate N (16 : Int)).set t 0) by simp [ivals, List.map_set]] at h1
      have hne1 : ∀ i, i < N → G i ≠ fb := fun i hi h => by have := HML.out.2 i hi; omega
      have hne2 : ob1 ≠ some fb := fun h => by have := HML.out.1 fb h; omega
      have hM3 := hM2.fr' (w' := w2.setCell ⟨fb, t, none⟩ (.int .i64 0)) (S := fun k => k = fb) ((Fr.refl _ _).at1 t _) (fun k hk => by subst hk; exact ⟨fun j hj => hne1 j (by rw [HT.out.sq.len] at hj; exact hj), hne2⟩)
      have hA0 := ANet.start (to := t) hM3 HT.out.sq ⟨hN1, hN8⟩ hO2' (by omega) hne1 hne2
      rw [World.size_setCell] at hA0
      have HA := Lib.hid hA0
      have ct := (hfc t (by omega)).trans (show (ivals .i64 (List.replicate N (16 : Int)))[t]? = some (.int .i64 16) by simp [htN])
      have ft := hff t
      have hFs := Lib.hid ((hF02.setCell (p := ⟨fb, t, none⟩) (fun h => by simp only at h; omega) (.int .i64 0)).alloc (.cells #[.int .i64 t, .slice a1 N c1, .slice none 0 0, .slice none 0 0, .slice (some ⟨fb, 0, none⟩) N c2] 75))
      clear hlit hO2 hN2 hfc hff hM2 hA0 hO2' hM3
      go_wp2
      go_loopw [42] (fun s42 wr => ∃ (i : Nat) (hd : Nat → List Int) (f : List Int) (q : Nat → Nat → List Int) (L : AL), s42 = .int .i64 i ∧ i ≤ N ∧ ANet wr.heap w.heap.size w2.heap.size N i i t (fun i => nth (costsM N l) i) hd f q L ∧ Fr (fun _ => False) w wr) (fun s _ => N - (intOf s).toNat)
      case atStart => exact ⟨0, _, _, _, _, rfl, by omega, HA.out, hFs.out⟩
      case round =>
        obtain ⟨i, hd, f, q, L, rfl, hi, hA, hF⟩ := hrel
        by_cases hiN : i < N
        · obtain ⟨-, -, k2, k3, -⟩ := hA.cells
          have hsb := hA.sB.lt
          have n1 : L.wtb ≠ some w2.heap.size := fun h => by have h1 := hA.rwt _ h; rw [hA.rs] at h1; omega
          have q2' : ∀ c : Cls (fun x => L.wtb = some x) wr, c.wo.cell? ⟨w2.heap.size, 2, none⟩ = some (.slice L.wta i L.wc) := fun c => (c.fr.cell (p := ⟨w2.heap.size, 2, none⟩) hsb n1).trans k2
          have hbase := hF.size
          have HA1 := Lib.hid hA
          obtain ⟨xs, hxs⟩ : ∃ xs, xs = (List.range i).map (fun j => Value.slice (some ⟨L.wr j, 0, none⟩) N (L.wcr j)) := ⟨_, rfl⟩
          have hT := hA.wT
          rw [← hxs] at hT
          have HXS := Lib.hid hxs
          clear hA hxs
          go_wp2
          (refine wp_region_mix (fun w' => ∃ c : Cls (fun x => L.wtb = some x) wr, w' = c.wo) 9 (by kernel_rfl) (by kernel_rfl) (⟨⟨_, (Fr.refl _ _).drew⟩, rfl⟩) ?_; simp only [List.take_succ_cons, List.take_zero, List.drop_succ_cons, List.drop_zero])
          (refine wpMix_lateN 5 (⟨⟨_, (Fr.refl _ _).drew⟩, rfl⟩) (by kernel_rfl) ?_; simp only [List.take_succ_cons, List.take_zero, List.drop_succ_cons, List.drop_zero]; (repeat (go_big_quiet_step (fail))); refine wpQuiet_nil ?_)
          (refine wpMix_earlyN 1 (by kernel_rfl) (by kernel_rfl) ?_; simp only [List.take_succ_cons, List.take_zero, List.drop_succ_cons, List.drop_zero]; (repeat (go_big_quiet_step (fail))); refine wpQuiet_nil ?_)
          refine wpMix_eff (by kernel_rfl) ?_
          go_wp2_with (at_make; refine wpList_mk rfl _ _ 64 rfl Try.underlying64 infoInts rfl N rfl rfl rfl rfl (by omega) (by omega) ?_)
          intro w3 hB3 hF3 hs3
          have hF13 : Fr (fun _ => False) wr w3 := (Fr.refl (fun _ => False) wr).drew.trans hF3
          have hrow : Own w3.heap 23 1 (some ⟨wr.heap.size, 0, none⟩) N N (List.replicate N (.slice none 0 0)) (some wr.heap.size) := by
            have h1 := hB3.own (sz := 1) (n := N) (cap := N) (Nat.le_refl _) (Nat.le_trans hN8 (by decide)) (by simp)
            simpa using h1
          have hT3 := hT.fr hF13 (fun _ _ h => h)
          clear hB3 hF3
          go_wp2
          refine ⟨⟨⟨_, hF13.none _⟩, rfl⟩, ?_⟩
          refine wpMix_eff (by kernel_rfl) ?_
          go_wp2
          refine ⟨⟨⟨_, (hF13.alloc _).none _⟩, rfl⟩, ?_⟩
          refine wpMix_eff (by kernel_rfl) ?_
          have hrd := (Own.made w3 64 1 1 [.slice (some ⟨wr.heap.size, 0, none⟩) N N] rfl (by decide)).rd
          go_wp2_with (at_builtin; refine wpList_app rfl _ _ 73 rfl Try.underlying73 infoRows rfl (by decide) rfl rfl (hT3.alloc _) hrd (by simp [Value.oneCell']) (by omega) (by omega) ?_)
          intro a' c' w6 ob' z1 z2 z3
          have hF36 : Fr (fun x => L.wtb = some x) w3 w6 := ((Fr.refl _ w3).alloc _).trans z2
          have hF6 : Fr (fun x => L.wtb = some x) wr w6 := (hF13.none _).trans hF36
          have hwl := hT.lt
          have hrow6 := hrow.fr hF36 (fun g hg h => by cases hg; have := hwl _ h; omega)
          have z4 : ob' = L.wtb ∨ ∀ x, ob' = some x → wr.heap.size ≤ x ∧ x ≠ wr.heap.size := by
            rcases z3 with z3 | ⟨g', z3, z4⟩
            · exact .inl z3
            · refine .inr fun x hx => ?_
              rw [z3] at hx
              cases hx
              have h1 : (w3.alloc (.cells #[.slice (some ⟨wr.heap.size, 0, none⟩) N N] 64)).heap.size = w3.heap.size + 1 := by simp
              omega
          rw [HXS.out] at z1
          have hA2 := HA1.out.pushW hiN hF6 hrow6 (Nat.le_refl _) z1 z4 hbase
          have b1 := (hF6.cell (p := ⟨w2.heap.size, 2, none⟩) hsb n1).trans k2
          have b2 := (hF6.frozen (p := ⟨w2.heap.size, 2, none⟩) hsb n1).trans (HA1.out.sB.frozen 2)
          have hsb6 := Nat.lt_of_lt_of_le hsb hF6.size
          have hFw6 : Fr (fun _ => False) w w6 := hF.trans' hF6 (fun k hk h => by
            have := HA1.out.lo k (by rw [HA1.out.rwt k h]; omega); omega)
          have hFw7 : Fr (fun _ => False) w (w6.setCell ⟨w2.heap.size, 2, none⟩ (.slice a' (i + 1) c')) := hFw6.setCell (fun h => by
            have := HA1.out.lo w2.heap.size (by rw [HA1.out.rs]; omega); simp only at h; omega) _
          have HA2 := Lib.hid hA2
          clear z1 z2 z3 z4 hA2 hT hT3 hrow hrow6 hrd k2 k3
          go_wp2
          refine ⟨⟨⟨_, hF6⟩, rfl⟩, ?_⟩
          refine wpMix_nil ?_
          clear q2'
          obtain ⟨w7, hw7⟩ : ∃ x, x = w6.setCell ⟨w2.heap.size, 2, none⟩ (.slice a' (i + 1) c') := ⟨_, rfl⟩
          go_wp2_with (fail)
          rw [← hw7] at HA2 hFw7 ⊢
          obtain ⟨L2, hL2⟩ : ∃ x, x = L.pushW i wr.heap.size N a' c' ob' := ⟨_, rfl⟩
          rw [← hL2] at HA2
          clear hw7 hL2 b1 b2 hsb6 hFw6 hF6 hF36 hF13 hs3 hwl HA1 HXS n1 hsb
          generalize ANet.upd q i (fun _ => []) = q2 at *
          obtain ⟨-, -, -, k3, -⟩ := HA2.out.cells
          have hsb := HA2.out.sB.lt
          have n1 : L2.htb ≠ some w2.heap.size := fun h => by have h1 := HA2.out.rht _ h; rw [HA2.out.rs] at h1; omega
          have q3' : ∀ c : Cls (fun x => L2.htb = some x) w7, c.wo.cell? ⟨w2.heap.size, 3, none⟩ = some (.slice L2.hta i L2.hc) := fun c => (c.fr.cell (p := ⟨w2.heap.size, 3, none⟩) hsb n1).trans k3
          obtain ⟨ys, hys⟩ : ∃ xs, xs = (List.range i).map (fun j => Value.slice (some ⟨L2.hr j, 0, none⟩) N (L2.hcr j)) := ⟨_, rfl⟩
          have hT := HA2.out.hT
          rw [← hys] at hT
          have HYS := Lib.hid hys
          have hbase7 := hFw7.size
          clear hys
          (refine wp_region_mix (fun w' => ∃ c : Cls (fun x => L2.htb = some x) w7, w' = c.wo) 10 (by kernel_rfl) (by kernel_rfl) (⟨⟨_, (Fr.refl _ _).drew⟩, rfl⟩) ?_; simp only [List.take_succ_cons, List.take_zero, List.drop_succ_cons, List.drop_zero])
          (refine wpMix_lateN 5 (⟨⟨_, (Fr.refl _ _).drew⟩, rfl⟩) (by kernel_rfl) ?_; simp only [List.take_succ_cons, List.take_zero, List.drop_succ_cons, List.drop_zero]; (repeat (go_big_quiet_step (fail))); refine wpQuiet_nil ?_)
          refine wpMix_eff (by kernel_rfl) ?_
          go_wp2
          refine ⟨⟨⟨_, ((Fr.refl _ _).alloc _).drew⟩, rfl⟩, ?_⟩
          (refine wpMix_lateN 1 (⟨⟨_, (Fr.refl _ _).drew⟩, rfl⟩) (by kernel_rfl) ?_; simp only [List.take_succ_cons, List.take_zero, List.drop_succ_cons, List.drop_zero]; (repeat (go_big_quiet_step (fail))); refine wpQuiet_nil ?_)
          refine wpMix_eff (by kernel_rfl) ?_
          have hlit := (Own.made w7 3 1 1 [.int .i64 16] rfl (by decide)).rd
          go_wp2_with (fail)
          refine (repeat_int 16 (some ⟨w7.heap.size, 0, none⟩) 1 N ((w7.alloc (.cells #[.int .i64 16] 3)).drew) hlit (by omega) (by omega)).mono ?_
          rintro e8 w8 ⟨a8, c8, ob8, rfl, hO8, hF8, hN8'⟩
          obtain ⟨g, rfl, rfl, hg, -, -⟩ := hO8.pos (by omega)
          have hgn : w7.heap.size < g := by have := hN8' g rfl; simp at this; omega
          have hF78 : Fr (fun _ => False) w7 w8 := (((Fr.refl (fun _ => False) w7).alloc (.cells #[.int .i64 16] 3)).drew).trans hF8
          have hT8 := hT.fr hF78 (fun _ _ h => h)
          clear hF8 hN8' hlit
          go_wp2
          refine ⟨⟨⟨_, hF78.none _⟩, rfl⟩, ?_⟩
          refine wpMix_eff (by kernel_rfl) ?_
          go_wp2
          refine ⟨⟨⟨_, (hF78.alloc _).none _⟩, rfl⟩, ?_⟩
          refine wpMix_eff (by kernel_rfl) ?_
          have hrd := (Own.made w8 23 1 1 [.slice (some ⟨g, 0, none⟩) N c8] rfl (by decide)).rd
          go_wp2_with (at_builtin; refine wpList_app rfl _ _ 64 rfl Try.underlying64 infoInts rfl (by decide) rfl rfl (hT8.alloc _) hrd (by simp [Value.oneCell']) (by omega) (by omega) ?_)
          intro a9 c9 w9 ob9 z1 z2 z3
          have hF89 : Fr (fun x => L2.htb = some x) w8 w9 := ((Fr.refl _ w8).alloc _).trans z2
          have hF9 : Fr (fun x => L2.htb = some x) w7 w9 := (hF78.none _).trans hF89
          have hhl := hT.lt
          have hrow9 := hO8.fr hF89 (fun k hk h => by cases hk; have := hhl _ h; omega)
          have z4 : ob9 = L2.htb ∨ ∀ x, ob9 = some x → w7.heap.size ≤ x ∧ x ≠ g := by
            rcases z3 with z3 | ⟨g', z3, z4⟩
            · exact .inl z3
            · refine .inr fun x hx => ?_
              rw [z3] at hx
              cases hx
              have h1 : (w8.alloc (.cells #[.slice (some ⟨g, 0, none⟩) N c8] 23)).heap.size = w8.heap.size + 1 := by simp
              omega
          rw [HYS.out] at z1
          have hA3 := HA2.out.pushH hiN hF9 hrow9 (by omega) z1 z4 hbase7
          have b1 := (hF9.cell (p := ⟨w2.heap.size, 3, none⟩) hsb n1).trans k3
          have b2 := (hF9.frozen (p := ⟨w2.heap.size, 3, none⟩) hsb n1).trans (HA2.out.sB.frozen 3)
          have hsb9 := Nat.lt_of_lt_of_le hsb hF9.size
          have hFw9 : Fr (fun _ => False) w w9 := hFw7.trans' hF9 (fun k hk h => by
            have := HA2.out.lo k (by rw [HA2.out.rht k h]; omega); omega)
          have hFw10 : Fr (fun _ => False) w (w9.setCell ⟨w2.heap.size, 3, none⟩ (.slice a9 (i + 1) c9)) := hFw9.setCell (fun h => by
            have := HA2.out.lo w2.heap.size (by rw [HA2.out.rs]; omega); simp only at h; omega) _
          have HA3 := Lib.hid hA3
          clear z1 z2 z3 z4 hA3 hT hT8 hO8 hrow9 hrd k3
          go_wp2
          refine ⟨⟨⟨_, hF9⟩, rfl⟩, ?_⟩
          refine wpMix_nil ?_
          clear q3'
          go_wp2
          go_roundw
          case rel => exact ⟨i + 1, _, _, _, _, by go_num, by omega, HA3.out, hFw10⟩
          case measure => simp [intOf]; omega
        · obtain rfl : i = N := by omega
          go_wp2
          go_ret2
          exact NewPost.ok hX.out rfl hA hF
end Go.Proofs.Ytakkljdeencfbaa
