import Derived.Test.YtfjempfffdeklaaDoorMatB
import Derived.Test.YtfjempfffdeklaaDoorGraph
namespace Go.Proofs.YtfjempfffdeklaaDoor
open Go.RowKit

def put2 (rs : List (List Int)) (i k : Nat) (x : Int) : List (List Int) := rs.set i ((nth rs i).set k x)
def putL (rs : List (List Int)) (x : Lk) : List (List Int) := put2 (put2 rs x.a.toNat x.b.toNat x.c) x.b.toNat x.a.toNat x.c
def costsM (n : Nat) (l : List Lk) : List (List Int) := l.foldl putL (ran n (oneRow n))
def costsE (n : Int) (l : List Lk) : Except Int (List (List Int)) :=
  match graphErr n l with
  | some k => .error k
  | none => .ok (costsM n.toNat l)
theorem put2_len (rs : List (List Int)) (i k : Nat) (x : Int) : (put2 rs i k x).length = rs.length := List.length_set
theorem put2_sq {n : Nat} {rs : List (List Int)} (h : Sq n rs) (i k : Nat) (x : Int) (hi : i < n) : Sq n (put2 rs i k x) := by
  refine ⟨by rw [put2_len, h.len], fun j hj => ?_⟩
  unfold put2
  rw [nth_set rs i j _ (by rw [h.len]; exact hi)]
  split
  · rw [List.length_set]; exact h.rows i hi
  · exact h.rows j hj
theorem put2_at {n : Nat} {rs : List (List Int)} (h : Sq n rs) (i k : Nat) (x : Int) (hi : i < n) (hk : k < n) (p q : Nat) : at2 (put2 rs i k x) p q = if p = i ∧ q = k then x else at2 rs p q := by
  unfold at2 put2
  rw [nth_set rs i p _ (by rw [h.len]; exact hi)]
  by_cases hp : p = i
  · subst hp
    rw [if_pos rfl, nth_set _ _ _ _ (by rw [h.rows p hi]; exact hk)]
    by_cases hq : q = k
    · rw [if_pos hq, if_pos ⟨rfl, hq⟩]
    · rw [if_neg hq, if_neg (fun hc => hq hc.2)]
  · rw [if_neg hp, if_neg (fun hc => hp hc.1)]
theorem lkErr_ok {n : Int} : ∀ (l : List Lk) (seen : List (Int × Int)), lkErr n seen l = none → ∀ x ∈ l, ¬ Lk.bad n x ∧ x.a ≠ x.b := by
  intro l
  induction l with
  | nil => intro _ _ x hx; cases hx
  | cons y l ih =>
    intro seen h x hx
    rw [lkErr_cons] at h
    split at h
    · cases h
    · split at h
      · cases h
      · split at h
        · cases h
        · rename_i h1 h2 h3
          rcases List.mem_cons.1 hx with rfl | hx
          · exact ⟨h1, h2⟩
          · exact ih _ h x hx

theorem putL_sq {n : Nat} {rs : List (List Int)} (h : Sq n rs) (x : Lk) (ha : x.a.toNat < n) (hb : x.b.toNat < n) : Sq n (putL rs x) := put2_sq (put2_sq h _ _ _ ha) _ _ _ hb
theorem one_sq (n : Nat) : Sq n (ran n (oneRow n)) := ⟨ran_len _ _, fun i hi => by rw [nth_ran n _ i hi]; simp [oneRow]⟩
theorem fold_sq {n : Nat} : ∀ (l : List Lk) (rs : List (List Int)), Sq n rs → (∀ x ∈ l, x.a.toNat < n ∧ x.b.toNat < n) → Sq n (l.foldl putL rs) := by
  intro l
  induction l with
  | nil => intro rs h _; exact h
  | cons x l ih => intro rs h hl; exact ih _ (putL_sq h x (hl x (by simp)).1 (hl x (by simp)).2) (fun y hy => hl y (by simp [hy]))

set_option maxRecDepth 100000 in
set_option maxHeartbeats 2000000 in
theorem costs_any (n : Int) (l : List Lk) (a : Option Addr) (c : Nat) (w : World) (hL : Links w.heap a l) (hl : l.length ≤ 9223372036854775807) (hw : ∀ x ∈ l, (Lit.int .i64 x.a).wf = true ∧ (Lit.int .i64 x.b).wf = true ∧ (Lit.int .i64 x.c).wf = true) :
    Calls Tryd.prog 121 #[.int .i64 n, .slice a l.length c] w (RetMat w (costsE n l)) := by
  go_enter Tryd.func121, Tryd.ntmps121
  go_wp2_with (go_at_call 86; refine (gcheck_any n l a c _ hL hl hw).mono ?_)
  intro e1 w1 R1
  obtain ⟨rfl, hF1⟩ := R1
  cases hg : graphErr n l with
  | some k =>
    have hX := Lib.hid (show costsE n l = .error k by unfold costsE; rw [hg])
    clear hg
    rw [show errO (some k) = errv k from rfl]
    go_wp2
    go_ret2
    exact RetMat.err hX.out rfl hF1
  | none =>
    have hX := Lib.hid (show costsE n l = .ok (costsM n.toNat l) by unfold costsE; rw [hg])
    have hn : 1 ≤ n ∧ n ≤ 8 := by
      unfold graphErr at hg
      split at hg
      · cases hg
      · omega
    have hok : ∀ x ∈ l, ¬ Lk.bad n x ∧ x.a ≠ x.b := by
      unfold graphErr at hg
      split at hg
      · cases hg
      · exact lkErr_ok l [] hg
    clear hg
    obtain ⟨n1, n8⟩ := hn
    obtain ⟨n, rfl⟩ := Int.eq_ofNat_of_zero_le (show 0 ≤ n by omega)
    rw [Int.toNat_natCast] at hX
    rw [show errO none = .nilIface from rfl]
    have HOK := Lib.hid hok
    clear hok
    go_wp2
    go_loopw [19, 7] (fun s19 s7 wr => ∃ (i : Nat) (a : Option Addr) (c : Nat) (ob : Option Nat) (G C : Nat → Nat), i ≤ n ∧ s19 = .int .i64 i ∧ s7 = .slice a i c ∧ OMat wr.heap w.heap.size 38 3 a c ob (ran i (oneRow n)) G C ∧ Fr (fun _ => False) w wr) (fun s _ _ => n - (intOf s).toNat)
    case atStart => exact ⟨0, none, 0, none, fun _ => 0, fun _ => 0, by omega, rfl, rfl, OMat.nil _ _ _ _ _ _, hF1⟩
    case round =>
      obtain ⟨i, ao, co, ob, G, C, hi, rfl, rfl, hM, hF⟩ := hrel
      by_cases hlt : i < n
      · have hlit := (Ownd.made wr 3 1 1 [.int .i64 16] rfl (by decide)).rd
        go_wp2_with (go_at_call 140; refine (repeat_int 16 _ 1 n _ hlit (by omega) (by omega)).mono ?_)
        intro e2 w2 R2
        obtain ⟨a1, c1, ob1, rfl, hO1, hF2, hN1⟩ := R2
        have hFw1 : Fr (fun _ => False) w w2 := (hF.alloc _).trans hF2
        have hM1 := hM.fr ((Fr.refl _ wr).alloc (.cells #[.int .i64 16] 3) |>.trans hF2) (fun _ _ _ h => h)
        obtain ⟨g, rfl, rfl, hg, hc, hfz⟩ := hO1.pos (by omega)
        have hgn : wr.heap.size < g := by have := hN1 g rfl; simp at this; omega
        have hci := (hc i (by omega)).trans (ivals_get .i64 (List.replicate n (16 : Int)) i (by simpa using hlt))
        have hfi := hfz i
        have hO2 : Ownd (w2.setCell ⟨g, i, none⟩ (.int .i64 0)).heap 3 1 (some ⟨g, 0, none⟩) n c1 (ivals .i64 (oneRow n i)) (some g) := by
          have := hO1.set rfl i (.int .i64 0)
          have e : (ivals .i64 (List.replicate n (16 : Int))).set i (.int .i64 0) = ivals .i64 (oneRow n i) := by simp [ivals, oneRow, List.map_set]
          rw [e] at this
          exact this
        have hrl : (oneRow n i).length = n := by simp [oneRow]
        have hob : ob ≠ some g := fun h => by have := (hM.top.lt g h); omega
        have hGg : ∀ j, j < i → G j ≠ g := fun j hj h => by have := (hM.row j (by simpa using hj)).lt _ rfl; omega
        have hlen : (ran i (oneRow n)).length = i := ran_len _ _
        have hM2 := hM1.fr' (w' := w2.setCell ⟨g, i, none⟩ (.int .i64 0)) (S := fun k => k = g) ((Fr.refl _ _).at1 i _) (fun k hk => by subst hk; exact ⟨fun j hj => hGg j (by rw [hlen] at hj; exact hj), hob⟩)
        have htop := (hM2.alloc (.cells #[.slice (some ⟨g, 0, none⟩) n c1] 38)).top
        rw [hlen] at htop
        have hFw2 : Fr (fun _ => False) w (w2.setCell ⟨g, i, none⟩ (.int .i64 0)) := hFw1.setCell (fun h => by have := hF.size; simp only at h; omega) _
        have hrd := (Ownd.made (w2.setCell ⟨g, i, none⟩ (.int .i64 0)) 38 1 1 [.slice (some ⟨g, 0, none⟩) n c1] rfl (by decide)).rd
        rw [World.size_setCell] at hrd
        clear hc hfz hO1 hM1
        go_wp2_with (at_builtin; refine wpList_app rfl _ _ 115 rfl Tryd.underlying115 infoInts rfl (by decide) rfl rfl htop hrd (by simp [Value.oneCell']) (by omega) (by omega) ?_)
        intro a' c' w3 ob' z1 z2 z3
        go_wp2
        have hP := OMat.push (r := oneRow n i) (cr := c1) (hM2.alloc (.cells #[.slice (some ⟨g, 0, none⟩) n c1] 38)) (by rw [hrl]; exact hO2.alloc _) (by have := hF.size; omega) hob (fun j hj => hGg j (by rw [hlen] at hj; exact hj)) (by have := (hFw2.alloc (.cells #[.slice (some ⟨g, 0, none⟩) n c1] 38)).size; exact this) (by rw [hlen, hrl]) (by rw [hlen]; exact z1) z2 (by simpa using z3)
        have hF3 := Fr.app (hFw2.alloc _) z2 (fun k hk => (hM2.obn k hk).1)
        have e : ran i (oneRow n) ++ [oneRow n i] = ran (i + 1) (oneRow n) := by simp [ran, List.range_succ]
        rw [e] at hP
        clear e htop hrd hO2 z1 z2 z3 hM2 hM
        go_roundw
        case rel => exact ⟨i + 1, a', c', ob', _, _, by omega, by go_num, rfl, hP, hF3⟩
        case measure => simp [intOf]; omega
      · obtain rfl : i = n := by omega
        go_wp2
        go_loopw [35] (fun s wx => ∃ k : Nat, k ≤ l.length ∧ s = .int .i64 k ∧ OMat wx.heap w.heap.size 38 3 ao co ob ((l.take k).foldl putL (ran i (oneRow i))) G C ∧ Fr (fun _ => False) w wx) (fun s _ => l.length - (intOf s).toNat)
        case atStart => exact ⟨0, by omega, rfl, hM, hF⟩
        case round =>
          clear hM hF
          obtain ⟨k, hk, rfl, hM, hF⟩ := hrel
          by_cases hkl : k < l.length
          · have hsq := fold_sq (l.take k) _ (one_sq i) (fun x hx => by
              have h := (HOK.out x (List.mem_of_mem_take hx)).1
              unfold Lk.bad at h
              omega)
            have hfold : (l.take (k + 1)).foldl putL (ran i (oneRow i)) = putL ((l.take k).foldl putL (ran i (oneRow i))) (nth l k) := by rw [take_succ_nth l k hkl, List.foldl_append]; rfl
            generalize (l.take k).foldl putL (ran i (oneRow i)) = R at *
            obtain ⟨b, off, rfl, hb, hc⟩ := Recs.pos hL Lk.cells_len (by omega) (by omega)
            obtain ⟨x, hx⟩ : ∃ x, x = nth l k := ⟨_, rfl⟩
            have c0 : wr.cell? ⟨b, off + k * 3, none⟩ = some (.int .i64 x.a) := by rw [hx]; exact (hF.cell (p := ⟨b, off + k * 3, none⟩) hb (fun h => h)).trans (hc w rfl k 0 hkl (by omega))
            have c1 : wr.cell? ⟨b, off + k * 3 + 1, none⟩ = some (.int .i64 x.b) := by rw [hx]; exact (hF.cell (p := ⟨b, off + k * 3 + 1, none⟩) hb (fun h => h)).trans (hc w rfl k 1 hkl (by omega))
            have c2 : wr.cell? ⟨b, off + k * 3 + 2, none⟩ = some (.int .i64 x.c) := by rw [hx]; exact (hF.cell (p := ⟨b, off + k * 3 + 2, none⟩) hb (fun h => h)).trans (hc w rfl k 2 hkl (by omega))
            clear hc
            obtain ⟨hg1, hg2⟩ := HOK.out x (by rw [hx]; exact nth_mem l k hkl)
            rw [← hx] at hfold
            have HFO := Lib.hid hfold
            clear hfold hx
            obtain ⟨xa, xb, xc⟩ := x
            unfold Lk.bad at hg1
            simp only at c0 c1 c2 hg1 hg2
            obtain ⟨xa, rfl⟩ := Int.eq_ofNat_of_zero_le (show 0 ≤ xa by omega)
            obtain ⟨xb, rfl⟩ := Int.eq_ofNat_of_zero_le (show 0 ≤ xb by omega)
            have ha : xa < i := by omega
            have hb' : xb < i := by omega
            have hne : xa ≠ xb := fun h => hg2 (by rw [h])
            clear hg1 hg2
            obtain ⟨bt, ot, rfl, x1, x2, x3⟩ := OMat.cells hM hsq.len hsq.rows xa xb ha hb'
            obtain ⟨_, _, hh, y1, y2, y3⟩ := OMat.cells hM hsq.len hsq.rows xb xa hb' ha
            cases hh
            have l1 : G xa < wr.heap.size := (hM.row xa (by rw [hsq.len]; exact ha)).lt _ rfl
            have l2 : G xb < wr.heap.size := (hM.row xb (by rw [hsq.len]; exact hb')).lt _ rfl
            have l3 : bt < wr.heap.size := by
              obtain ⟨_, _, h1, h2, _⟩ := hM.mat.pos (by rw [hsq.len]; omega)
              cases h1; exact h2
            have l4 : b < wr.heap.size := by have := hF.size; omega
            have hset1 := OMat.set hM xa xb xc (by rw [hsq.len]; exact ha)
            have hset2 := (OMat.set hset1 xb xa xc (by rw [List.length_set, hsq.len]; exact hb')).alloc (.cells #[.int .i64 xa, .int .i64 xb, .int .i64 xc] 147)
            have HS := Lib.hid hset2
            have hga := hM.gn xa (by rw [hsq.len]; exact ha)
            have hgb := hM.gn xb (by rw [hsq.len]; exact hb')
            clear hset1 hset2 hM hL
            have q0 : ∀ c : Cls (fun k => k = G xa) (wr.alloc (.cells #[.int .i64 xa, .int .i64 xb, .int .i64 xc] 147)), c.wo.cell? ⟨wr.heap.size, 0, none⟩ = some (.int .i64 xa) := fun c => by
              rw [c.fr.cell (by simp) (by show ¬ wr.heap.size = G xa; omega)]
              simp
            have q2 : ∀ c : Cls (fun k => k = G xa) (wr.alloc (.cells #[.int .i64 xa, .int .i64 xb, .int .i64 xc] 147)), c.wo.cell? ⟨wr.heap.size, 2, none⟩ = some (.int .i64 xc) := fun c => by
              rw [c.fr.cell (by simp) (by show ¬ wr.heap.size = G xa; omega)]
              simp
            go_wp2
            (refine wp_region_mix (fun w' => ∃ c : Cls (fun k => k = G xa) (wr.alloc (.cells #[.int .i64 xa, .int .i64 xb, .int .i64 xc] 147)), w' = c.wo) 20 (by kernel_rfl) (by kernel_rfl) (⟨⟨_, (Fr.refl _ _).drew⟩, rfl⟩) ?_; simp only [List.take_succ_cons, List.take_zero, List.drop_succ_cons, List.drop_zero])
            (refine wpMix_earlyN 12 (by kernel_rfl) (by kernel_rfl) ?_; simp only [List.take_succ_cons, List.take_zero, List.drop_succ_cons, List.drop_zero]; (repeat (go_big_quiet_step (fail))); refine wpQuiet_nil ?_)
            (refine wpMix_lateN 2 (⟨⟨_, (Fr.refl _ _).drew⟩, rfl⟩) (by kernel_rfl) ?_; simp only [List.take_succ_cons, List.take_zero, List.drop_succ_cons, List.drop_zero]; (repeat (go_big_quiet_step (fail))); refine wpQuiet_nil ?_)
            (refine wpMix_earlyN 2 (by kernel_rfl) (by kernel_rfl) ?_; simp only [List.take_succ_cons, List.take_zero, List.drop_succ_cons, List.drop_zero]; (repeat (go_big_quiet_step (fail))); refine wpQuiet_nil ?_)
            (refine wpMix_lateN 2 (⟨⟨_, (Fr.refl _ _).drew⟩, rfl⟩) (by kernel_rfl) ?_; simp only [List.take_succ_cons, List.take_zero, List.drop_succ_cons, List.drop_zero]; (repeat (go_big_quiet_step (fail))); refine wpQuiet_nil ?_)
            (refine wpMix_earlyN 1 (by kernel_rfl) (by kernel_rfl) ?_; simp only [List.take_succ_cons, List.take_zero, List.drop_succ_cons, List.drop_zero]; (repeat (go_big_quiet_step (fail))); refine wpQuiet_nil ?_)
            refine wpMix_eff (by kernel_rfl) ?_
            go_wp2
            refine ⟨⟨⟨_, (Fr.past (S := fun k => k = G xa) _ (G xa) xb _ l1 rfl).drew⟩, rfl⟩, ?_⟩
            refine wpMix_nil ?_
            go_wp2
            go_roundw
            case rel => exact ⟨k + 1, by omega, by go_num, by rw [HFO.out]; exact HS.out, (((hF.setCell (fun h => by simp only at h; omega) _).setCell (fun h => by simp only at h; omega) _).alloc _).drew⟩
            case measure => simp [intOf]; omega
          · obtain rfl : k = l.length := by omega
            rw [List.take_length] at hM
            have hsq : (costsM i l).length = i := (fold_sq l _ (one_sq i) (fun x hx => by
              have h := (HOK.out x hx).1
              unfold Lk.bad at h
              omega)).len
            go_wp2
            go_ret2
            exact RetMat.ok hX.out (by rw [hsq]; rfl) hM hF
end Go.Proofs.YtfjempfffdeklaaDoor
