import Derived.Test.YtakkljdeencfbaaDoorSpf
import Derived.Test.YtakkljdeencfbaaDoorNMat
namespace Go.Proofs.YtakkljdeencfbaaDoor
open Go.RowKit

/-- Is one the next to the source for another one? -/
def upB (C : Nat → Nat → Int) (far : List Int) (s i k : Nat) : Bool := decide (i ≠ s ∧ k ≠ i ∧ nth far i < 16 ∧ nth far k + C k i = nth far i)
def upRow (C : Nat → Nat → Int) (far : List Int) (s i n : Nat) : List Int := ((List.range n).filter (upB C far s i)).map (fun k : Nat => (k : Int))
def upsM (n : Nat) (C : Nat → Nat → Int) (s : Nat) (far : List Int) : List (List Int) := ran n fun i => upRow C far s i n
theorem upRow_yes {C : Nat → Nat → Int} {far : List Int} {s i k : Nat} (h : upB C far s i k = true) : upRow C far s i (k + 1) = upRow C far s i k ++ [(k : Int)] := by
  unfold upRow; rw [List.range_succ, List.filter_append]; simp [h]
theorem upRow_no {C : Nat → Nat → Int} {far : List Int} {s i k : Nat} (h : ¬ upB C far s i k = true) : upRow C far s i (k + 1) = upRow C far s i k := by
  unfold upRow; rw [List.range_succ, List.filter_append]; simp [h]
theorem upRow_le {C : Nat → Nat → Int} {far : List Int} {s i n : Nat} : (upRow C far s i n).length ≤ n := by
  unfold upRow; rw [List.length_map]; exact Nat.le_trans (List.length_filter_le _ _) (by simp)

/-- By whom each is reached. -/
def RetUps (w : World) (n : Int) (l : List Lk) (s : Int) (r : Option Int) (e : Ending) (w' : World) : Prop :=
  match r with
  | some k => RetV w (.tuple #[.slice none 0 0, errv k]) e w'
  | none => ∃ far a c ob A C G, IsFar n.toNat (costF n.toNat l) s.toNat far ∧ e = .returned (.tuple #[.slice a n.toNat c, .nilIface]) ∧ NMat w'.heap w.heap.size 30 3 a c ob (upsM n.toNat (costF n.toNat l) s.toNat far) A C G ∧ Fr (fun _ => False) w w'
theorem RetUps.err {w w' : World} {n : Int} {l : List Lk} {s : Int} {r : Option Int} {k : Int} {e : Ending} (h : r = some k) (he : e = .returned (.tuple #[.slice none 0 0, errv k])) (hF : Fr (fun _ => False) w w') : RetUps w n l s r e w' := by subst h; exact ⟨he, hF⟩

set_option maxRecDepth 100000 in
set_option maxHeartbeats 4000000 in
theorem ups_any (n : Int) (l : List Lk) (a : Option Addr) (c : Nat) (s : Int) (w : World) (hL : Links w.heap a l) (hl : l.length ≤ 9223372036854775807) (hw : ∀ x ∈ l, (Lit.int .i64 x.a).wf = true ∧ (Lit.int .i64 x.b).wf = true ∧ (Lit.int .i64 x.c).wf = true) :
    Calls Tryd.prog 23 #[.int .i64 n, .slice a l.length c, .int .i64 s] w (RetUps w n l s (farErr n l s)) := by
  go_enter Tryd.func23, Tryd.ntmps23
  go_wp2_with (fail)
  refine (far_any n l a c s _ hL hl hw).mono ?_
  intro e1 w1 R1
  cases hE : farErr n l s with
  | some k =>
    rw [hE] at R1
    obtain ⟨rfl, hF1⟩ := R1
    have HE := Lib.hid hE
    clear hE
    go_wp2
    go_ret2
    exact RetUps.err HE.out rfl hF1
  | none =>
    rw [hE] at R1
    obtain ⟨far, hIF, a1, c1, ob1, rfl, hO1, hF1, hN1⟩ := R1
    go_wp2_with (fail)
    refine (costs_any n l a c _ (hL.fr hF1 (fun _ _ _ h => h)) hl hw).mono ?_
    intro e2 w2 R2
    have hgr : graphErr n l = none ∧ 0 ≤ s ∧ s < n := by
      unfold farErr at hE
      split at hE
      · cases hE
      · rename_i hg
        split at hE
        · cases hE
        · exact ⟨hg, by omega, by omega⟩
    rcases costsE_cases n l with ⟨k, h1, h2⟩ | ⟨N, rfl, hN1', hN8, h1, h2, hT⟩
    · rw [hgr.1] at h1; cases h1
    rw [h2] at R2
    obtain ⟨am, cm, obm, G, C, rfl, hM, hF2⟩ := R2
    obtain ⟨S, rfl⟩ : ∃ S : Nat, s = S := ⟨s.toNat, by omega⟩
    have hS : S < N := by omega
    simp only [Int.toNat_natCast] at hIF hO1
    have hln := hT.sq.len
    have HE := Lib.hid hE
    have hO2 := hO1.fr hF2 (fun _ _ h => h)
    have hF02 := hF1.trans hF2
    rw [hln]
    have HT := Lib.hid hT
    have HIF := Lib.hid hIF
    have hfl := hIF.len
    have HFL := Lib.hid hfl
    obtain ⟨g, rfl, rfl, hg, hc, -⟩ := hO2.pos (by omega)
    have hgn : w.heap.size ≤ g := hN1 g rfl
    clear hE hgr h1 h2 hT hIF hO1 hF1 hF2 hN1 hL hln hfl
    have HC := Lib.hid hc
    clear hc
    go_wp2
    go_loopw [35, 12] (fun s35 s12 wr => ∃ (i : Nat) (at' : Option Addr) (ct : Nat) (obt : Option Nat) (A : Nat → Option Addr) (D : Nat → Nat) (K : Nat → Option Nat), s35 = .int .i64 i ∧ i ≤ N ∧ s12 = .slice at' i ct ∧ NMat wr.heap w2.heap.size 30 3 at' ct obt (ran i fun j => upRow (costF N l) far S j N) A D K ∧ Fr (fun _ => False) w2 wr) (fun s _ _ => N - (intOf s).toNat)
    case atStart => exact ⟨0, none, 0, none, fun _ => none, fun _ => 0, fun _ => none, rfl, by omega, rfl, NMat.nil _ _ _ _ _ _ _, Fr.refl _ _⟩
    case round =>
      obtain ⟨i, at', ct, obt, A, D, K, rfl, hi, rfl, hNM, hF⟩ := hrel
      by_cases hiN : i < N
      · obtain ⟨fi, hfi⟩ : ∃ fi, fi = nth far i := ⟨_, rfl⟩
        have ci := ((hF.cell (p := ⟨g, i, none⟩) hg (fun h => h)).trans (HC.out i (by omega))).trans (ivals_get .i64 far i (by rw [HFL.out]; exact hiN))
        rw [← hfi] at ci
        have HFI := Lib.hid hfi
        have bi := HIF.out.bd i hiN
        rw [← hfi] at bi
        clear hfi
        obtain ⟨wo, rfl⟩ : ∃ wo : World, wo = wr := ⟨_, rfl⟩
        go_wp2
        go_loopw [42, 15] (fun s42 s15 wr => ∃ (k : Nat) (ar : Option Addr) (cr : Nat) (obr : Option Nat) (m : Nat), s42 = .int .i64 k ∧ k ≤ N ∧ s15 = .slice ar m cr ∧ m ≤ k ∧ Own wr.heap 3 1 ar m cr (ivals .i64 (upRow (costF N l) far S i k)) obr ∧ Fr (fun _ => False) wo wr ∧ (∀ g, obr = some g → wo.heap.size ≤ g)) (fun s _ _ => N - (intOf s).toNat)
        case atStart => exact ⟨0, none, 0, none, 0, rfl, by omega, rfl, by omega, Own.nil _ _ _, Fr.refl _ _, fun g h => nomatch h⟩
        case round =>
          obtain ⟨k, ar, cr, obr, m, rfl, hk, rfl, hmk, hO, hF3, hN3⟩ := hrel
          have hF2r := hF.trans hF3
          by_cases hkN : k < N
          · have hskip : ∀ (h : ¬ upB (costF N l) far S i k = true), Own wr.heap 3 1 ar m cr (ivals .i64 (upRow (costF N l) far S i (k + 1))) obr := fun h => by rw [upRow_no h]; exact hO
            have HSK := Lib.hid hskip
            clear hskip
            have hMr := hM.fr hF2r (fun _ _ _ h => h)
            obtain ⟨bm, om, rfl, m1, m2, -⟩ := OMat.cells hMr HT.out.sq.len HT.out.sq.rows k i hkN hiN
            have ck := ((hF2r.cell (p := ⟨g, k, none⟩) hg (fun h => h)).trans (HC.out k (by omega))).trans (ivals_get .i64 far k (by rw [HFL.out]; exact hkN))
            obtain ⟨fk, hfk⟩ : ∃ fk, fk = nth far k := ⟨_, rfl⟩
            obtain ⟨dk, hdk⟩ : ∃ dk, dk = nth (nth (costsM N l) k) i := ⟨_, rfl⟩
            rw [← hfk] at ck
            rw [← hdk] at m2
            have bk := HIF.out.bd k hkN
            rw [← hfk] at bk
            have bd := HT.out.bd k i hkN hiN
            rw [show at2 (costsM N l) k i = dk from hdk.symm] at bd
            have hupd : upB (costF N l) far S i k = decide (i ≠ S ∧ k ≠ i ∧ fi < 16 ∧ fk + dk = fi) := by
              unfold upB
              rw [show costF N l k i = dk from hdk.symm, ← hfk, ← HFI.out]
            have HUP := Lib.hid hupd
            clear hfk hdk hupd hMr
            have neS : ∀ {p q : Nat}, p ≠ q → ((p : Int) != (q : Int)) = true ∧ (p != q) = true := fun h => ⟨by simp; omega, by simpa using h⟩
            by_cases q1 : i = S
            · have HN := Lib.hid (show ¬ upB (costF N l) far S i k = true by rw [HUP.out]; simp [q1])
              subst q1
              have qb : ((i : Int) != (i : Int)) = false := by simp
              go_wp2
              (refine wp_region_mix (fun _ => True) 26 (by kernel_rfl) (by kernel_rfl) (trivial) ?_; simp only [List.take_succ_cons, List.take_zero, List.drop_succ_cons, List.drop_zero])
              (refine wpMix_earlyN 26 (by kernel_rfl) (by kernel_rfl) ?_; simp only [List.take_succ_cons, List.take_zero, List.drop_succ_cons, List.drop_zero]; (repeat (go_big_quiet_step (fail))); refine wpQuiet_nil ?_)
              refine wpMix_nil ?_
              go_wp2
              go_roundw
              case rel => exact ⟨k + 1, ar, cr, obr, m, by go_num, by omega, rfl, by omega, HSK.out HN.out, hF3.drew, hN3⟩
              case measure => simp [intOf]; omega
            · obtain ⟨b1, b1'⟩ := neS q1
              by_cases q2 : k = i
              · have HN := Lib.hid (show ¬ upB (costF N l) far S i k = true by rw [HUP.out]; simp [q2])
                subst q2
                have qb : ((k : Int) != (k : Int)) = false := by simp
                go_wp2
                (refine wp_region_mix (fun _ => True) 26 (by kernel_rfl) (by kernel_rfl) (trivial) ?_; simp only [List.take_succ_cons, List.take_zero, List.drop_succ_cons, List.drop_zero])
                (refine wpMix_earlyN 26 (by kernel_rfl) (by kernel_rfl) ?_; simp only [List.take_succ_cons, List.take_zero, List.drop_succ_cons, List.drop_zero]; (repeat (go_big_quiet_step (fail))); refine wpQuiet_nil ?_)
                refine wpMix_nil ?_
                go_wp2
                go_roundw
                case rel => exact ⟨k + 1, ar, cr, obr, m, by go_num, by omega, rfl, by omega, HSK.out HN.out, hF3.drew, hN3⟩
                case measure => simp [intOf]; omega
              · obtain ⟨b2, b2'⟩ := neS q2
                by_cases q3 : fi < 16
                · have b3 : decide (fi < 16) = true := by simpa using q3
                  by_cases q4 : fk + dk = fi
                  · have HY := Lib.hid (show upB (costF N l) far S i k = true by rw [HUP.out]; simp [q1, q2, q3, q4])
                    have b4 : (fk + dk == fi) = true := by simpa using q4
                    have s4 : 0 ≤ fk + dk := by omega
                    have HQ := Lib.hid q4
                    clear neS q1 q2 q4
                    go_wp2
                    (refine wp_region_mix (fun _ => True) 26 (by kernel_rfl) (by kernel_rfl) (trivial) ?_; simp only [List.take_succ_cons, List.take_zero, List.drop_succ_cons, List.drop_zero])
                    (refine wpMix_earlyN 26 (by kernel_rfl) (by kernel_rfl) ?_; simp only [List.take_succ_cons, List.take_zero, List.drop_succ_cons, List.drop_zero]; (repeat (go_big_quiet_step (fail))); refine wpQuiet_nil ?_)
                    refine wpMix_nil ?_
                    have hrd := (Own.made wr 3 1 1 [.int .i64 (k : Int)] rfl (by decide)).rd
                    go_wp2_with (at_builtin; refine wpList_app rfl _ _ 30 rfl Tryd.underlying30 infoInt rfl (by decide) rfl rfl ((hO.alloc _)) hrd (ivals_one .i64 [(k : Int)]) (by omega) (by omega) ?_)
                    intro a' c' w6 ob' z1 z2 z3
                    have e : ivals .i64 (upRow (costF N l) far S i k) ++ [.int .i64 (k : Int)] = ivals .i64 (upRow (costF N l) far S i (k + 1)) := by rw [upRow_yes HY.out]; simp [ivals]
                    rw [e] at z1
                    have hF6 := Fr.app (hF3.alloc _).drew z2 hN3
                    have hN6 := app_new hN3 z3 (by have := hF3.size; simp; omega)
                    clear z2 z3 e hrd hO
                    go_wp2
                    go_roundw
                    case rel => exact ⟨k + 1, a', c', ob', m + 1, by go_num, by omega, rfl, by omega, z1, hF6, hN6⟩
                    case measure => simp [intOf]; omega
                  · have HN := Lib.hid (show ¬ upB (costF N l) far S i k = true by rw [HUP.out]; simp [q4])
                    have b4 : (fk + dk == fi) = false := by simpa using q4
                    have s4 : 0 ≤ fk + dk := by omega
                    clear neS q1 q2 q4
                    go_wp2
                    (refine wp_region_mix (fun _ => True) 26 (by kernel_rfl) (by kernel_rfl) (trivial) ?_; simp only [List.take_succ_cons, List.take_zero, List.drop_succ_cons, List.drop_zero])
                    (refine wpMix_earlyN 26 (by kernel_rfl) (by kernel_rfl) ?_; simp only [List.take_succ_cons, List.take_zero, List.drop_succ_cons, List.drop_zero]; (repeat (go_big_quiet_step (fail))); refine wpQuiet_nil ?_)
                    refine wpMix_nil ?_
                    go_wp2
                    go_roundw
                    case rel => exact ⟨k + 1, ar, cr, obr, m, by go_num, by omega, rfl, by omega, HSK.out HN.out, hF3.drew, hN3⟩
                    case measure => simp [intOf]; omega
                · have HN := Lib.hid (show ¬ upB (costF N l) far S i k = true by rw [HUP.out]; simp [q3])
                  have b3 : decide (fi < 16) = false := by simpa using q3
                  clear neS q1 q2
                  go_wp2
                  (refine wp_region_mix (fun _ => True) 26 (by kernel_rfl) (by kernel_rfl) (trivial) ?_; simp only [List.take_succ_cons, List.take_zero, List.drop_succ_cons, List.drop_zero])
                  (refine wpMix_earlyN 26 (by kernel_rfl) (by kernel_rfl) ?_; simp only [List.take_succ_cons, List.take_zero, List.drop_succ_cons, List.drop_zero]; (repeat (go_big_quiet_step (fail))); refine wpQuiet_nil ?_)
                  refine wpMix_nil ?_
                  go_wp2
                  go_roundw
                  case rel => exact ⟨k + 1, ar, cr, obr, m, by go_num, by omega, rfl, by omega, HSK.out HN.out, hF3.drew, hN3⟩
                  case measure => simp [intOf]; omega
          · obtain rfl : k = N := by omega
            have hml : (upRow (costF k l) far S i k).length = m := by have := hO.len; simpa using this
            have hO' : Own wr.heap 3 1 ar (upRow (costF k l) far S i k).length cr (ivals .i64 (upRow (costF k l) far S i k)) obr := by rw [hml]; exact hO
            have HML := Lib.hid hml
            have hlt1 := fun j g' hj h => (hNM.rws.row j hj).lt g' h
            have hlt2 := hNM.top.lt
            have hNr := hNM.fr0 hF3 (fun _ _ _ h => h)
            have hNa := hNr.alloc (.cells #[.slice ar m cr] 30)
            have hrd := (Own.made wr 30 1 1 [.slice ar m cr] rfl (by decide)).rd
            have hsz1 := hF.size
            have hsz2 := hF3.size
            have hlen : (ran i fun j => upRow (costF k l) far S j k).length = i := ran_len _ _
            have htop := hNa.top
            rw [hlen] at htop
            have HLEN := Lib.hid hlen
            clear hO hNM hml hlen
            go_wp2_with (at_builtin; refine wpList_app rfl _ _ 23 rfl Tryd.underlying23 infoInts rfl (by decide) rfl rfl htop hrd (by simp [Value.oneCell']) (by omega) (by omega) ?_)
            intro a' c' w6 ob' z1 z2 z3
            have hOa := hO'.alloc (.cells #[.slice ar m cr] 30)
            have hpush := hNa.push (w' := w6) (a' := a') (c' := c') (ob' := ob') hOa (fun g' h => by have := hN3 g' h; omega) (fun j g' hj h1 h2 => by have := hlt1 j g' hj h1; have := hN3 g' h2; omega) (fun g' h1 h2 => by have := hlt2 g' h1; have := hN3 g' h2; omega) (by simp; omega) rfl (by rw [HLEN.out, HML.out]; exact z1) z2 (by simpa using z3)
            have e : (ran i fun j => upRow (costF k l) far S j k) ++ [upRow (costF k l) far S i k] = ran (i + 1) fun j => upRow (costF k l) far S j k := by simp [ran, List.range_succ]
            rw [e] at hpush
            have hF6 : Fr (fun _ => False) w2 w6 := Fr.app ((hF.trans hF3).alloc _) z2 (fun g' h => (hNa.obn g' h).1)
            have HP := Lib.hid hpush
            clear hpush e z1 z2 z3 hNa hNr htop hrd hOa hO' hlt1 hlt2
            go_wp2
            go_roundw
            case rel => exact ⟨i + 1, a', c', ob', _, _, _, by go_num, by omega, rfl, HP.out, hF6⟩
            case measure => simp [intOf]; omega
      · obtain rfl : i = N := by omega
        have hlen : (ran i fun j => upRow (costF i l) far S j i).length = i := ran_len _ _
        have HLEN := Lib.hid hlen
        clear hlen
        go_wp2
        go_ret2
        have hR : RetUps w i l S none (.returned (.tuple #[.slice at' i ct, .nilIface])) wr := ⟨far, at', ct, obt, A, D, K, HIF.out, rfl, hNM.low (by have := hF02.size; omega), hF02.trans hF⟩
        rw [HE.out]
        exact hR
end Go.Proofs.YtakkljdeencfbaaDoor
