import Derived.Test.YtakkljdeencfbaaDoorHeap2
import Derived.Test.YtakkljdeencfbaaDoorCTab
import Derived.Deep.LoopGhost
namespace Go.Proofs.YtakkljdeencfbaaDoor
open Go.RowKit

def farErr (n : Int) (l : List Lk) (s : Int) : Option Int := match graphErr n l with
  | some k => some k
  | none => if s < 0 ∨ n ≤ s then some 1 else none
abbrev costF (n : Nat) (l : List Lk) (i k : Nat) : Int := at2 (costsM n l) i k
/-- How far all are; or what is wrong. -/
def RetFar (w : World) (n : Int) (l : List Lk) (s : Int) (r : Option Int) (e : Ending) (w' : World) : Prop :=
  match r with
  | some k => RetV w (.tuple #[.slice none 0 0, errv k]) e w'
  | none => ∃ far, IsFar n.toNat (costF n.toNat l) s.toNat far ∧ RetNew w 3 1 n.toNat (ivals .i64 far) (fun v => .tuple #[v, .nilIface]) e w'
theorem RetFar.err {w w' : World} {n : Int} {l : List Lk} {s : Int} {r : Option Int} {k : Int} {e : Ending} (h : r = some k) (he : e = .returned (.tuple #[.slice none 0 0, errv k])) (hF : Fr (fun _ => False) w w') : RetFar w n l s r e w' := by subst h; exact ⟨he, hF⟩
theorem RetFar.ok {w w' : World} {n : Int} {l : List Lk} {s : Int} {r : Option Int} {far : List Int} {e : Ending} (h : r = none) (hf : IsFar n.toNat (costF n.toNat l) s.toNat far) (hR : RetNew w 3 1 n.toNat (ivals .i64 far) (fun v => .tuple #[v, .nilIface]) e w') : RetFar w n l s r e w' := by subst h; exact ⟨far, hf, hR⟩

set_option maxRecDepth 100000 in
set_option maxHeartbeats 4000000 in
theorem far_any (n : Int) (l : List Lk) (a : Option Addr) (c : Nat) (s : Int) (w : World) (hL : Links w.heap a l) (hl : l.length ≤ 9223372036854775807) (hw : ∀ x ∈ l, (Lit.int .i64 x.a).wf = true ∧ (Lit.int .i64 x.b).wf = true ∧ (Lit.int .i64 x.c).wf = true) :
    Calls Tryd.prog 22 #[.int .i64 n, .slice a l.length c, .int .i64 s] w (RetFar w n l s (farErr n l s)) := by
  go_enter Tryd.func22, Tryd.ntmps22
  go_wp2_with (go_at_call 8; refine (costs_any n l a c _ hL hl hw).mono ?_)
  intro e1 w1 R1
  rcases costsE_cases n l with ⟨k, h1, h2⟩ | ⟨N, rfl, hN1, hN8, h1, h2, hT⟩
  · rw [h2] at R1
    obtain ⟨rfl, hF1⟩ := R1
    have hX := Lib.hid (show farErr n l s = some k by unfold farErr; rw [h1])
    clear h1 h2
    go_wp2
    go_ret2
    exact RetFar.err hX.out rfl hF1
  · rw [h2] at R1
    obtain ⟨am, cm, obm, G, C, rfl, hM, hF1⟩ := R1
    have hE : farErr N l s = if s < 0 ∨ (N : Int) ≤ s then some 1 else none := by unfold farErr; rw [h1]
    have HE := Lib.hid hE
    clear h1 h2 hE
    have HT := Lib.hid hT
    have hln := hT.sq.len
    clear hT
    generalize hCM : costsM N l = CM at *
    have HCM := Lib.hid hCM
    clear hCM
    rw [hln] at *
    by_cases hs : s < 0 ∨ (N : Int) ≤ s
    · have hX := Lib.hid (HE.out.trans (if_pos hs))
      go_wp2
      all_goals go_ret2
      all_goals exact RetFar.err hX.out rfl hF1
    · have hX := Lib.hid (HE.out.trans (if_neg hs))
      obtain ⟨S, rfl⟩ : ∃ S : Nat, s = S := ⟨s.toNat, by omega⟩
      have hS : S < N := by omega
      have hd0 : decide ((S : Int) < 0) = false := by simp
      have hC0 := fun (i k : Nat) (hi : i < N) (hk : k < N) => (HT.out.bd i k hi hk).1
      have HC0 := Lib.hid hC0
      clear hs HE hC0 hln
      have hlit := (Own.made w1 3 1 1 [.int .i64 16] rfl (by decide)).rd
      go_wp2_with (go_at_call 27; refine (repeat_int 16 _ 1 N _ hlit (by omega) (by omega)).mono ?_)
      intro e2 w2 R2
      obtain ⟨a1, c1, ob1, rfl, hO1, hF2, hN1'⟩ := R2
      have hF12 : Fr (fun _ => False) w1 w2 := ((Fr.refl _ _).alloc _).trans hF2
      obtain ⟨g, rfl, rfl, hg, hc, hfz⟩ := hO1.pos (by omega)
      have hgn : w1.heap.size ≤ g := by have := hN1' g rfl; simp at this; omega
      have hM2 := hM.fr hF12 (fun _ _ _ h => h)
      have hci := (hc S (by omega)).trans (ivals_get .i64 (List.replicate N (16 : Int)) S (by simpa using hS))
      have hfi := hfz S
      have e : (ivals .i64 (List.replicate N (16 : Int))).set S (.int .i64 0) = ivals .i64 ((List.replicate N (16 : Int)).set S 0) := by simp [ivals, List.map_set]
      have hO2 := hO1.set rfl S (.int .i64 0)
      rw [e] at hO2
      have hO4 := (hO2.alloc (.cells #[.int .i64 0, .int .i64 S] 74)).alloc (.cells #[.slice (some ⟨w2.heap.size, 0, none⟩) 1 1] 76)
      have HO4 := Lib.hid hO4
      have HFW : Hid (Fr (fun _ => False) w w2) := hF1.trans hF12
      have hne : ∀ k, k = g → (∀ i, i < CM.length → G i ≠ k) ∧ obm ≠ some k := fun k hk => by
        subst hk
        exact ⟨fun i hi => by have := (hM.row i hi).lt _ rfl; omega, fun h => by have := hM.top.lt _ h; omega⟩
      have HNE := Lib.hid hne
      clear hc hfz hO1 e hlit hO2 hO4 hM hne
      go_wp2
      have atS : HeapAt (((w2.setCell ⟨g, S, none⟩ (.int .i64 0)).alloc (.cells #[.int .i64 0, .int .i64 S] 74)).alloc (.cells #[.slice (some ⟨w2.heap.size, 0, none⟩) 1 1] 76)).heap (fun k => w2.heap.size ≤ k) (w2.heap.size + 1) 1 [⟨0, S⟩] := by
        refine ⟨some ⟨w2.heap.size, 0, none⟩, 1, some w2.heap.size, rfl, ?_, ?_, by omega, fun g' h => by cases h; omega⟩
        · have := Blk.made ((w2.setCell ⟨g, S, none⟩ (.int .i64 0)).alloc (.cells #[.int .i64 0, .int .i64 S] 74)) 76 [.slice (some ⟨w2.heap.size, 0, none⟩) 1 1]
          simpa using this
        · have := (Own.made (w2.setCell ⟨g, S, none⟩ (.int .i64 0)) 74 2 1 [.int .i64 0, .int .i64 S] rfl (by decide)).alloc (.cells #[.slice (some ⟨w2.heap.size, 0, none⟩) 1 1] 76)
          simpa using this
      go_loopg [] 300 (fun f wr => ∃ (far : List Int) (hp : List Pl) (m : Nat), HeapAt wr.heap (fun k => w2.heap.size ≤ k) (w2.heap.size + 1) m hp ∧ Own wr.heap 3 1 (some ⟨g, 0, none⟩) N c1 (ivals .i64 far) (some g) ∧ Hid (Going N (at2 CM) S far hp (fun _ _ => False)) ∧ Fr (fun k => k = g) w2 wr ∧ Hid (2 * farW far + m ≤ f ∧ f ≤ 300))
      case atStart =>
        refine ⟨_, _, 1, atS, HO4.out, Going.start (at2 CM) hS, (((Fr.refl (fun k => k = g) w2).setCell (fun _ => rfl) _).alloc _).alloc _, ?_, by omega⟩
        have h := Going.start (at2 CM) hS
        have := farW_le h.len (fun v hv => (h.bd v hv).2)
        omega
      case round =>
        clear atS hci hfi HO4
        obtain ⟨far, hp, m, ⟨ah, ch, obh, hH⟩, hO, hG, hF, hW⟩ := hrel
        have hbox := hH.cell
        have hsz := hF.size
        by_cases hm : m = 0
        · subst hm
          have hp0 : hp = [] := List.eq_nil_of_length_eq_zero hH.len
          have hX2 := Lib.hid hX.out
          go_wp2_with (fail)
          refine (hlen_any ah 0 ch wr).mono ?_
          rintro e3 w3 ⟨rfl, rfl⟩
          go_wp2
          go_ret2
          have hG0 := hG.out
          rw [hp0] at hG0
          refine RetFar.ok hX2.out (far := far) ?_ ⟨some ⟨g, 0, none⟩, c1, some g, rfl, hO, ?_, fun g' h => by cases h; have := hF1.size; omega⟩
          · show IsFar N (at2 (costsM N l)) S far
            rw [HCM.out]
            exact hG0.isFar HC0.out
          · exact HFW.out.trans' hF (fun i hi h => by have := hF1.size; omega)
        · obtain ⟨m, rfl⟩ : ∃ m' : Nat, m = m' + 1 := ⟨m - 1, by omega⟩
          clear hm
          have hm3 : m < 100000 := by have := hW.out; omega
          go_wp2_with (fail)
          refine (hlen_any ah (m + 1) ch wr).mono ?_
          rintro e3 w3 ⟨rfl, rfl⟩
          go_wp2_with (fail)
          refine (got_any wr ⟨ah, ch, obh, hH⟩ hm3).mono ?_
          rintro e4 w4 ⟨⟨xf, xv⟩, hp', rfl, hPerm, ⟨ah4, ch4, obh4, hH4⟩, hF4⟩
          have tA : ∀ w : World, (Instr.typeAssert (.iface 74 (.agg #[.int .i64 xf, .int .i64 xv])) 20 74 false).run Tryd.prog w = .ok (.agg #[.int .i64 xf, .int .i64 xv]) w := fun _ => by kernel_rfl
          have hG4 := hG.out.perm hPerm
          obtain ⟨v0, v1, f0, f1, fle⟩ := hG4.pl ⟨xf, xv⟩ (by simp)
          simp only at v0 v1 f0 f1 fle
          obtain ⟨V, rfl⟩ := Int.eq_ofNat_of_zero_le v0
          have hV : V < N := by omega
          simp only [Int.toNat_natCast] at fle
          have hHG := Lib.hid hG4
          have hfl := hG4.len
          have hW4 : Hid (2 * farW far + m + 1 ≤ gk ∧ gk ≤ 300) := by have := hW.out; exact ⟨by omega, by omega⟩
          have hF04 : Fr (fun k => k = g) w2 w4 := hF.trans' hF4 (fun i hi h => by omega)
          have hO4 := hO.fr hF4 (fun g' h h2 => by cases h; omega)
          have hO5 := hO4.alloc (.cells #[.int .i64 xf, .int .i64 V] 74)
          have hF05 := hF04.alloc (.cells #[.int .i64 xf, .int .i64 V] 74)
          have hsz4 := hF04.size
          obtain ⟨_, hh, hh2, hg4, hcv, -⟩ := hO4.pos (by omega)
          cases hh
          have cv := (hcv V (by omega)).trans (ivals_get .i64 far V (by omega))
          clear hcv hh2 hPerm hG hW hO hO4 hF hbox hH hG4 hsz v0 v1
          have HFL := Lib.hid hfl
          clear hfl
          generalize hfv : nth far V = fv at *
          have HFV := Lib.hid hfv
          clear hfv
          by_cases hst : fv < xf
          · go_wp2
            (refine wp_region_mix (fun _ => True) 7 (by kernel_rfl) (by kernel_rfl) (trivial) ?_; simp only [List.take_succ_cons, List.take_zero, List.drop_succ_cons, List.drop_zero])
            (refine wpMix_earlyN 7 (by kernel_rfl) (by kernel_rfl) ?_; simp only [List.take_succ_cons, List.take_zero, List.drop_succ_cons, List.drop_zero]; (repeat (go_big_quiet_step (fail))); refine wpQuiet_nil ?_)
            go_wp2
            refine wpMix_nil ?_
            go_wp2
            go_roundg (gk - 1)
            case measure => have := hW4.out; omega
            case rel => exact ⟨far, hp', m, ⟨ah4, ch4, obh4, hH4.fr ((Fr.refl (fun _ => False) _).alloc _).drew (fun _ _ h => h)⟩, hO5, hHG.out.stale (by simp only [Int.toNat_natCast]; rw [HFV.out]; exact hst), hF05.drew, by have := hW4.out; exact ⟨by omega, by omega⟩⟩
          · obtain rfl : fv = xf := by omega
            clear hst fle
            go_wp2
            (refine wp_region_mix (fun _ => True) 7 (by kernel_rfl) (by kernel_rfl) (trivial) ?_; simp only [List.take_succ_cons, List.take_zero, List.drop_succ_cons, List.drop_zero])
            (refine wpMix_earlyN 7 (by kernel_rfl) (by kernel_rfl) ?_; simp only [List.take_succ_cons, List.take_zero, List.drop_succ_cons, List.drop_zero]; (repeat (go_big_quiet_step (fail))); refine wpQuiet_nil ?_)
            go_wp2
            refine wpMix_nil ?_
            have hM5 := hM2.fr' hF05 HNE.out
            obtain ⟨bm, om, rfl, m1, -, -⟩ := OMat.cells hM5 HT.out.sq.len HT.out.sq.rows V 0 hV (by omega)
            have hH5 := hH4.fr ((Fr.refl (fun _ => False) w4).alloc (.cells #[.int .i64 fv, .int .i64 V] 74)) (fun _ _ h => h)
            have hX4 := Blk.made w4 74 [.int .i64 fv, .int .i64 V]
            have hHS : HeapAt (w4.alloc (.cells #[.int .i64 fv, .int .i64 V] 74)).drew.heap (fun k => w2.heap.size ≤ k ∧ k ≠ w4.heap.size) (w2.heap.size + 1) m hp' :=
              ⟨ah4, ch4, obh4, hH5.len, hH5.box, hH5.own, ⟨hH5.bp, by have := hH4.box.lt; omega⟩, fun q hq => ⟨⟨(hH5.bo q hq).1, by have := hH4.own.lt q hq; omega⟩, (hH5.bo q hq).2⟩⟩
            have HG5 : Hid (Going N (at2 CM) S far hp' (fun u j => u = V ∧ 0 ≤ j) ∧ nth far V = fv) := ⟨by simpa using hHG.out.take, HFV.out⟩
            obtain ⟨go, rfl⟩ : ∃ go : Nat, go = gk := ⟨_, rfl⟩
            obtain ⟨wo, rfl⟩ : ∃ wo : World, wo = wr := ⟨_, rfl⟩
            clear hHG HFV hH5 hM5
            go_wp2
            go_loopw [65] (fun s65 wr => ∃ (k : Nat) (far' : List Int) (hp : List Pl) (m' : Nat), s65 = .int .i64 k ∧ k ≤ N ∧ HeapAt wr.heap (fun k => w2.heap.size ≤ k ∧ k ≠ w4.heap.size) (w2.heap.size + 1) m' hp ∧ Own wr.heap 3 1 (some ⟨g, 0, none⟩) N c1 (ivals .i64 far') (some g) ∧ Hid (Going N (at2 CM) S far' hp (fun u j => u = V ∧ k ≤ j) ∧ nth far' V = fv) ∧ Fr (fun k => k = g) w2 wr ∧ Blk wr.heap w4.heap.size 74 [.int .i64 fv, .int .i64 V] ∧ Hid (2 * farW far' + m' + 1 ≤ go ∧ go ≤ 300)) (fun s _ => N - (intOf s).toNat)
            case atStart => exact ⟨0, far, hp', m, rfl, by omega, hHS, hO5, HG5, hF05.drew, hX4, hW4⟩
            case round =>
              clear hHS hO5 HG5 hX4 hW4 m1 HFL cv
              obtain ⟨k, far', hp, m', rfl, hk, hH, hO, hG, hF, hX4, hW⟩ := hrel
              by_cases hkN : k < N
              · have hMk := hM2.fr' hF HNE.out
                obtain ⟨_, _, hh, -, m2, -⟩ := OMat.cells hMk HT.out.sq.len HT.out.sq.rows V k hV hkN
                cases hh
                have x0 := hX4.cell 0
                simp only [List.getElem?_cons_zero] at x0
                have hbd := HT.out.bd V k hV hkN
                simp only [at2] at hbd
                obtain ⟨g0, hGV⟩ := hG.out
                have hfl := g0.len
                obtain ⟨_, hh, hh2, hg6, hcv, hfr6⟩ := hO.pos (by omega)
                cases hh
                have cv := (hcv k (by omega)).trans (ivals_get .i64 far' k (by omega))
                have f6 := hfr6 k
                have hb6 := g0.bd k hkN
                generalize hdk : nth (nth CM V) k = dk at *
                generalize hfk : nth far' k = fk at *
                have HDK := Lib.hid hdk
                have HFK := Lib.hid hfk
                have HFL := Lib.hid hfl
                have HGV := Lib.hid hGV
                have HG0 := Lib.hid g0
                clear hcv hfr6 hh2 hG hMk hdk hfk hfl hGV g0
                have d0 : 0 ≤ dk + fv := by omega
                by_cases hlt : dk + fv < fk
                · have hset := hO.set rfl k (.int .i64 (dk + fv))
                  have e : (ivals .i64 far').set k (.int .i64 (dk + fv)) = ivals .i64 (far'.set k (dk + fv)) := by simp [ivals, List.map_set]
                  rw [e] at hset
                  have hsw := hX4.lt
                  have hHS : HeapAt (wr.setCell ⟨g, k, none⟩ (.int .i64 (dk + fv))).heap (fun k => w2.heap.size ≤ k ∧ k ≠ w4.heap.size) (w2.heap.size + 1) m' hp := by
                    obtain ⟨q1, q2, q3, q4⟩ := hH
                    exact ⟨q1, q2, q3, q4.fr ((Fr.refl (fun k => k = g) wr).setCell (fun _ => rfl) _) (fun k hk h => by subst h; omega)⟩
                  have hXs := hX4.fr ((Fr.refl (fun k => k = g) wr).setCell (p := ⟨g, k, none⟩) (fun _ => rfl) (.int .i64 (dk + fv))) (by omega)
                  have hFs := hF.setCell (p := ⟨g, k, none⟩) (fun _ => rfl) (.int .i64 (dk + fv))
                  have hm' : m' < 100000 := by have := hW.out; omega
                  have HO2 := Lib.hid hset
                  clear e hH hO hset hX4 hF
                  go_wp2_with (fail)
                  refine (put_any _ hHS (fun q hq => by simp at hq; omega) hm' (dk + fv) k).mono ?_
                  rintro e8 w8 ⟨rfl, ⟨hp8, hPerm8, hH8⟩, hF8⟩
                  have hO8 := HO2.out.fr hF8 (fun q hq h => by cases hq; omega)
                  have hX8 := hXs.fr hF8 (fun h => h.2 rfl)
                  have hFw := hFs.trans' hF8 (fun i hi h => by omega)
                  have ht := HG0.out.tell (d := dk + fv) hV hkN hS (HC0.out V k hV hkN) (HT.out.dia V hV) (by rw [HGV.out]; show dk + fv = fv + nth (nth CM V) k; rw [HDK.out]; omega) (by rw [HFK.out]; exact hlt) hPerm8
                  have hwl := farW_set (far := far') (k := k) (d := dk + fv) (by rw [HFL.out]; exact hkN) d0 (by rw [HFK.out]; exact hlt)
                  have HT8 := Lib.hid ht
                  have hW8 : Hid (2 * farW (far'.set k (dk + fv)) + (m' + 1) + 1 ≤ go ∧ go ≤ 300) := by have := hW.out; exact ⟨by omega, by omega⟩
                  clear ht hwl hPerm8 hF8 hFs hXs hHS hW
                  go_wp2
                  go_roundw
                  case rel => exact ⟨k + 1, far'.set k (dk + fv), hp8, m' + 1, by go_num, by omega, hH8, hO8, ⟨HT8.out.1, HT8.out.2.trans HGV.out⟩, hFw, hX8, hW8⟩
                  case measure => simp [intOf]; omega
                · go_wp2
                  go_roundw
                  case rel => exact ⟨k + 1, far', hp, m', by go_num, by omega, hH, hO, ⟨HG0.out.skip (by rw [HFK.out, HGV.out]; show fk ≤ fv + nth (nth CM V) k; rw [HDK.out]; omega), HGV.out⟩, hF, hX4, hW⟩
                  case measure => simp [intOf]; omega
              · obtain rfl : k = N := by omega
                obtain ⟨ah6, ch6, obh6, hH6⟩ := hH
                go_wp2
                go_roundg (go - 1)
                case measure => have := hW.out; omega
                case rel => exact ⟨far', hp, m', ⟨ah6, ch6, obh6, hH6.len, hH6.box, hH6.own, hH6.bp.1, fun q hq => ⟨(hH6.bo q hq).1.1, (hH6.bo q hq).2⟩⟩, hO, hG.out.1.told, hF, by have := hW.out; exact ⟨by omega, by omega⟩⟩
end Go.Proofs.YtakkljdeencfbaaDoor
