import Derived.Test.YtfjempfffdeklaaDoorSppB
import Derived.Test.YtfjempfffdeklaaDoorSppN
namespace Go.Proofs.YtfjempfffdeklaaDoor
open Go.RowKit

/-- Rows of the call's own, or an error. -/
def RetN (w : World) (r : Except Int (List (List Int))) (e : Ending) (w' : World) : Prop :=
  match r with
  | .error k => RetV w (.tuple #[.slice none 0 0, errv k]) e w'
  | .ok rs => ∃ a c ob A C G, e = .returned (.tuple #[.slice a rs.length c, .nilIface]) ∧ NMat w'.heap w.heap.size 38 3 a c ob rs A C G ∧ Fr (fun _ => False) w w'
theorem RetN.err {w w' : World} {r : Except Int (List (List Int))} {k : Int} {e : Ending} (h : r = .error k) (h1 : e = .returned (.tuple #[.slice none 0 0, errv k])) (h2 : Fr (fun _ => False) w w') : RetN w r e w' := by subst h; exact ⟨h1, h2⟩
theorem RetN.ok {w w' : World} {r : Except Int (List (List Int))} {rs : List (List Int)} {n : Nat} {e : Ending} {a : Option Addr} {c : Nat} {ob : Option Nat} {A : Nat → Option Addr} {C : Nat → Nat} {G : Nat → Option Nat} (h : r = .ok rs) (hn : rs.length = n) (h1 : e = .returned (.tuple #[.slice a n c, .nilIface]))
    (h2 : NMat w'.heap w.heap.size 38 3 a c ob rs A C G) (h3 : Fr (fun _ => False) w w') : RetN w r e w' := by
  subst h; subst hn; exact ⟨a, c, ob, A, C, G, h1, h2, h3⟩
/-- What it told, in one form. -/
def sppRows (r : Except Int (List (List Int))) : List (List Int) := match r with | .ok rs => rs | .error _ => []
def sppNo (r : Except Int (List (List Int))) : Option Int := match r with | .ok _ => none | .error k => some k
theorem RetN.got {w w' : World} {r : Except Int (List (List Int))} {e : Ending} (h : RetN w r e w') : ∃ a c ob A C G, e = .returned (.tuple #[.slice a (sppRows r).length c, errO (sppNo r)]) ∧ NMat w'.heap w.heap.size 38 3 a c ob (sppRows r) A C G ∧ Fr (fun _ => False) w w' := by
  cases r with
  | error k => exact ⟨none, 0, none, fun _ => none, fun _ => 0, fun _ => none, h.1, NMat.nil _ _ _ _ _ _ _, h.2⟩
  | ok rs => exact h

set_option maxRecDepth 100000 in
set_option maxHeartbeats 2000000 in
theorem run_any (L : List Rw) (a : Option Addr) (c : Nat) (T : Nat → Prop) (od : List Int) (ao : Option Addr) (co : Nat) (w : World) (hL : Likes w.heap a L T) (hl : L.length ≤ 9223372036854775807) (ho : Ints w.heap ao od) (hol : od.length ≤ 9223372036854775807)
    (hsz : ∀ i, i < (vals L).length → ∀ j, j < (nth (vals L) i).length → (nth (nth (vals L) i) j).length * 8 ≤ 140737488351232) :
    Calls Tryd.prog 66 #[.slice a L.length c, .slice ao od.length co] w (RetN w (sppRun (vals L) od)) := by
  obtain ⟨X, hX⟩ : ∃ X, X = sppRun (vals L) od := ⟨_, rfl⟩
  rw [← hX]
  have HX := Lib.hid hX
  clear hX
  have hchk := scheck_any L a c T w hL hl
  have hvl := vals_len L
  have HVL := Lib.hid hvl
  cases hE : sppErr (vals L) with
  | some k =>
    rw [hE] at hchk
    have HE := Lib.hid (HX.out.trans (sppRun_err hE))
    clear hE hL ho hsz hvl
    go_enter Tryd.func66, Tryd.ntmps66
    go_wp2_with (fail)
    refine hchk.mono ?_
    rintro e1 w1 ⟨rfl, rfl⟩
    clear hchk
    simp only [errO]
    go_wp2
    go_ret2
    exact RetN.err HE.out rfl (Fr.refl _ _)
  | none =>
    rw [hE] at hchk
    have HE := Lib.hid hE
    have hl1 : 1 ≤ L.length := by
      rcases Nat.lt_or_ge L.length 1 with h | h
      · rw [sppErr_1 (.inl (by rw [hvl]; exact h))] at hE; cases hE
      · exact h
    have hl8 : L.length ≤ 8 := by
      rcases Nat.lt_or_ge 8 L.length with h | h
      · rw [sppErr_1 (.inr (by rw [hvl]; exact h))] at hE; cases hE
      · exact h
    clear hE hvl
    obtain ⟨V, hV⟩ : ∃ V, V = vals L := ⟨_, rfl⟩
    have HV := Lib.hid hV
    clear hV
    go_enter Tryd.func66, Tryd.ntmps66
    go_wp2_with (fail)
    refine hchk.mono ?_
    rintro e1 w1 ⟨rfl, rfl⟩
    clear hchk
    simp only [errO]
    go_wp2_with (at_make; refine wpList_mk rfl _ _ 115 rfl Tryd.underlying115 infoInts rfl L.length rfl rfl rfl rfl (by omega) (by omega) ?_)
    intro w3 hB3 hF3 hs3
    have hrow : Ownd w3.heap 38 1 (some ⟨w.heap.size, 0, none⟩) L.length L.length (List.replicate L.length (.slice none 0 0)) (some w.heap.size) := by
      have h1 := hB3.own (sz := 1) (n := L.length) (cap := L.length) (Nat.le_refl _) (Nat.le_trans hl8 (by decide)) (by simp)
      simpa using h1
    have hN3 : NMat w3.heap w.heap.size 38 3 (some ⟨w.heap.size, 0, none⟩) L.length (some w.heap.size) (List.replicate L.length []) (fun _ => none) (fun _ => 0) (fun _ => none) := NMat.made hrow (Nat.le_refl _)
    clear hB3 hrow
    have hz : Ownd (w3.alloc (.cells #[.int .i64 0] 3)).heap 3 1 (some ⟨w3.heap.size, 0, none⟩) ([0] : List Int).length 1 (ivals .i64 [0]) (some w3.heap.size) := Ownd.made w3 3 1 1 [.int .i64 0] rfl (by decide)
    have hset := (hN3.alloc (.cells #[.int .i64 0] 3)).set (i := 0) (by simp; omega) hz (fun g' h => by cases h; omega) (fun j g' _ h => nomatch h) (fun h => by have h2 := Option.some.inj h; omega)
    have hFset := (hF3.alloc (.cells #[.int .i64 0] 3)).setCell (p := ⟨w.heap.size, 0, none⟩) (fun h => absurd h (Nat.lt_irrefl _)) (.slice (some ⟨w3.heap.size, 0, none⟩) ([0] : List Int).length 1)
    rw [World.setCell_alloc_past _ _ _ _ hs3] at hset hFset
    obtain ⟨_, t1, t2, t3, t4, t5⟩ := hN3.top.pos (by simp; omega)
    cases t1
    have d4 := t4 0 (by simp; omega)
    have f4 := t5 0
    have hrep : ((List.range (List.replicate L.length ([] : List Int)).length).map fun i => Value.slice none (nth (List.replicate L.length ([] : List Int)) i).length 0)[0]? = some (.slice none 0 0) := by
      simp only [List.length_replicate]
      rw [List.getElem?_map, List.getElem?_range hl1]
      simp [nth_replicate _ _ _ hl1]
    rw [hrep] at d4
    clear t2 t3 t4 t5 hrep hN3 hz
    have HS0 := Lib.hid (show ((List.replicate L.length ([] : List Int)).set 0 [0]).length = L.length by simp)
    obtain ⟨ws0, hws⟩ : ∃ ws0, ws0 = (List.replicate L.length ([] : List Int)).set 0 [0] := ⟨_, rfl⟩
    rw [← hws] at hset HS0
    have HW := Lib.hid (show sppErr V = none ∧ (List.replicate V.length ([] : List Int)).set 0 [0] = ws0 by rw [HV.out]; exact ⟨HE.out, by rw [HVL.out, hws]⟩)
    have HVL2 := Lib.hid (show V.length = L.length by rw [HV.out]; exact HVL.out)
    have HXV := Lib.hid (show X = sppRun V od by rw [HV.out]; exact HX.out)
    rw [← HV.out] at hsz
    clear hws HX
    go_wp2
    go_loopw [23] (fun s23 wr => ∃ (k : Nat) (ws : List (List Int)) (A : Nat → Option Addr) (C : Nat → Nat) (G : Nat → Option Nat), k ≤ od.length ∧ s23 = .int .i64 k ∧ Hid (ws.length = L.length) ∧ NMat wr.heap w.heap.size 38 3 (some ⟨w.heap.size, 0, none⟩) L.length (some w.heap.size) ws A C G ∧ Fr (fun _ => False) w wr ∧ Hid (runL V od ws0 = runL V (od.drop k) ws)) (fun s _ => od.length - (intOf s).toNat)
    case atStart => exact ⟨0, ws0, _, _, _, by omega, rfl, HS0, hset, hFset, Lib.hid rfl⟩
    case round =>
      obtain ⟨k, ws, A, C, G, hk, rfl, HWL, hN, hF, hR⟩ := hrel
      clear hset hFset d4 f4 hF3
      by_cases hkl : k < od.length
      · have ho' := Rd.fr0 ho hF (fun _ _ h => h)
        obtain ⟨b, off, rfl, hb, hcell⟩ := Ints.pos ho' (by omega)
        have d := hcell wr rfl k hkl
        have hdr := drop_nth od k hkl
        generalize nth od k = x at *
        have HD := Lib.hid hdr
        clear hcell hdr ho'
        by_cases q1 : x < 0
        · have HF := Lib.hid (HXV.out.trans (sppRun_bad HW.out.1 (by rw [HW.out.2, hR.out, HD.out]; exact runL_cons_bad (.inl q1))))
          go_wp2
          go_ret2
          exact RetN.err HF.out rfl hF
        · by_cases q2 : (L.length : Int) ≤ x
          · have HF := Lib.hid (HXV.out.trans (sppRun_bad HW.out.1 (by rw [HW.out.2, hR.out, HD.out]; exact runL_cons_bad (.inr (by rw [HVL2.out]; exact q2)))))
            go_wp2
            go_ret2
            exact RetN.err HF.out rfl hF
          · obtain ⟨m, rfl⟩ : ∃ m : Nat, x = m := ⟨x.toNat, by omega⟩
            have hm : m < L.length := by omega
            have HR := Lib.hid (show runL V od ws0 = runL V (od.drop (k + 1)) (ws.set m (bestL (nth V m) ws m)) by
              rw [hR.out, HD.out, runL_cons (by rw [HVL2.out]; omega)]
              rfl)
            obtain ⟨W, hW⟩ : ∃ W, W = wr.alloc (.cells #[.slice (some ⟨w.heap.size, 0, none⟩) L.length L.length] 115) := ⟨_, rfl⟩
            have hFW : Fr (fun _ => False) wr W := by rw [hW]; exact (Fr.refl _ _).alloc _
            have e0 : W.cell? ⟨wr.heap.size, 0, none⟩ = some (.slice (some ⟨w.heap.size, 0, none⟩) L.length L.length) := by rw [hW]; exact (Blk.made wr 115 [.slice (some ⟨w.heap.size, 0, none⟩) L.length L.length]).cell 0
            have l0 : wr.heap.size < W.heap.size := by rw [hW]; simp
            have hNW := hN.fr0 hFW (fun _ _ _ h => h)
            have hbe := best_any L a c T ws (some ⟨w.heap.size, 0, none⟩) L.length wr.heap.size A C m W (hL.fr0 (hF.trans hFW)) hl8 hm hNW.mat (by rw [HWL.out]; omega) (by rw [HWL.out]; exact e0) l0 (by rw [← HV.out]; exact hsz m (by rw [HVL2.out]; exact hm))
            rw [← HV.out] at hbe
            generalize bestL (nth V m) ws m = r at hbe HR
            have hwl := HWL.out
            obtain ⟨_, t1, t2, t3, -, -⟩ := hNW.top.pos (by omega)
            cases t1
            clear t2 hwl
            subst hW
            go_wp2_with (fail)
            refine hbe.mono ?_
            intro e1 w1 R1
            obtain ⟨ar, cr, gr, rfl, hOr, hFr, hNr⟩ := R1
            clear hbe
            have hN1 := hNW.fr0 hFr (fun _ _ _ h => h)
            have hwl := HWL.out
            obtain ⟨_, t1, t2, t3, t4, t5⟩ := hN1.top.pos (by omega)
            cases t1
            have d4 := t4 m (by omega)
            have f4 := t5 m
            rw [List.getElem?_map, List.getElem?_range (by omega)] at d4
            have hset := hN1.set (i := m) (by omega) hOr (fun g' h => by have := hNr g' h; have := (hF.trans hFW).size; omega) (fun j g' hj hg h => by have h1 := hNr g' h; have h2 := (hNW.rws.row j hj).lt g' hg; omega) (fun h => by have h1 := hNr _ h; omega)
            have hFs := ((hF.trans hFW).trans hFr).setCell (p := ⟨w.heap.size, m, none⟩) (fun h => absurd h (Nat.lt_irrefl _)) (.slice ar r.length cr)
            have HWL2 := Lib.hid (show (ws.set m r).length = L.length by rw [List.length_set]; exact hwl)
            clear hwl t2 t4 t5 hN1 hNW hN hR
            go_wp2
            go_roundw
            case rel => exact ⟨k + 1, ws.set m r, _, _, _, by omega, by go_num, HWL2, hset, hFs, HR⟩
            case measure => simp [intOf]; omega
      · obtain rfl : k = od.length := by omega
        have HF := Lib.hid (HXV.out.trans (sppRun_ok HW.out.1 (by rw [HW.out.2, hR.out, List.drop_length]; rfl)))
        go_wp2
        go_ret2
        exact RetN.ok HF.out HWL.out rfl hN hF
end Go.Proofs.YtfjempfffdeklaaDoor
