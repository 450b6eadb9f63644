import Derived.Test.YtfglidaicjjpfaaGreatDoorRibW3
import Derived.Test.YtfglidaicjjpfaaGreatDoorInsTd
namespace Go.Proofs.YtfglidaicjjpfaaGreatDoor
open Go.RowKit

/-- What becomes of a rib. -/
def RibPost (w : World) (base br : Nat) (r : Except Int (List Td)) (now : Int) (e : Ending) (w' : World) : Prop :=
  match r with
  | .error k => e = .returned (errv k) ∧ Fr (fun _ => False) w w'
  | .ok l' => e = .returned .nilIface ∧ IsRib w'.heap base br now l' ∧ Fr (fun k => k = br) w w'
theorem RibPost.err {w w' : World} {base br : Nat} {r : Except Int (List Td)} {now k : Int} {e : Ending} (h : r = .error k) (h1 : e = .returned (errv k)) (h2 : Fr (fun _ => False) w w') : RibPost w base br r now e w' := by
  subst h; exact ⟨h1, h2⟩
theorem RibPost.ok {w w' : World} {base br : Nat} {r : Except Int (List Td)} {l' : List Td} {now : Int} {e : Ending} (h : r = .ok l') (h1 : e = .returned .nilIface) (h2 : IsRib w'.heap base br now l') (h3 : Fr (fun k => k = br) w w') : RibPost w base br r now e w' := by
  subst h; exact ⟨h1, h2, h3⟩
/-- The two fields written. -/
theorem IsRib.put {w : World} {base br : Nat} {now0 now : Int} {v : Value} {l' : List Td} {a : Option Addr} {c : Nat} {ob : Option Nat} (hB : Blk w.heap br 122 [.int .i64 now0, v]) (hO : Ownd w.heap 126 5 a l'.length c (l'.flatMap Td.cells) ob) (hN : ∀ g, ob = some g → base ≤ g) (hb : br < base) :
    IsRib ((w.setCell ⟨br, 1, none⟩ (.slice a l'.length c)).setCell ⟨br, 0, none⟩ (.int .i64 now)).heap base br now l' := by
  have h1 := (hB.set 1 (.slice a l'.length c)).set 0 (.int .i64 now)
  have hne : ob ≠ some br := fun h => by have := hN _ h; omega
  have h2 := ((hO.other (p := ⟨br, 1, none⟩) hne (.slice a l'.length c)).other (p := ⟨br, 0, none⟩) hne (.int .i64 now))
  refine ⟨a, c, h1, h2.rd, fun b off e => ?_, hb⟩
  rcases h2.is with ⟨q, _⟩ | ⟨g, _, q, q2, q3, _⟩
  · rw [q] at e; cases e
  · rw [q] at e; cases e; exact ⟨hN _ q2, _, q3⟩
theorem IsRib.blk {H : Array Obj} {base br : Nat} {now : Int} {l : List Td} (h : IsRib H base br now l) : (∃ v, Blk H br 122 [.int .i64 now, v]) ∧ br < base := by
  obtain ⟨a, c, h1, h2, h3, h4⟩ := h; exact ⟨⟨_, h1⟩, h4⟩

set_option maxRecDepth 100000 in
set_option maxHeartbeats 2000000 in
theorem age_any {base br : Nat} {now0 : Int} {l : List Td} (w : World) (hR : IsRib w.heap base br now0 l) (hb : RibOk now0 l) (hbase : base ≤ w.heap.size) (now : Int) :
    Calls Tryz.prog 41 #[.pointer (some ⟨br, 0, none⟩), .int .i64 now] w (RibPost w base br (if ckErr now0 0 now then .error 1 else .ok (rAged now l)) now) := by
  by_cases hc : ckErr now0 0 now
  · rw [if_pos hc]
    have hX := Lib.hid (show ckO now0 0 now = some 1 from if_pos hc)
    clear hc
    go_enter Tryz.func41, Tryz.ntmps41
    go_wp2_with (go_at_call 65; refine (ribCheck_any _ hR 0 now).mono ?_)
    intro e1 w1 R1
    rw [hX.out] at R1
    obtain ⟨rfl, rfl⟩ : e1 = .returned (errv 1) ∧ w = w1 := R1
    go_wp2
    go_ret
    exact ⟨rfl, Fr.refl _ _⟩
  · rw [if_neg hc]
    have hX := Lib.hid (show ckO now0 0 now = none from if_neg hc)
    have hn : now0 ≤ now ∧ now ≤ 1099511627776 := by unfold ckErr at hc; omega
    obtain ⟨⟨v, hB⟩, hbr⟩ := hR.blk
    clear hc
    go_enter Tryz.func41, Tryz.ntmps41
    go_wp2_with (go_at_call 65; refine (ribCheck_any _ hR 0 now).mono ?_)
    intro e1 w1 R1
    rw [hX.out] at R1
    obtain ⟨rfl, rfl⟩ : e1 = .returned .nilIface ∧ w = w1 := R1
    go_wp2_with (go_at_call 66; refine (aged_any _ hR hb now hn.1 hn.2).mono ?_)
    intro e2 w2 R2
    obtain ⟨a2, c2, ob2, rfl, hO2, hF2, hN2⟩ := R2
    have hB2 := hB.fr hF2 (fun h => h)
    have b0 := hB2.cell 0
    have b1 := hB2.cell 1
    have f0 := hB2.frozen 0
    have f1 := hB2.frozen 1
    simp only [List.getElem?_cons_succ, List.getElem?_cons_zero] at b0 b1
    generalize rAged now l = A at *
    have hI := IsRib.put (now := now) hB2 hO2 (fun g hg => by have := hN2 g hg; omega) hbr
    have hl2 := hB2.lt
    have HI := Lib.hid hI
    clear hI hO2 hN2
    go_wp2
    go_ret
    exact ⟨rfl, HI.out, Fr.at1 (g := br) (Fr.at1 (g := br) (hF2.none _) 1 _) 0 _⟩

set_option maxRecDepth 100000 in
set_option maxHeartbeats 2000000 in
theorem lose_any {base br : Nat} {now0 : Int} {l : List Td} (w : World) (hR : IsRib w.heap base br now0 l) (hb : RibOk now0 l) (hbase : base ≤ w.heap.size) (f now : Int) :
    Calls Tryz.prog 54 #[.pointer (some ⟨br, 0, none⟩), .int .i64 f, .int .i64 now] w (RibPost w base br (if ckErr now0 f now then .error 1 else .ok (rLost f now l)) now) := by
  by_cases hc : ckErr now0 f now
  · rw [if_pos hc]
    have hX := Lib.hid (show ckO now0 f now = some 1 from if_pos hc)
    clear hc
    go_enter Tryz.func54, Tryz.ntmps54
    go_wp2_with (go_at_call 65; refine (ribCheck_any _ hR f now).mono ?_)
    intro e1 w1 R1
    rw [hX.out] at R1
    obtain ⟨rfl, rfl⟩ : e1 = .returned (errv 1) ∧ w = w1 := R1
    go_wp2
    go_ret
    exact ⟨rfl, Fr.refl _ _⟩
  · rw [if_neg hc, show rLost f now l = (rAged now l).map (lose1 f now) from rfl]
    have hX := Lib.hid (show ckO now0 f now = none from if_neg hc)
    have hn : now0 ≤ now ∧ now ≤ 1099511627776 := by unfold ckErr at hc; omega
    obtain ⟨⟨v, hB⟩, hbr⟩ := hR.blk
    clear hc
    go_enter Tryz.func54, Tryz.ntmps54
    go_wp2_with (go_at_call 65; refine (ribCheck_any _ hR f now).mono ?_)
    intro e1 w1 R1
    rw [hX.out] at R1
    obtain ⟨rfl, rfl⟩ : e1 = .returned .nilIface ∧ w = w1 := R1
    go_wp2_with (go_at_call 66; refine (aged_any _ hR hb now hn.1 hn.2).mono ?_)
    intro e2 w2 R2
    obtain ⟨a2, c2, ob2, rfl, hO2, hF2, hN2⟩ := R2
    have hB2 := hB.fr hF2 (fun h => h)
    have b0 := hB2.cell 0
    have b1 := hB2.cell 1
    have f0 := hB2.frozen 0
    have f1 := hB2.frozen 1
    simp only [List.getElem?_cons_succ, List.getElem?_cons_zero] at b0 b1
    have hAl := (rAged_ok hb hn.1 hn.2).len
    have hAok := (rAged_ok hb hn.1 hn.2).each
    generalize rAged now l = A at *
    have hbne : ob2 ≠ some br := fun h => by have := hN2 _ h; have := hB.lt; omega
    have h0 : Blk ((w2.setCell ⟨br, 1, none⟩ (.slice a2 A.length c2)).setCell ⟨br, 0, none⟩ (.int .i64 now)).heap br 122 [.int .i64 now, .slice a2 A.length c2] := (hB2.set 1 _).set 0 _
    have h1 := (hO2.other (p := ⟨br, 1, none⟩) hbne (.slice a2 A.length c2)).other (p := ⟨br, 0, none⟩) hbne (.int .i64 now)
    have hl2 := hB2.lt
    have H0 := Lib.hid h0
    have H1 := Lib.hid h1
    have HAOK := Lib.hid hAok
    clear h0 h1 hO2 hB2 hAok
    go_wp2
    go_loopw [32] (fun s wr => ∃ (k : Nat), k ≤ A.length ∧ s = .int .i64 k ∧ Blk wr.heap br 122 [.int .i64 now, .slice a2 A.length c2] ∧ Ownd wr.heap 126 5 a2 A.length c2 (((A.take k).map (lose1 f now) ++ A.drop k).flatMap Td.cells) ob2 ∧ Fr (fun k => k = br) w wr) (fun s _ => A.length - (intOf s).toNat)
    case atStart => exact ⟨0, by omega, rfl, H0.out, by simpa using H1.out, Fr.at1 (g := br) (Fr.at1 (g := br) (hF2.none _) 1 _) 0 _⟩
    case round =>
      obtain ⟨k, hk, rfl, hBk, hO, hF⟩ := hrel
      by_cases hkl : k < A.length
      · have hlen : ((A.take k).map (lose1 f now)).length = k := by rw [List.length_map, List.length_take]; omega
        have hd := drop_nth A k hkl
        have hx := HAOK.out _ (nth_mem A k hkl)
        have htk : (A.take (k + 1)).map (lose1 f now) = (A.take k).map (lose1 f now) ++ [lose1 f now (nth A k)] := by rw [take_succ_nth A k hkl, List.map_append]; rfl
        have hnk : nth ((A.take k).map (lose1 f now) ++ A.drop k) k = nth A k := by rw [nth_append_right _ _ _ (by omega), hlen, Nat.sub_self, hd]; rfl
        have hll : ((A.take k).map (lose1 f now) ++ A.drop k).length = A.length := by rw [List.length_append, hlen, List.length_drop]; omega
        obtain ⟨b, off, ha2, hbb, hc⟩ := Recs.pos (l := (A.take k).map (lose1 f now) ++ A.drop k) (by have := hO.rd; unfold Recs; rw [hll]; exact this) Td.cells_len (by omega) (by omega)
        obtain ⟨g, rfl, rfl, hg, -, hfz⟩ := hO.pos (by omega)
        cases ha2
        have e0 := hc wr rfl k 0 (by omega) (by omega)
        have e3 := hc wr rfl k 3 (by omega) (by omega)
        have e4 := hc wr rfl k 4 (by omega) (by omega)
        rw [hnk] at e0 e3 e4
        have z3 := hfz (k * 5 + 3)
        have z4 := hfz (k * 5 + 4)
        have hset := (hO.set rfl (k * 5 + 3) (.int .i64 16)).set rfl (k * 5 + 4) (.int .i64 now)
        have hgn : w.heap.size ≤ b := hN2 b rfl
        have hbk2 := (hBk.other (p := ⟨b, k * 5 + 3, none⟩) (by show br ≠ b; omega) (.int .i64 16)).other (p := ⟨b, k * 5 + 4, none⟩) (by show br ≠ b; omega) (.int .i64 now)
        have r1 := hBk.cell 1
        have hset2 : ((((A.take k).map (lose1 f now) ++ A.drop k).flatMap Td.cells).set (k * 5 + 3) (.int .i64 16)).set (k * 5 + 4) (.int .i64 now) = ((A.take k).map (lose1 f now) ++ ⟨(nth A k).f, (nth A k).a, (nth A k).n, 16, now⟩ :: A.drop (k + 1)).flatMap Td.cells := by
          have hfl : (((A.take k).map (lose1 f now)).flatMap Td.cells).length = k * 5 := by rw [flat_len _ _ Td.cells_len, hlen]
          rw [hd, List.flatMap_append, List.flatMap_append, List.set_append_right _ _ (by omega), List.set_append_right _ _ (by omega), hfl, Nat.add_sub_cancel_left, Nat.add_sub_cancel_left]
          rfl
        have HS := Lib.hid hset
        have HS2 := Lib.hid hset2
        have HB2 := Lib.hid hbk2
        have HT := Lib.hid htk
        have HD := Lib.hid hd
        generalize nth A k = x at *
        obtain ⟨xf, xa, xn, xm, xt⟩ := x
        simp only [Td.cells, List.getElem?_cons_zero, List.getElem?_cons_succ, ← Nat.add_assoc, Nat.add_zero, Nat.zero_add] at e0 e3 e4 r1
        clear hset hset2 hbk2 hc hfz htk hd hlen hnk hll
        by_cases hx1 : xf = f
        · by_cases hx2 : xm < 16
          · have hl1 := Lib.hid (show lose1 f now ⟨xf, xa, xn, xm, xt⟩ = ⟨xf, xa, xn, 16, now⟩ from if_pos ⟨hx1, hx2⟩)
            have hb1 : (xf == f) = true := by simp [hx1]
            clear hx1
            go_wp2
            go_roundw
            case rel => exact ⟨k + 1, by omega, by go_num, HB2.out, by rw [HT.out, hl1.out, List.append_assoc]; rw [HS2.out] at HS; exact HS.out, (hF.setCell (fun h => by simp only at h; omega) _).setCell (fun h => by simp only at h; omega) _⟩
            case measure => simp [intOf]; omega
          · have hl1 := Lib.hid (show lose1 f now ⟨xf, xa, xn, xm, xt⟩ = ⟨xf, xa, xn, xm, xt⟩ from if_neg (fun h => hx2 h.2))
            have hb1 : (xf == f) = true := by simp [hx1]
            clear hx1
            go_wp2
            go_roundw
            case rel => exact ⟨k + 1, by omega, by go_num, hBk, by rw [HT.out, hl1.out, List.append_assoc]; rw [HD.out] at hO; exact hO, hF⟩
            case measure => simp [intOf]; omega
        · have hl1 := Lib.hid (show lose1 f now ⟨xf, xa, xn, xm, xt⟩ = ⟨xf, xa, xn, xm, xt⟩ from if_neg (fun h => hx1 h.1))
          have hb1 : (xf == f) = false := by simp [hx1]
          clear hx1
          go_wp2
          go_roundw
          case rel => exact ⟨k + 1, by omega, by go_num, hBk, by rw [HT.out, hl1.out, List.append_assoc]; rw [HD.out] at hO; exact hO, hF⟩
          case measure => simp [intOf]; omega
      · obtain rfl : k = A.length := by omega
        go_wp2
        go_ret
        refine ⟨rfl, ⟨a2, c2, ?_, ?_, fun b off e => ?_, hbr⟩, hF⟩
        · rw [List.length_map]; exact hBk
        · have := hO.rd
          rw [List.take_length, List.drop_length, List.append_nil] at this
          unfold Recs
          rw [List.length_map]
          exact this
        · rcases hO.is with ⟨q, _⟩ | ⟨g, _, q, q2, q3, _⟩
          · rw [q] at e; cases e
          · rw [q] at e; cases e; have := hN2 _ q2; exact ⟨by omega, _, q3⟩
end Go.Proofs.YtfglidaicjjpfaaGreatDoor
