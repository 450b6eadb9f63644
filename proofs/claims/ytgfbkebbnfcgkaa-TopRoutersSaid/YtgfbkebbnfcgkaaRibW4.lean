import Derived.Test.YtgfbkebbnfcgkaaRibW3
import Derived.Test.YtgfbkebbnfcgkaaInsTd
namespace Go.Proofs.Ytgfbkebbnfcgkaa
open Go.RowKit

/-- What becomes of a rib. -/
def RibPost (w : World) (base br : Nat) (r : Except Int (List Td)) (now : Int) (e : Ending) (w' : World) : Prop :=
  match r with
  | .error k => e = .returned (errv k) ∧ Fr (fun _ => False) w w'
  | .ok l' => e = .returned .nilIface ∧ IsRib w'.heap base br now l' ∧ Fr (fun k => k = br) w w'
theorem RibPost.err {w w' : World} {base br : Nat} {r : Except Int (List Td)} {now k : Int} {e : Ending} (h : r = .error k) (h1 : e = .returned (errv k)) (h2 : Fr (fun _ => False) w w') : RibPost w base br r now e w' := by
  subst h; exact ⟨h1, h2⟩
theorem RibPost.ok {w w' : World} {base br : Nat} {r : Except Int (List Td)} {l' : List Td} {now : Int} {e : Ending} (h : r = .ok l') (h1 : e = .returned .nilIface) (h2 : IsRib w'.heap base br now l') (h3 : Fr (fun k => k = br) w w') : RibPost w base br r now e w' := by
  subst h; exact ⟨h1, h2, h3⟩
/-- The two fields written. -/
theorem IsRib.put {w : World} {base br : Nat} {now0 now : Int} {v : Value} {l' : List Td} {a : Option Addr} {c : Nat} {ob : Option Nat} (hB : Blk w.heap br 106 [.int .i64 now0, v]) (hO : Ownd w.heap 128 5 a l'.length c (l'.flatMap Td.cells) ob) (hN : ∀ g, ob = some g → base ≤ g) (hb : br < base) :
    IsRib ((w.setCell ⟨br, 1, none⟩ (.slice a l'.length c)).setCell ⟨br, 0, none⟩ (.int .i64 now)).heap base br now l' := by
  have h1 := (hB.set 1 (.slice a l'.length c)).set 0 (.int .i64 now)
  have hne : ob ≠ some br := fun h => by have := hN _ h; omega
  have h2 := ((hO.other (p := ⟨br, 1, none⟩) hne (.slice a l'.length c)).other (p := ⟨br, 0, none⟩) hne (.int .i64 now))
  refine ⟨a, c, h1, h2.rd, fun b off e => ?_, hb⟩
  rcases h2.is with ⟨q, _⟩ | ⟨g, _, q, q2, q3, _⟩
  · rw [q] at e; cases e
  · rw [q] at e; cases e; exact ⟨hN _ q2, _, q3⟩
theorem IsRib.blk {H : Array Obj} {base br : Nat} {now : Int} {l : List Td} (h : IsRib H base br now l) : (∃ v, Blk H br 106 [.int .i64 now, v]) ∧ br < base := by
  obtain ⟨a, c, h1, h2, h3, h4⟩ := h; exact ⟨⟨_, h1⟩, h4⟩

set_option maxRecDepth 100000 in
set_option maxHeartbeats 2000000 in
theorem age_any {base br : Nat} {now0 : Int} {l : List Td} (w : World) (hR : IsRib w.heap base br now0 l) (hb : RibOk now0 l) (hbase : base ≤ w.heap.size) (now : Int) :
    Calls Try.prog 28 #[.pointer (some ⟨br, 0, none⟩), .int .i64 now] w (RibPost w base br (if ckErr now0 0 now then .error 1 else .ok (rAged now l)) now) := by
  by_cases hc : ckErr now0 0 now
  · rw [if_pos hc]
    have hX := Lib.hid (show ckO now0 0 now = some 1 from if_pos hc)
    clear hc
    go_enter Try.func28, Try.ntmps28
    go_wp2_with (go_at_call 49; refine (ribCheck_any _ hR 0 now).mono ?_)
    intro e1 w1 R1
    rw [hX.out] at R1
    obtain ⟨rfl, rfl⟩ : e1 = .returned (errv 1) ∧ w = w1 := R1
    go_wp2
    go_ret
    exact ⟨rfl, Fr.refl _ _⟩
  · rw [if_neg hc]
    have hX := Lib.hid (show ckO now0 0 now = none from if_neg hc)
    have hn : now0 ≤ now ∧ now ≤ 1099511627776 := by unfold ckErr at hc; omega
    obtain ⟨⟨v, hB⟩, hbr⟩ := hR.blk
    clear hc
    go_enter Try.func28, Try.ntmps28
    go_wp2_with (go_at_call 49; refine (ribCheck_any _ hR 0 now).mono ?_)
    intro e1 w1 R1
    rw [hX.out] at R1
    obtain ⟨rfl, rfl⟩ : e1 = .returned .nilIface ∧ w = w1 := R1
    go_wp2_with (go_at_call 50; refine (aged_any _ hR hb now hn.1 hn.2).mono ?_)
    intro e2 w2 R2
    obtain ⟨a2, c2, ob2, rfl, hO2, hF2, hN2⟩ := R2
    have hB2 := hB.fr hF2 (fun h => h)
    have b0 := hB2.cell 0
    have b1 := hB2.cell 1
    have f0 := hB2.frozen 0
    have f1 := hB2.frozen 1
    simp only [List.getElem?_cons_succ, List.getElem?_cons_zero] at b0 b1
    generalize rAged now l = A at *
    have hI := IsRib.put (now := now) hB2 hO2 (fun g hg => by have := hN2 g hg; omega) hbr
    have hl2 := hB2.lt
    have HI := Lib.hid hI
    clear hI hO2 hN2
    go_wp2
    go_ret
    exact ⟨rfl, HI.out, Fr.at1 (g := br) (Fr.at1 (g := br) (hF2.none _) 1 _) 0 _⟩


end Go.Proofs.Ytgfbkebbnfcgkaa
