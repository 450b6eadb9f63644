import Derived.Test.YtfjempfffdeklaaDoorRibLast
import Derived.Test.YtfjempfffdeklaaDoorHeaRec
namespace Go.Proofs.YtfjempfffdeklaaDoor
open Go.RowKit

theorem IsRib.new' (w : World) (base : Nat) (h : w.heap.size < base) : IsRib (w.alloc (.cells #[.int .i64 0, .slice none 0 0] 162)).heap base w.heap.size 0 [] :=
  ⟨none, 0, Blk.made w 162 [.int .i64 0, .slice none 0 0], Rd.nil _ _ _, (fun b off e => by cases e), h⟩
/-- Nothing that was there has turned. -/
theorem IsRib.fr0 {w w' : World} {base br : Nat} {now : Int} {l : List Td} (h : IsRib w.heap base br now l) (f : Fr (fun _ => False) w w') : IsRib w'.heap base br now l := h.fr f (fun _ h => h.elim)

def ageE (now0 : Int) (l : List Td) (now : Int) : Except Int (List Td) := if ckErr now0 0 now then .error 1 else .ok (rAged now l)
def loseE (now0 : Int) (l : List Td) (f now : Int) : Except Int (List Td) := if ckErr now0 f now then .error 1 else .ok (rLost f now l)
theorem age_E {base br : Nat} {now0 : Int} {l : List Td} (w : World) (hR : IsRib w.heap base br now0 l) (hb : RibOk now0 l) (hbase : base ≤ w.heap.size) (now : Int) :
    Calls Tryd.prog 47 #[.pointer (some ⟨br, 0, none⟩), .int .i64 now] w (RibPost w base br (ageE now0 l now) now) := age_any w hR hb hbase now
theorem lose_E {base br : Nat} {now0 : Int} {l : List Td} (w : World) (hR : IsRib w.heap base br now0 l) (hb : RibOk now0 l) (hbase : base ≤ w.heap.size) (f now : Int) :
    Calls Tryd.prog 45 #[.pointer (some ⟨br, 0, none⟩), .int .i64 f, .int .i64 now] w (RibPost w base br (loseE now0 l f now) now) := lose_any w hR hb hbase f now
set_option maxRecDepth 100000 in
set_option maxHeartbeats 1000000 in
theorem ten_any (w : World) : Calls Tryd.prog 69 #[] w (fun e w' => e = .returned (.agg #[.int .u32 167772160, .int .i64 8]) ∧ w' = w.alloc (.cells #[.int .u32 167772160, .int .i64 8] 37)) := by
  go_enter Tryd.func69, Tryd.ntmps69
  go_wp2
  exact bodyPost_ret (v := .agg #[.int .u32 167772160, .int .i64 8]) (by simp [results, Tryd.results69, go_sem]) rfl ⟨rfl, rfl⟩

theorem learn_ten : learnE 0 [] 1 167772160 8 5 3 = .ok [⟨1, 167772160, 8, 5, 3⟩] := by kernel_rfl

set_option maxRecDepth 100000 in
set_option maxHeartbeats 2000000 in
theorem learnt_any (w : World) : Calls Tryd.prog 40 #[] w (RetV w (.bool true)) := by
  have k1 := (IsRib.new w).fr0 ((Fr.refl (fun _ => False) _).alloc (.cells #[.int .u32 167772160, .int .i64 8] 37))
  go_enter Tryd.func40, Tryd.ntmps40
  go_wp2_with (first | (go_at_call 41; refine (ribNew_any _).mono ?_; rintro e w' ⟨rfl, rfl⟩) | (go_at_call 69; refine (ten_any _).mono ?_; rintro e w' ⟨rfl, rfl⟩))
  go_wp2_with (go_at_call 43; refine (learn_any _ k1 ribOk_nil (by simp) 1 167772160 8 5 3 (by decide)).mono ?_)
  intro e1 w1 R1
  obtain ⟨rfl, k2, hF1⟩ := R1.okE learn_ten
  have hs1 : w.heap.size + 2 ≤ w1.heap.size := by have := hF1.size; simpa using this
  go_wp2_with (go_at_call 50; refine (ribList_any _ k2 (by simp)).mono ?_)
  intro e2 w2 R2
  obtain ⟨a2, c2, ob2, rfl, hO2, hF2, hN2⟩ := R2
  have hFw : Fr (fun _ => False) w w2 := ((((Fr.refl _ w).alloc _).alloc _).trans' hF1 (fun q hq h => by omega)).trans hF2
  obtain ⟨g, rfl, rfl, hg, hc, -⟩ := hO2.pos (by simp)
  have q3 := hc 3 (by simp)
  simp only [List.flatMap_cons, List.flatMap_nil, List.append_nil, Td.hcells, List.getElem?_cons_zero, List.getElem?_cons_succ] at q3
  have k3 := k2.fr0 hF2
  clear hc hO2 hN2 k1 k2 hF1 hF2
  go_wp2_with (go_at_call 52; refine (ribNow_any _ k3).mono ?_; rintro e w' ⟨rfl, rfl⟩)
  go_ret
  exact RetV.mk rfl rfl hFw

def Td.hd (x : Td) : Hea := ⟨x.f, x.a, x.n, x.m⟩
theorem hd_flat (l : List Td) : l.flatMap Td.hcells = (l.map Td.hd).flatMap Hea.cells := by
  induction l with
  | nil => rfl
  | cons x l ih => rw [List.flatMap_cons, List.map_cons, List.flatMap_cons, ih]; rfl
/-- What a rib tells, as a readable slice. -/
theorem rdHd {H : Array Obj} {a : Option Addr} {n c : Nat} {ob : Option Nat} {l : List Td} (h : Ownd H 51 4 a n c (l.flatMap Td.hcells) ob) (hn : n = l.length) : Recs H a 4 Hea.cells (l.map Td.hd) := by
  subst hn
  have := h.rd
  rw [hd_flat] at this
  unfold Recs
  rw [List.length_map]
  exact this

end Go.Proofs.YtfjempfffdeklaaDoor
