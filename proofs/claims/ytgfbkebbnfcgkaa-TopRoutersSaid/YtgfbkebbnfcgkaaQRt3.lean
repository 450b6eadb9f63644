import Derived.Test.YtgfbkebbnfcgkaaRibLast
import Derived.Test.YtgfbkebbnfcgkaaQRt2
section
namespace Go.Proofs.Ytgfbkebbnfcgkaa
open Go.RowKit

theorem IsRib.new' (w : World) (base : Nat) (h : w.heap.size < base) : IsRib (w.alloc (.cells #[.int .i64 0, .slice none 0 0] 106)).heap base w.heap.size 0 [] :=
  ⟨none, 0, Blk.made w 106 [.int .i64 0, .slice none 0 0], Rd.nil _ _ _, (fun b off e => by cases e), h⟩
/-- Nothing that was there has turned. -/
theorem IsRib.fr0 {w w' : World} {base br : Nat} {now : Int} {l : List Td} (h : IsRib w.heap base br now l) (f : Fr (fun _ => False) w w') : IsRib w'.heap base br now l := h.fr f (fun _ h => h.elim)

def ageE (now0 : Int) (l : List Td) (now : Int) : Except Int (List Td) := if ckErr now0 0 now then .error 1 else .ok (rAged now l)
def loseE (now0 : Int) (l : List Td) (f now : Int) : Except Int (List Td) := if ckErr now0 f now then .error 1 else .ok (rLost f now l)
theorem age_E {base br : Nat} {now0 : Int} {l : List Td} (w : World) (hR : IsRib w.heap base br now0 l) (hb : RibOk now0 l) (hbase : base ≤ w.heap.size) (now : Int) :
    Calls Try.prog 28 #[.pointer (some ⟨br, 0, none⟩), .int .i64 now] w (RibPost w base br (ageE now0 l now) now) := age_any w hR hb hbase now



theorem learn_ten : learnE 0 [] 1 167772160 8 5 3 = .ok [⟨1, 167772160, 8, 5, 3⟩] := by kernel_rfl



def Td.hd (x : Td) : Hea := ⟨x.f, x.a, x.n, x.m⟩
theorem hd_flat (l : List Td) : l.flatMap Td.hcells = (l.map Td.hd).flatMap Hea.cells := by
  induction l with
  | nil => rfl
  | cons x l ih => rw [List.flatMap_cons, List.map_cons, List.flatMap_cons, ih]; rfl
/-- What a rib tells, as a readable slice. -/
theorem rdHd {H : Array Obj} {a : Option Addr} {n c : Nat} {ob : Option Nat} {l : List Td} (h : Ownd H 111 4 a n c (l.flatMap Td.hcells) ob) (hn : n = l.length) : Recs H a 4 Hea.cells (l.map Td.hd) := by
  subst hn
  have := h.rd
  rw [hd_flat] at this
  unfold Recs
  rw [List.length_map]
  exact this

end Go.Proofs.Ytgfbkebbnfcgkaa
end
