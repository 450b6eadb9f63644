import Derived.Test.YtbmeeglehbaggaaLfiT
import Derived.Test.YtbmeeglehbaggaaCTab
namespace Go
open Go.RowKit
theorem Ownd.blk {H : Array Obj} {E : TypeId} {sz : Nat} {a : Option Addr} {n c g : Nat} {xs : List Value} (h : Ownd H E sz a n c xs (some g)) : ∃ cs, Blk H g E cs ∧ a = some ⟨g, 0, none⟩ ∧ ∀ j, j < n * sz → cs[j]? = xs[j]? := by
  rcases h.is with ⟨_, _, _, h4⟩ | ⟨g', cur, h1, h2, h3, h4, h5, h6, h7⟩
  · cases h4
  · cases h2
    refine ⟨cur.toList, by unfold Blk; simpa using h3, h1, fun j hj => ?_⟩
    rw [← h7, List.getElem?_take, if_pos hj]
end Go
namespace Go.Proofs.Ytbmeeglehbaggaa
open Go.RowKit Go.Maps
theorem infoNd : (Try.prog.info? 103).map (fun i => (i.zero, i.size, i.bytes)) = some (some (.pointer none), 1, 8) := by kernel_rfl

/-- A net under way: i nodes stand. -/
structure LI (w : World) (base sb N i : Nat) (t : Int) (L : FL) (na : Option Addr) (nc : Nat) (nob : Option Nat) : Prop where
  sB : Blk w.heap sb 102 [.int .i64 t, .slice (some ⟨L.cb, 0, none⟩) N L.cc, .slice na i nc, .map (some L.mb)]
  cT : ∃ cs, Blk w.heap L.cb 22 cs ∧ ∀ j, j < N → cs[j]? = some (.slice (some ⟨L.cr j, 0, none⟩) N (L.ccr j))
  cR : ∀ j, j < N → IR w.heap 3 (L.cr j) 0 N N
  nT : Ownd w.heap 103 1 na i nc ((List.range i).map fun j => .pointer (some ⟨L.nd j, 0, none⟩)) nob
  nB : ∀ j, j < i → Blk w.heap (L.nd j) 106 [.int .i64 16, .int .i64 16, .slice (some ⟨L.hr j, 0, none⟩) N (L.hc j)]
  hR : ∀ j, j < i → IR w.heap 3 (L.hr j) 0 N N
  mp : MapL w Try.prog 107 klp L.mb []
  lo : base ≤ sb ∧ base ≤ L.cb ∧ base ≤ L.mb ∧ (∀ g, nob = some g → base ≤ g) ∧ (∀ j, j < N → base ≤ L.cr j) ∧ ∀ j, j < i → base ≤ L.nd j ∧ base ≤ L.hr j
  inj : ∀ j j', j < i → j' < i → L.nd j = L.nd j' → j = j'

def _root_.Go.Proofs.Ytbmeeglehbaggaa.FL.add (L : FL) (i g h hc : Nat) : FL := { L with nd := fun j => if j = i then g else L.nd j, hr := fun j => if j = i then h else L.hr j, hc := fun j => if j = i then hc else L.hc j }
theorem LI.fr0 {w w' : World} {base sb N i : Nat} {t : Int} {L : FL} {na : Option Addr} {nc : Nat} {nob : Option Nat} (h : LI w base sb N i t L na nc nob) (f : Fr (fun _ => False) w w') : LI w' base sb N i t L na nc nob :=
  ⟨h.sB.fr f (fun h => h), by obtain ⟨cs, c1, c2⟩ := h.cT; exact ⟨cs, c1.fr f (fun h => h), c2⟩, fun j hj => (h.cR j hj).fr f (fun h => h), h.nT.fr f (fun _ _ h => h), fun j hj => (h.nB j hj).fr f (fun h => h), fun j hj => (h.hR j hj).fr f (fun h => h), h.mp.fr f (fun h => h), h.lo, h.inj⟩

theorem LI.push {wr w6 : World} {base sb N i : Nat} {t : Int} {L : FL} {na : Option Addr} {nc : Nat} {nob : Option Nat} (h : LI wr base sb N i t L na nc nob) (F : Fr (fun x => nob = some x) wr w6)
    {g hb hc' : Nat} (hnd : Blk w6.heap g 106 [.int .i64 16, .int .i64 16, .slice (some ⟨hb, 0, none⟩) N hc']) (hI : IR w6.heap 3 hb 0 N N) (hgn : wr.heap.size ≤ g) (hbn : wr.heap.size ≤ hb) (hbase : base ≤ wr.heap.size)
    {a' : Option Addr} {c' : Nat} {ob' : Option Nat} (hO : Ownd w6.heap 103 1 a' (i + 1) c' (((List.range i).map fun j => .pointer (some ⟨L.nd j, 0, none⟩)) ++ [.pointer (some ⟨g, 0, none⟩)]) ob') (hob : ob' = nob ∨ ∀ x, ob' = some x → wr.heap.size ≤ x) :
    LI (w6.setCell ⟨sb, 2, none⟩ (.slice a' (i + 1) c')) base sb N (i + 1) t (L.add i g hb hc') a' c' ob' := by
  have ne1 : ∀ {E : TypeId} {g' : Nat} {cs : List Value}, Blk wr.heap g' E cs → 103 ≠ E → ¬ nob = some g' := fun hB hE e => by
    have h1 := h.nT
    rw [e] at h1
    obtain ⟨ds, d1, -⟩ := h1.blk
    exact d1.ne hB hE rfl
  have nI : ∀ {g' lo m s : Nat}, IR wr.heap 3 g' lo m s → ¬ nob = some g' := fun hB => by
    obtain ⟨cs, c1, -⟩ := hB
    exact ne1 c1 (by decide)
  have nM : ¬ nob = some L.mb := fun e => by
    have h1 := h.nT
    rw [e] at h1
    obtain ⟨ds, d1, -⟩ := h1.blk
    exact h.mp.ne d1 rfl
  have hsb := h.sB.fr F (ne1 h.sB (by decide))
  have sI : ∀ {g' lo m s : Nat}, IR w6.heap 3 g' lo m s → IR (w6.setCell ⟨sb, 2, none⟩ (.slice a' (i + 1) c')).heap 3 g' lo m s := fun hB => by
    obtain ⟨cs, c1, c2⟩ := hB
    exact ⟨cs, c1.other (p := ⟨sb, 2, none⟩) (c1.ne hsb (by decide)) _, c2⟩
  obtain ⟨l1, l2, l3, l4, l5, l6⟩ := h.lo
  have add : ∀ j, j < i + 1 → ((L.add i g hb hc').nd j = g ∧ j = i ∧ (L.add i g hb hc').hr j = hb ∧ (L.add i g hb hc').hc j = hc') ∨ (j < i ∧ (L.add i g hb hc').nd j = L.nd j ∧ (L.add i g hb hc').hr j = L.hr j ∧ (L.add i g hb hc').hc j = L.hc j) := fun j hj => by
    by_cases hji : j = i
    · exact .inl (by simp [FL.add, hji])
    · exact .inr ⟨by omega, by simp [FL.add, hji], by simp [FL.add, hji], by simp [FL.add, hji]⟩
  refine ⟨hsb.set 2 _, ?_, fun j hj => sI ((h.cR j hj).fr F (nI (h.cR j hj))), ?_, fun j hj => ?_, fun j hj => ?_, ?_, ⟨l1, l2, l3, ?_, l5, fun j hj => ?_⟩, fun j j' hj hj' e => ?_⟩
  · obtain ⟨cs, c1, c2⟩ := h.cT
    have c3 := c1.fr F (ne1 c1 (by decide))
    exact ⟨cs, c3.other (p := ⟨sb, 2, none⟩) (c3.ne hsb (by decide)) _, c2⟩
  · have e : (List.range (i + 1)).map (fun j => Value.pointer (some ⟨(L.add i g hb hc').nd j, 0, none⟩)) = ((List.range i).map fun j => .pointer (some ⟨L.nd j, 0, none⟩)) ++ [.pointer (some ⟨g, 0, none⟩)] := by
      rw [List.range_succ, List.map_append]
      congr 1
      · refine List.map_congr_left fun j hj => ?_
        have := List.mem_range.1 hj
        simp [FL.add, show ¬ j = i by omega]
      · simp [FL.add]
    rw [e]
    refine hO.other (p := ⟨sb, 2, none⟩) (fun e => ?_) _
    rw [e] at hO
    obtain ⟨ds, d1, -⟩ := hO.blk
    exact d1.ne hsb (by decide) rfl
  · rcases add j hj with ⟨e1, -, e2, e3⟩ | ⟨hji, e1, e2, e3⟩
    · rw [e1, e2, e3]
      exact hnd.other (p := ⟨sb, 2, none⟩) (hnd.ne hsb (by decide)) _
    · rw [e1, e2, e3]
      have c1 := (h.nB j hji).fr F (ne1 (h.nB j hji) (by decide))
      exact c1.other (p := ⟨sb, 2, none⟩) (c1.ne hsb (by decide)) _
  · rcases add j hj with ⟨-, -, e2, -⟩ | ⟨hji, -, e2, -⟩
    · rw [e2]; exact sI hI
    · rw [e2]; exact sI ((h.hR j hji).fr F (nI (h.hR j hji)))
  · have m1 := h.mp.fr F nM
    exact m1.fr ((Fr.refl (fun k => k = sb) w6).setCell (p := ⟨sb, 2, none⟩) (fun _ => rfl) _) (m1.ne hsb)
  · intro x hx
    rcases hob with e | e
    · exact l4 x (e ▸ hx)
    · exact Nat.le_trans hbase (e x hx)
  · rcases add j hj with ⟨e1, -, e2, -⟩ | ⟨hji, e1, e2, -⟩
    · rw [e1, e2]; omega
    · rw [e1, e2]; exact l6 j hji
  · rcases add j hj with ⟨e1, e0, -, -⟩ | ⟨hji, e1, -, -⟩ <;> rcases add j' hj' with ⟨f1, f0, -, -⟩ | ⟨hji', f1, -, -⟩
    · omega
    · rw [e1, f1] at e
      have := (h.nB j' hji').lt
      omega
    · rw [e1, f1] at e
      have := (h.nB j hji).lt
      omega
    · rw [e1, f1] at e
      exact h.inj j j' hji hji' e

/-- All nodes stand: the net. -/
theorem LI.net {w : World} {base sb N : Nat} {t : Int} {L : FL} {na : Option Addr} {nc : Nat} {nob : Option Nat} (h : LI w base sb N N t L na nc nob) (hN : 1 ≤ N ∧ N ≤ 8) : ∃ nb, na = some ⟨nb, 0, none⟩ ∧ LN w (fun k => base ≤ k) sb N t 0 { L with nb := nb, nc := nc } := by
  obtain ⟨nb, h1, h2, -⟩ := h.nT.pos (by omega)
  have hO := h.nT
  rw [h2] at hO
  obtain ⟨cs, c1, -, c3⟩ := hO.blk
  have hs := h.sB
  rw [h1] at hs
  obtain ⟨l1, l2, l3, l4, l5, l6⟩ := h.lo
  refine ⟨nb, h1, hN, hs, h.cT, h.cR, ⟨cs, c1, fun i hi => ?_⟩, fun i hi => ⟨_, _, h.nB i hi⟩, h.hR, ⟨[], h.mp, Nat.le_refl _, (fun p hp => absurd hp List.not_mem_nil), (fun p hp => absurd hp List.not_mem_nil)⟩, l1, l2, l4 nb h2, l3, fun i hi => ⟨l5 i hi, (l6 i hi).1, (l6 i hi).2⟩⟩
  rw [c3 i (by omega)]
  simp [hi]
end Go.Proofs.Ytbmeeglehbaggaa
