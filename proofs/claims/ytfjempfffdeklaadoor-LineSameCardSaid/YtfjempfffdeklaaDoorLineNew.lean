import Derived.Test.YtfjempfffdeklaaDoorLineDef
import Derived.Test.YtfjempfffdeklaaDoorCloneLk
namespace Go.Proofs.YtfjempfffdeklaaDoor
open Go.RowKit

/-- 'nobody' is as it was laid. -/
def Nb (w : World) : Prop := w.cell? ⟨0, 0, none⟩ = some (.int .i64 16) ∧ w.cell? ⟨0, 1, none⟩ = some (.int .i64 (-1)) ∧ 0 < w.heap.size
theorem Nb.fr {S : Nat → Prop} {w w' : World} (h : Nb w) (f : Fr S w w') (hs : ¬ S 0) : Nb w' :=
  ⟨(f.cell (p := ⟨0, 0, none⟩) h.2.2 hs).trans h.1, (f.cell (p := ⟨0, 1, none⟩) h.2.2 hs).trans h.2.1, Nat.lt_of_lt_of_le h.2.2 f.size⟩
theorem infoThs : (Tryd.prog.info? 151).map (fun i => (i.zero, i.size, i.bytes)) = some (some (.slice none 0 0), 1, 24) := by kernel_rfl
/-- A row that knows but itself. -/
theorem row0_eq (R : Nat → Nat → Th) {n i : Nat} (hi : i < n) (hR : ∀ o, o < n → R i o = startT i o) : ((List.replicate n (⟨16, -1⟩ : Th)).flatMap Th.cells).set (i * 2) (.int .i64 0) = (rowTh R n i).flatMap Th.cells := by
  have e : ∀ (l : List Th) (i : Nat) (x : Int), i < l.length → (l.flatMap Th.cells).set (i * 2) (.int .i64 x) = (l.set i ⟨x, (nth l i).x⟩).flatMap Th.cells := by
    intro l
    induction l with
    | nil => intro i x h; simp at h
    | cons y l ih =>
      intro i x h
      cases i with
      | zero => rfl
      | succ i =>
        have := ih i x (by simpa using h)
        rw [nth_cons_succ, List.set_cons_succ, List.flatMap_cons, List.flatMap_cons, ← this]
        rw [show (i + 1) * 2 = i * 2 + 1 + 1 by omega]
        rfl
  rw [e _ _ _ (by simpa using hi)]
  congr 1
  refine ext_nth (by rw [rowTh_len]; simp) (fun o ho => ?_)
  have ho : o < n := by simpa using ho
  rw [rowTh_nth R ho, hR o ho, nth_set _ _ _ _ (by simpa using hi), nth_replicate _ _ _ ho, nth_replicate _ _ _ hi]
  unfold startT
  rfl
/-- What comes of a new line. -/
def RetLine (w : World) (n : Int) (l : List Lk) (p : Bool) (r : Option Int) (e : Ending) (w' : World) : Prop := match r with
  | some k => RetV w (.tuple #[.pointer none, errv k]) e w'
  | none => ∃ bs T, e = .returned (.tuple #[.pointer (some ⟨bs, 0, none⟩), .nilIface]) ∧ LineAt w' bs n.toNat l p startT T ∧ Fr (fun _ => False) w w' ∧ ∀ k, T k → w.heap.size ≤ k
theorem RetLine.errE {w w' : World} {n : Int} {l : List Lk} {p : Bool} {r : Option Int} {e : Ending} {k : Int} (h : RetLine w n l p r e w') (hr : r = some k) : RetV w (.tuple #[.pointer none, errv k]) e w' := by subst hr; exact h
theorem RetLine.okE {w w' : World} {n : Int} {l : List Lk} {p : Bool} {r : Option Int} {e : Ending} (h : RetLine w n l p r e w') (hr : r = none) : ∃ bs T, e = .returned (.tuple #[.pointer (some ⟨bs, 0, none⟩), .nilIface]) ∧ LineAt w' bs n.toNat l p startT T ∧ Fr (fun _ => False) w w' ∧ ∀ k, T k → w.heap.size ≤ k := by subst hr; exact h
theorem RetLine.err {w w' : World} {n : Int} {l : List Lk} {p : Bool} {r : Option Int} {e : Ending} {k : Int} (hr : r = some k) (he : e = .returned (.tuple #[.pointer none, errv k])) (hF : Fr (fun _ => False) w w') : RetLine w n l p r e w' := by subst hr; exact ⟨he, hF⟩
theorem RetLine.ok {w w' : World} {m : Nat} {l : List Lk} {p : Bool} {r : Option Int} {e : Ending} {bs : Nat} {T : Nat → Prop} (hr : r = none) (he : e = .returned (.tuple #[.pointer (some ⟨bs, 0, none⟩), .nilIface])) (h : LineAt w' bs m l p startT T) (hF : Fr (fun _ => False) w w') (hT : ∀ k, T k → w.heap.size ≤ k) : RetLine w (m : Int) l p r e w' := by subst hr; exact ⟨bs, T, he, h, hF, hT⟩

set_option maxRecDepth 100000 in
set_option maxHeartbeats 4000000 in
theorem lineNew_any (n : Int) (l : List Lk) (a : Option Addr) (c : Nat) (p : Bool) (w : World) (hNb : Nb w) (hL : Links w.heap a l) (hl : l.length * 24 ≤ 140737488351232) (hnil : a = none → l = []) (hw : ∀ x ∈ l, (Lit.int .i64 x.a).wf = true ∧ (Lit.int .i64 x.b).wf = true ∧ (Lit.int .i64 x.c).wf = true) :
    Calls Tryd.prog 35 #[.int .i64 n, .slice a l.length c, .bool p] w (RetLine w n l p (graphErr n l)) := by
  obtain ⟨GE, hGE⟩ : ∃ GE, GE = graphErr n l := ⟨_, rfl⟩
  rw [← hGE]
  have HGE := Lib.hid hGE
  clear hGE
  have hck := gcheck_any n l a c w hL (by omega) hw
  go_enter Tryd.func35, Tryd.ntmps35
  go_wp2_with (fail)
  refine hck.mono ?_
  rintro e1 w1 ⟨rfl, hF1⟩
  cases hg : graphErr n l with
  | some k =>
    have hX := Lib.hid (show GE = some k from HGE.out.trans hg)
    rw [show errO (some k) = errv k from rfl]
    clear hg hck
    go_wp2
    go_ret2
    exact RetLine.err hX.out rfl hF1
  | none =>
    have hX := Lib.hid (show GE = none from HGE.out.trans hg)
    have HOK := Lib.hid hg
    have hn : 1 ≤ n ∧ n ≤ 8 := by
      unfold graphErr at hg
      split at hg
      · cases hg
      · omega
    obtain ⟨N, rfl⟩ : ∃ N : Nat, n = N := ⟨n.toNat, by omega⟩
    have hN1 : 1 ≤ N ∧ N ≤ 8 := by omega
    have hNb1 := hNb.fr hF1 (fun h => h)
    have hgn := hNb.2.2
    have hcl := clone_lk l a c w1 (hL.fr hF1 (fun _ _ _ h => h)) rfl hl hnil
    rw [show errO none = .nilIface from rfl]
    obtain ⟨M, hM⟩ : ∃ M, M = l.length := ⟨_, rfl⟩
    rw [← hM] at hcl ⊢
    have HM := Lib.hid hM
    clear hg hck hn HGE hNb hL hnil hw hl hM
    go_wp2_with (fail)
    refine hcl.mono ?_
    rintro e2 w2 ⟨a2, c2, ob2, rfl, hO2, hF2, hN2⟩
    have hF02 := hF1.trans hF2
    have hNb2 := hNb1.fr hF2 (fun h => h)
    have hob2 : ∀ g, ob2 = some g → w.heap.size ≤ g := fun g hg => Nat.le_trans hF1.size (hN2 g hg)
    have hLk : Links w2.heap a2 l := by
      have := hO2.rd
      unfold Links Recs
      rw [← HM.out]
      exact this
    have hal : ∀ b off, a2 = some ⟨b, off, none⟩ → ob2 = some b := fun b off e => by
      rcases hO2.is with ⟨q, _⟩ | ⟨g, _, q, q2, _⟩
      · rw [q] at e; cases e
      · rw [q] at e; cases e; exact q2
    have hB := Blk.made w2 150 [.slice a2 M c2, .bool p, .slice none 0 0]
    have hlt2 := hO2.lt
    have hFb := (Fr.refl (fun _ => False) w2).alloc (.cells #[.slice a2 M c2, .bool p, .slice none 0 0] 150)
    have hLk3 := hLk.fr hFb (fun _ _ _ h => h)
    have hNb3 := hNb2.fr hFb (fun h => h)
    have hFw3 := hF02.trans hFb
    have hws := hF02.size
    clear hcl hO2 hF2 hN2 hLk hNb1 hNb2 hF1 hF02 hFb
    go_wp2
    obtain ⟨W3, hW3⟩ : ∃ W, W = w2.alloc (.cells #[.slice a2 M c2, .bool p, .slice none 0 0] 150) := ⟨_, rfl⟩
    obtain ⟨bs, hbs⟩ : ∃ b, b = w2.heap.size := ⟨_, rfl⟩
    have hsz3 : bs < W3.heap.size := by rw [hW3, hbs]; simp
    rw [← hW3] at hB hLk3 hNb3 hFw3 ⊢
    rw [← hbs] at hB hlt2 hws ⊢
    clear hW3 hbs
    go_loopw [24] (fun s24 wr => ∃ (i : Nat) (ar : Option Addr) (cr : Nat) (ob : Option Nat) (G C : Nat → Nat), i ≤ N ∧ s24 = .int .i64 i ∧ Blk wr.heap bs 150 [.slice a2 M c2, .bool p, .slice ar i cr] ∧ TMat wr.heap N i startT ar cr ob G C ∧ (∀ g, ob = some g → W3.heap.size ≤ g) ∧ (∀ j, j < i → W3.heap.size ≤ G j) ∧ Fr (fun k => k = bs) W3 wr) (fun s _ => N - (intOf s).toNat)
    case atStart => exact ⟨0, none, 0, none, fun _ => 0, fun _ => 0, by omega, rfl, hB, TMat.nil _ _ _ _ _, (fun _ h => nomatch h), (fun _ h => absurd h (Nat.not_lt_zero _)), Fr.refl _ _⟩
    case round =>
      clear hB
      obtain ⟨i, ar, cr, ob, G, C, hi, rfl, hB, hT, hob, hG, hF⟩ := hrel
      have b2 := hB.cell 2
      simp only [List.getElem?_cons_zero, List.getElem?_cons_succ] at b2
      by_cases hlt : i < N
      · obtain ⟨nb0, nb1, nb2⟩ := hNb3.fr hF (fun h => by omega)
        have hlit := rd_lit wr 154 [.int .i64 16, .int .i64 (-1)]
        have hrp := repeat_th ⟨16, -1⟩ (some ⟨wr.heap.size, 0, none⟩) 1 N _ hlit (by omega) (by omega)
        have hbl := hB.lt
        go_wp2_with (fail)
        refine hrp.mono ?_
        rintro e4 w4 ⟨a4, c4, ob4, rfl, hO4, hF4, hN4⟩
        obtain ⟨g, rfl, rfl, hg, hc, hfz⟩ := hO4.pos (by omega)
        have hgn4 : wr.heap.size < g := by have := hN4 g rfl; simp at this; omega
        have hci := (hc (i * 2 + 0) (by omega)).trans (flat_get Th.cells 2 Th.cells_len (List.replicate N (⟨16, -1⟩ : Th)) i 0 (by simpa using hlt) (by omega))
        have hfi := hfz (i * 2)
        have hset := hO4.set rfl (i * 2) (.int .i64 0)
        rw [row0_eq startT hlt (fun _ _ => rfl)] at hset
        have hFa := ((Fr.refl (fun _ => False) wr).alloc (.cells #[.int .i64 16, .int .i64 (-1)] 154)).trans hF4
        have hFs : Fr (fun _ => False) wr (w4.setCell ⟨g, i * 2, none⟩ (.int .i64 0)) := hFa.setCell (fun h => by simp only at h; omega) _
        rw [nth_replicate _ _ _ hlt] at hci
        simp only [Th.cells, List.getElem?_cons_zero, Nat.add_zero] at hci
        have hT5 := hT.fr0 hFs
        have hB5 := hB.fr hFs (fun h => h)
        have hB4 := hB.fr hFa (fun h => h)
        have c42 := hB4.cell 2
        have f42 := hB4.frozen 2
        have l4 := hB4.lt
        have hne : bs ≠ g := by omega
        simp only [List.getElem?_cons_zero, List.getElem?_cons_succ] at c42
        have hrd := (Ownd.made (w4.setCell ⟨g, i * 2, none⟩ (.int .i64 0)) 151 1 1 [.slice (some ⟨g, 0, none⟩) N c4] rfl (by decide)).rd
        rw [World.size_setCell] at hrd
        have htop := hT5.top.alloc (.cells #[.slice (some ⟨g, 0, none⟩) N c4] 151)
        have hobn : ob ≠ some g := fun h => by have := hT.top.lt g h; omega
        clear hrp hO4 hF4 hN4 hc hfz hFa hlit hT hB4
        go_wp2_with (at_builtin; refine wpList_app rfl _ _ 148 rfl Tryd.underlying148 infoThs rfl (by decide) rfl rfl htop hrd (by simp [Value.oneCell']) (by omega) (by omega) ?_)
        intro a' c' w6 ob' z1 z2 z3
        have hFal := (Fr.refl (fun _ => False) (w4.setCell ⟨g, i * 2, none⟩ (.int .i64 0))).alloc (.cells #[.slice (some ⟨g, 0, none⟩) N c4] 151)
        have hP := TMat.push (hT5.fr0 hFal) (hset.alloc (.cells #[.slice (some ⟨g, 0, none⟩) N c4] 151)) hobn z1 z2 (by simpa using z3)
        have hB6 := (hB5.fr hFal (fun h => h)).fr z2 (fun h => by have := hob _ h; omega)
        have c62 := hB6.cell 2
        have f62 := hB6.frozen 2
        have l6 := hB6.lt
        simp only [List.getElem?_cons_zero, List.getElem?_cons_succ] at c62
        have hszr := hF.size
        have hob6 : ∀ q, ob' = some q → W3.heap.size ≤ q := fun q hq => by
          rcases z3 with z3 | ⟨q2, z3, z4⟩
          · exact hob q (z3 ▸ hq)
          · rw [z3] at hq; cases hq; omega
        have hG6 : ∀ j, j < i + 1 → W3.heap.size ≤ (if j < i then G j else g) := fun j hj => by
          by_cases h : j < i
          · rw [if_pos h]; exact hG j h
          · rw [if_neg h]; omega
        have hFx := ((hF.trans (hFs.none _)).trans (hFal.none _)).trans' z2 (fun q hq h => by have := hob q h; omega)
        have HP := Lib.hid (hP.fr ((Fr.refl (fun k => k = bs) w6).setCell (p := ⟨bs, 2, none⟩) (fun _ => rfl) (.slice a' (i + 1) c')) (fun q hq h => by have := hob6 q hq; omega) (fun j hj h => by have := hG6 j hj; omega))
        have HB := Lib.hid (hB6.set 2 (.slice a' (i + 1) c'))
        have HF := Lib.hid (hFx.setCell (p := ⟨bs, 2, none⟩) (fun _ => rfl) (.slice a' (i + 1) c'))
        clear hP hB6 hFx z1 z2 z3 hrd htop hFal hT5 hB5 hset hFs hci hfi c42 f42
        go_wp2
        go_roundw
        case rel => exact ⟨i + 1, a', c', ob', _, _, by omega, by go_num, HB.out, HP.out, hob6, hG6, HF.out⟩
        case measure => simp [intOf]; omega
      · obtain rfl : i = N := by omega
        have HF := Lib.hid (hFw3.trans' hF (fun q hq h => by omega))
        have HL := Lib.hid (hLk3.fr hF (fun b off e h => by have := hlt2 b (hal b off e); omega))
        have hlr := hB.lt
        have hszr := hF.size
        go_wp2
        go_ret2
        refine RetLine.ok hX.out rfl (T := fun k => w.heap.size ≤ k ∧ k < wr.heap.size) ⟨a2, c2, ar, cr, ob, G, C, ?_⟩ HF.out (fun k hk => hk.1)
        exact ⟨by rw [← HM.out]; exact hB, HL.out, hT, HOK.out, ⟨hws, hlr⟩, fun b off e => ⟨hob2 b (hal b off e), by have := hlt2 b (hal b off e); omega⟩, fun g hg => ⟨by have := hob g hg; omega, hT.top.lt g hg⟩, fun j hj => ⟨by have := hG j hj; omega, (hT.row j hj).lt _ rfl⟩, fun k hk => hk.2, fun _ _ _ _ => LineT.start_f _ _, fun b off e h => by have := hlt2 b (hal b off e); omega⟩
end Go.Proofs.YtfjempfffdeklaaDoor
