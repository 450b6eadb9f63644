import Derived.Test.YtfjempfffdeklaaDoorQLearn
import Derived.Test.YtfjempfffdeklaaDoorErrSame
import Derived.Test.YtfjempfffdeklaaDoorAnyW
import Derived.Test.YtfjempfffdeklaaDoorTree
import Derived.Deep.CutBlock
import Derived.Deep.CutRange
import Derived.Deep.DeepCutAuto
namespace Go.Proofs.YtfjempfffdeklaaDoor
open Go.RowKit

/-- A rib and what the document says of it. -/
structure RInv (w0 w : World) (br : Nat) (now : Int) (l : List Td) (am : Option Addr) (cm : Nat) : Prop where
  rib : IsRib w.heap (br + 2) br now l
  ok : RibOk now l
  blk : Blk w.heap (br + 1) 83 [.int .i64 now, .slice am l.length cm]
  rd : Recs w.heap am 5 Td.cells l
  new : ∀ b off, am = some ⟨b, off, none⟩ → br + 2 ≤ b
  fr : Fr (fun _ => False) w0 w
  old : w0.heap.size ≤ br
namespace RInv
variable {w0 w w' : World} {br : Nat} {now now' : Int} {l l' : List Td} {am am' : Option Addr} {cm cm' : Nat}
theorem size (h : RInv w0 w br now l am cm) : br + 2 ≤ w.heap.size := h.blk.lt
theorem fr0 (h : RInv w0 w br now l am cm) (f : Fr (fun _ => False) w w') : RInv w0 w' br now l am cm :=
  ⟨h.rib.fr0 f, h.ok, h.blk.fr f (fun h => h), h.rd.fr f (fun _ _ _ h => h), h.new, h.fr.trans f, h.old⟩
theorem cells (h : RInv w0 w br now l am cm) : w.cell? ⟨br + 1, 0, none⟩ = some (.int .i64 now) ∧ w.cell? ⟨br + 1, 1, none⟩ = some (.slice am l.length cm) ∧ w.frozen? ⟨br + 1, 0, none⟩ = false ∧ w.frozen? ⟨br + 1, 1, none⟩ = false ∧ br + 1 < w.heap.size :=
  ⟨h.blk.cell 0, h.blk.cell 1, h.blk.frozen 0, h.blk.frozen 1, h.blk.lt⟩
/-- The rib has turned, and then the document's one. -/
theorem put (h : RInv w0 w br now l am cm) (hR : IsRib w'.heap (br + 2) br now' l') (hok : RibOk now' l') (hF : Fr (fun k => k = br) w w') (hrd : Recs w'.heap am' 5 Td.cells l') (hnew : ∀ b off, am' = some ⟨b, off, none⟩ → br + 2 ≤ b) :
    RInv w0 ((w'.setCell ⟨br + 1, 0, none⟩ (.int .i64 now')).setCell ⟨br + 1, 1, none⟩ (.slice am' l'.length cm')) br now' l' am' cm' := by
  have hB := h.blk.fr hF (fun h => by omega)
  have hS : Fr (fun k => k = br + 1) w' ((w'.setCell ⟨br + 1, 0, none⟩ (.int .i64 now')).setCell ⟨br + 1, 1, none⟩ (.slice am' l'.length cm')) := ((Fr.refl (fun k => k = br + 1) w').setCell (p := ⟨br + 1, 0, none⟩) (fun _ => rfl) _).setCell (p := ⟨br + 1, 1, none⟩) (fun _ => rfl) _
  have hold := h.old
  refine ⟨hR.fr hS (fun k hk => by omega), hok, (hB.set 0 _).set 1 _, hrd.fr hS (fun b off e hh => by have := hnew b off e; omega), hnew, ?_, h.old⟩
  exact (h.fr.trans' hF (fun i hi hh => by omega)).trans' hS (fun i hi hh => by omega)
end RInv
theorem ckO_learn {now0 f a n m now : Int} {l : List Td} {q : Int} (h : learnE now0 l f a n m now = .error q) : q ≠ 0 := by
  unfold learnE at h
  by_cases h1 : ckErr now0 f now
  · rw [if_pos h1] at h; cases h; decide
  · rw [if_neg h1] at h
    cases hn : netErr a n with
    | some k => rw [hn] at h; cases h; exact netErr_pos hn
    | none =>
      rw [hn] at h
      simp only at h
      by_cases h2 : m < 1 ∨ 16 < m
      · rw [if_pos h2] at h; cases h; decide
      · rw [if_neg h2] at h
        unfold rPut at h
        split at h
        · split at h <;> cases h
        · split at h
          · cases h
          · split at h
            · cases h; decide
            · cases h
theorem putB2 {w : World} {g : Nat} {E : TypeId} {c0 c1 : Value} (h : Blk w.heap g E [c0, c1]) (u0 u1 : Value) :
    Blk ((w.setCell ⟨g, 0, none⟩ u0).setCell ⟨g, 1, none⟩ u1).heap g E [u0, u1] ∧ Fr (fun k => k = g) w ((w.setCell ⟨g, 0, none⟩ u0).setCell ⟨g, 1, none⟩ u1) :=
  ⟨(h.set 0 u0).set 1 u1, ((Fr.refl (fun k => k = g) w).setCell (p := ⟨g, 0, none⟩) (fun _ => rfl) u0).setCell (p := ⟨g, 1, none⟩) (fun _ => rfl) u1⟩
theorem own_new {H : Array Obj} {E : TypeId} {sz n c B : Nat} {a : Option Addr} {xs : List Value} {ob : Option Nat} (h : Ownd H E sz a n c xs ob) (hN : ∀ g, ob = some g → B ≤ g) : ∀ b off, a = some ⟨b, off, none⟩ → B ≤ b := fun b off e => by
  rcases h.is with ⟨q, _⟩ | ⟨g, _, q, q2, _⟩
  · rw [q] at e; cases e
  · rw [q] at e; cases e; exact hN _ q2

/-- What the document's rib has come to. -/
def LRes (B : Nat) (H : Array Obj) (z : Int) (r : Except Int (List Td)) (t1 : Int) (a1 : Option Addr) (n1 : Nat) (ev : Int) : Prop :=
  (∃ q, r = .error q ∧ ev = q) ∨ ∃ l', r = .ok l' ∧ ev = 0 ∧ t1 = z ∧ n1 = l'.length ∧ Recs H a1 5 Td.cells l' ∧ (∀ b off, a1 = some ⟨b, off, none⟩ → B ≤ b)
theorem LRes.fr0 {B : Nat} {w w' : World} {z : Int} {r : Except Int (List Td)} {t1 : Int} {a1 : Option Addr} {n1 : Nat} {ev : Int} (h : LRes B w.heap z r t1 a1 n1 ev) (f : Fr (fun _ => False) w w') : LRes B w'.heap z r t1 a1 n1 ev := by
  rcases h with h | ⟨l', h1, h2, h3, h4, h5, h6⟩
  · exact .inl h
  · exact .inr ⟨l', h1, h2, h3, h4, h5.fr f (fun _ _ _ h => h), h6⟩
theorem LRes.frP {B p : Nat} {w w' : World} {z : Int} {r : Except Int (List Td)} {t1 : Int} {a1 : Option Addr} {n1 : Nat} {ev : Int} (h : LRes B w.heap z r t1 a1 n1 ev) (f : Fr (fun k => k = p) w w') (hp : p < B) : LRes B w'.heap z r t1 a1 n1 ev := by
  rcases h with h | ⟨l', h1, h2, h3, h4, h5, h6⟩
  · exact .inl h
  · exact .inr ⟨l', h1, h2, h3, h4, h5.fr f (fun b off e hh => by have := h6 b off e; have hh : b = p := hh; omega), h6⟩
theorem RetLearn.flat {w w' : World} {now0 now : Int} {a : Option Addr} {n c : Nat} {r : Except Int (List Td)} {e : Ending} (h : RetLearn w now0 a n c now r e w') :
    ∃ t1 a1 n1 c1 ev, e = .returned (.tuple #[.agg #[.int .i64 t1, .slice a1 n1 c1], .int .i64 ev]) ∧ Fr (fun _ => False) w w' ∧ LRes w.heap.size w'.heap now r t1 a1 n1 ev := by
  cases r with
  | error k => obtain ⟨h1, h2⟩ := h; exact ⟨now0, a, n, c, k, h1, h2, .inl ⟨k, rfl, rfl⟩⟩
  | ok l => obtain ⟨a', c', ob, h1, h2, h3, h4⟩ := h; exact ⟨now, a', l.length, c', 0, h1, h3, .inr ⟨l, rfl, rfl, rfl, rfl, h2.rd, own_new h2 h4⟩⟩
theorem LRes.le {B C : Nat} {H : Array Obj} {z : Int} {r : Except Int (List Td)} {t1 : Int} {a1 : Option Addr} {n1 : Nat} {ev : Int} (h : LRes B H z r t1 a1 n1 ev) (hC : C ≤ B) : LRes C H z r t1 a1 n1 ev := by
  rcases h with h | ⟨l', h1, h2, h3, h4, h5, h6⟩
  · exact .inl h
  · exact .inr ⟨l', h1, h2, h3, h4, h5, fun b off e => Nat.le_trans hC (h6 b off e)⟩
set_option maxRecDepth 100000 in
set_option maxHeartbeats 16000000 in
theorem ribTells_any (acs fs : List Int) (ns : List Nt) (ms zs : List Int) (aa af an am az : Option Addr) (ca cf cn cm cz : Nat) (w : World) (hg : Hd w) (hA : Ints w.heap aa acs) (hf : Ints w.heap af fs) (hn : Recs w.heap an 2 Nt.cells ns) (hnw : ∀ x ∈ ns, Nt.wf x) (hm : Ints w.heap am ms) (hz : Ints w.heap az zs)
    (la : acs.length ≤ 9223372036854775806) (lf : fs.length ≤ 9223372036854775806) (ln : ns.length ≤ 9223372036854775806) (lm : ms.length ≤ 9223372036854775806) (lz : zs.length ≤ 9223372036854775806) :
    Calls Tryd.prog 9 #[.slice aa acs.length ca, .slice af fs.length cf, .slice an ns.length cn, .slice am ms.length cm, .slice az zs.length cz] w (RetV w (.bool true)) := by
  have HA := Lib.hid hA
  have HFs := Lib.hid hf
  have HN := Lib.hid hn
  have HNW := Lib.hid hnw
  have HM := Lib.hid hm
  have HZ := Lib.hid hz
  clear hA hf hn hnw hm hz
  go_enter Tryd.func9, Tryd.ntmps9
  go_wp2_with (fail)
  refine (learnt_any w).mono ?_
  rintro e0 w0 ⟨rfl, hF0⟩
  go_wp2_with (fail)
  refine (ribNew_any w0).mono ?_
  rintro e1 w1 ⟨rfl, rfl⟩
  have k0 : RInv w ((w0.alloc (.cells #[.int .i64 0, .slice none 0 0] 162)).alloc (.cells #[.int .i64 0, .slice none 0 0] 83)) w0.heap.size 0 [] none 0 := by
    refine ⟨(IsRib.new' w0 (w0.heap.size + 2) (by omega)).fr0 ((Fr.refl _ _).alloc _), ribOk_nil, ?_, Rd.nil _ _ _, (fun _ _ h => nomatch h), (hF0.alloc _).alloc _, hF0.size⟩
    have := Blk.made (w0.alloc (.cells #[.int .i64 0, .slice none 0 0] 162)) 83 [.int .i64 0, .slice none 0 0]
    rwa [show (w0.alloc (.cells #[.int .i64 0, .slice none 0 0] 162)).heap.size = w0.heap.size + 1 by simp] at this
  go_wp2
  go_loopw [14] (fun s14 wr => ∃ (k : Nat) (now : Int) (l : List Td) (am : Option Addr) (cm : Nat), k ≤ acs.length ∧ s14 = .int .i64 k ∧ RInv w wr w0.heap.size now l am cm) (fun s _ => acs.length - (intOf s).toNat)
  case atStart => exact ⟨0, 0, [], none, 0, by omega, rfl, k0⟩
  case round =>
    clear k0
    obtain ⟨k, now, l, ad, cd, hk, rfl, hI⟩ := hrel
    by_cases hgo : k < acs.length ∧ k < fs.length ∧ k < ns.length ∧ k < ms.length ∧ k < zs.length
    · obtain ⟨h1, h2, h3, h4, h5⟩ := hgo
      obtain ⟨ga, oa, rfl, hga, hca⟩ := Ints.pos HA.out (by omega)
      obtain ⟨gf, of_, rfl, hgf, hcf⟩ := Ints.pos HFs.out (by omega)
      obtain ⟨gn, on, rfl, hgn, hcn⟩ := Recs.pos HN.out Nt.cells_len (by omega) (by omega)
      obtain ⟨gm, om, rfl, hgm, hcm⟩ := Ints.pos HM.out (by omega)
      obtain ⟨gz, oz, rfl, hgz, hcz⟩ := Ints.pos HZ.out (by omega)
      have ea := hca w rfl k h1
      have ef := hcf w rfl k h2
      have e0 := hcn w rfl k 0 h3 (by omega)
      have e1 := hcn w rfl k 1 h3 (by omega)
      have em := hcm w rfl k h4
      have ez := hcz w rfl k h5
      have hx := HNW.out _ (nth_mem ns k h3)
      generalize nth ns k = y at *
      generalize nth zs k = z at *
      generalize nth ms k = me at *
      generalize nth fs k = f at *
      generalize nth acs k = ac at *
      obtain ⟨xa, xn⟩ := y
      have hx2 : 0 ≤ xa ∧ xa < 4294967296 := ⟨hx.1, hx.2.1⟩
      simp only [Nt.cells, List.getElem?_cons_zero, List.getElem?_cons_succ, ← Nat.add_assoc, Nat.add_zero] at e0 e1
      have hb : Hid (∀ W : World, Fr (fun _ => False) w W → W.cell? ⟨ga, oa + k, none⟩ = some (.int .i64 ac) ∧ W.cell? ⟨gf, of_ + k, none⟩ = some (.int .i64 f) ∧ W.cell? ⟨gn, on + k * 2, none⟩ = some (.int .u32 xa) ∧ W.cell? ⟨gn, on + k * 2 + 1, none⟩ = some (.int .i64 xn) ∧ W.cell? ⟨gm, om + k, none⟩ = some (.int .i64 me) ∧ W.cell? ⟨gz, oz + k, none⟩ = some (.int .i64 z)) := Lib.hid (fun W fr =>
        ⟨(fr.cell (p := ⟨ga, oa + k, none⟩) hga (fun h => h)).trans ea, (fr.cell (p := ⟨gf, of_ + k, none⟩) hgf (fun h => h)).trans ef, (fr.cell (p := ⟨gn, on + k * 2, none⟩) hgn (fun h => h)).trans e0, (fr.cell (p := ⟨gn, on + k * 2 + 1, none⟩) hgn (fun h => h)).trans e1, (fr.cell (p := ⟨gm, om + k, none⟩) hgm (fun h => h)).trans em, (fr.cell (p := ⟨gz, oz + k, none⟩) hgz (fun h => h)).trans ez⟩)
      clear ea ef e0 e1 em ez hca hcf hcn hcm hcz hx
      obtain ⟨ea, ef, e0, e1, em, ez⟩ := hb.out wr hI.fr
      obtain ⟨m0, m1, m2, m3, m4⟩ := hI.cells
      have hsz := hI.size
      go_upto_if 62 with (fail)
      go_cut [15, 16, 17, 18] from 28 to 185 (fun s15 s16 s17 s18 wx => s16 = .bool true ∧ ∃ (now : Int) (l : List Td) (am : Option Addr) (cm : Nat), RInv w wx w0.heap.size now l am cm)
      case first =>
        by_cases hac0 : ac = 0
        · have eac : (ac == 0) = true := by simp [hac0]
          clear hac0
          have HQ : ∀ W : World, Fr (fun _ => False) wr W → Calls Tryd.prog 42 #[.agg #[.int .i64 now, .slice ad l.length cd], .int .i64 f, .agg #[.int .u32 xa, .int .i64 xn], .int .i64 me, .int .i64 z] W (RetLearn W now ad l.length cd z (learnE now l f xa xn me z)) := fun W hW => qlearnt_any l ad cd now f xa xn me z W ((hI.fr0 hW).rd) hI.ok hx2
          have HLN : ∀ W : World, Fr (fun _ => False) wr W → Calls Tryd.prog 43 #[.pointer (some ⟨w0.heap.size, 0, none⟩), .int .i64 f, .agg #[.int .u32 xa, .int .i64 xn], .int .i64 me, .int .i64 z] W (RibPost W (w0.heap.size + 2) w0.heap.size (learnE now l f xa xn me z) z) := fun W hW => learn_any W (hI.fr0 hW).rib hI.ok (Nat.le_trans hI.size hW.size) f xa xn me z hx2
          have hokl : ∀ l', learnE now l f xa xn me z = .ok l' → RibOk z l' := fun l' hl' => (learn_ok hI.ok hx2 hl').1
          obtain ⟨r, hr⟩ : ∃ r, r = learnE now l f xa xn me z := ⟨_, rfl⟩
          have hq0 : ∀ q, r = .error q → q ≠ 0 := fun q hq => ckO_learn (hr.symm.trans hq)
          rw [← hr] at HQ HLN hokl
          have HQQ := Lib.hid HQ
          have HLL := Lib.hid HLN
          have HOK := Lib.hid hokl
          have HQ0 := Lib.hid hq0
          clear HQ HLN hokl hq0 hr
          go_upto_region 12 with (fail)
          go_cut [17, 18] from 28 to 185 (fun s17 s18 wx => ∃ (p : Nat) (t1 : Int) (a1 : Option Addr) (n1 c1 : Nat) (ev : Int), s17 = .pointer (some ⟨p, 0, none⟩) ∧ s18 = .int .i64 ev ∧ Fr (fun _ => False) wr wx ∧ Blk wx.heap p 83 [.int .i64 t1, .slice a1 n1 c1] ∧ wr.heap.size ≤ p ∧ LRes wr.heap.size wx.heap z r t1 a1 n1 ev)
          case first =>
            have qa := fun c : Cls (fun _ => False) wr => (hI.fr0 c.fr).cells.1
            have qb := fun c : Cls (fun _ => False) wr => (hI.fr0 c.fr).cells.2.1
            have qf := fun c : Cls (fun _ => False) wr => (hb.out c.wo (hI.fr.trans c.fr)).2.1
            have q0 := fun c : Cls (fun _ => False) wr => (hb.out c.wo (hI.fr.trans c.fr)).2.2.1
            have q1 := fun c : Cls (fun _ => False) wr => (hb.out c.wo (hI.fr.trans c.fr)).2.2.2.1
            have qm := fun c : Cls (fun _ => False) wr => (hb.out c.wo (hI.fr.trans c.fr)).2.2.2.2.1
            have qz := fun c : Cls (fun _ => False) wr => (hb.out c.wo (hI.fr.trans c.fr)).2.2.2.2.2
            (refine wp_region_tree (fun w' => ∃ c : Cls (fun _ => False) wr, w' = c.wo) 23 (by kernel_rfl) (by kernel_rfl) (⟨⟨_, (Fr.refl _ _).drew⟩, rfl⟩) ?_; intro hTB)
            (refine tr_late hTB (⟨⟨_, (Fr.refl _ _).drew⟩, rfl⟩) 0 17 _ rfl (by decide) (by kernel_rfl) ?_; simp only [List.take_succ_cons, List.take_zero, List.drop_succ_cons, List.drop_zero]; (repeat (go_big_quiet_step (fail))); refine wpQuiet_nil ?_)
            clear qa qb qf q0 q1 qm qz m0 m1 m2 m3 m4 ea ef e0 e1 em ez
            (refine tr_eff [17, 21] _ rfl (by kernel_rfl) (by kernel_rfl) (List.forall_mem_cons.2 ⟨?_, List.forall_mem_cons.2 ⟨?_, fun _ h => nomatch h⟩⟩)) <;> (unfold TrE; simp only [List.take_succ_cons, List.take_zero, List.drop_succ_cons, List.drop_zero])
            · go_wp2_with (fail)
              refine (HQQ.out _ (Fr.refl _ _).drew).mono ?_
              intro e5 w5 R5
              obtain ⟨t1, a1, n1, c1, ev, rfl, hF5, hL5⟩ := R5.flat
              have hFx := (Fr.refl (fun _ => False) wr).drew.trans hF5
              have hFy := (hFx.alloc (.cells #[.int .i64 0, .slice none 0 0] 83))
              have hsz5 := hFx.size
              have hB := Blk.made w5 83 [.int .i64 0, .slice none 0 0]
              obtain ⟨hB2, hF2⟩ := putB2 hB (.int .i64 t1) (.slice a1 n1 c1)
              have hFz := hFy.trans' hF2 (fun i hi e => by have h2 : i = w5.heap.size := e; omega)
              have hL6 := hL5.fr0 ((Fr.refl (fun _ => False) w5).alloc (.cells #[.int .i64 t1, .slice a1 n1 c1] 83))
              have v0 := hB.frozen 0
              have v1 := hB.frozen 1
              have vl := hB.lt
              have HFX := Lib.hid hFx
              have HFY := Lib.hid hFy
              have HFZ := Lib.hid hFz
              have HB2 := Lib.hid hB2
              have HL6 := Lib.hid hL6
              have HFW := Lib.hid (hFx.alloc (.cells #[.int .i64 t1, .slice a1 n1 c1] 83))
              have HBW := Lib.hid (Blk.made w5 83 [.int .i64 t1, .slice a1 n1 c1])
              clear hF5 hFx hFy hFz hB hB2 hF2 R5 hL5 hL6
              go_wp2
              refine ⟨⟨⟨_, HFX.out⟩, rfl⟩, ?_⟩
              (refine tr_late hTB (⟨⟨_, (Fr.refl _ _).drew⟩, rfl⟩) 18 3 _ rfl (by decide) (by kernel_rfl) ?_; simp only [List.take_succ_cons, List.take_zero, List.drop_succ_cons, List.drop_zero]; (repeat (go_big_quiet_step (fail))); refine wpQuiet_nil ?_)
              (refine tr_eff [21] _ rfl (by kernel_rfl) (by kernel_rfl) (List.forall_mem_cons.2 ⟨?_, fun _ h => nomatch h⟩)) <;> (unfold TrE; simp only [List.take_succ_cons, List.take_zero, List.drop_succ_cons, List.drop_zero])
              go_wp2
              refine ⟨⟨⟨_, HFY.out⟩, rfl⟩, ?_⟩
              (refine tr_eff [22] _ rfl (by kernel_rfl) (by kernel_rfl) (List.forall_mem_cons.2 ⟨?_, fun _ h => nomatch h⟩)) <;> (unfold TrE; simp only [List.take_succ_cons, List.take_zero, List.drop_succ_cons, List.drop_zero])
              go_wp2
              refine ⟨⟨⟨_, HFW.out⟩, rfl⟩, ?_⟩
              refine tr_end (by kernel_rfl) ?_
              go_wp2
              go_meet
              exact ⟨w5.heap.size, t1, a1, n1, c1, ev, rfl, rfl, HFW.out, HBW.out, hsz5, HL6.out⟩
            · have hFa := ((Fr.refl (fun _ => False) wr).drew.alloc (.cells #[.int .i64 0, .slice none 0 0] 83))
              have hBa := Blk.made wr.drew 83 [.int .i64 0, .slice none 0 0]
              have hps : wr.drew.heap.size = wr.heap.size := by simp
              have hq := HQQ.out _ hFa
              rw [hps] at hBa
              go_wp2
              refine ⟨⟨⟨_, hFa⟩, rfl⟩, ?_⟩
              (refine tr_eff [17] _ rfl (by kernel_rfl) (by kernel_rfl) (List.forall_mem_cons.2 ⟨?_, fun _ h => nomatch h⟩)) <;> (unfold TrE; simp only [List.take_succ_cons, List.take_zero, List.drop_succ_cons, List.drop_zero])
              go_wp2_with (fail)
              refine hq.mono ?_
              intro e5 w5 R5
              obtain ⟨t1, a1, n1, c1, ev, rfl, hF5, hL5⟩ := R5.flat
              have hFx := hFa.trans hF5
              have hB5 := hBa.fr hF5 (fun h => h)
              have hLle := hL5.le (C := wr.heap.size + 1) (by simp)
              have v0 := hB5.frozen 0
              have v1 := hB5.frozen 1
              have vl := hB5.lt
              have u0 := hB5.cell 0
              have u1 := hB5.cell 1
              simp only [List.getElem?_cons_zero, List.getElem?_cons_succ] at u0 u1
              have HFX := Lib.hid hFx
              have HB5 := Lib.hid hB5
              have HL5 := Lib.hid hLle
              clear hF5 hFx hB5 R5 hL5 hLle hq hBa hFa
              go_wp2
              refine ⟨⟨⟨_, HFX.out⟩, rfl⟩, ?_⟩
              (refine tr_late hTB (⟨⟨_, (Fr.refl _ _).drew⟩, rfl⟩) 18 3 _ rfl (by decide) (by kernel_rfl) ?_; simp only [List.take_succ_cons, List.take_zero, List.drop_succ_cons, List.drop_zero]; (repeat (go_big_quiet_step (fail))); refine wpQuiet_nil ?_)
              (refine tr_eff [22] _ rfl (by kernel_rfl) (by kernel_rfl) (List.forall_mem_cons.2 ⟨?_, fun _ h => nomatch h⟩)) <;> (unfold TrE; simp only [List.take_succ_cons, List.take_zero, List.drop_succ_cons, List.drop_zero])
              have hS5 := putB2 HB5.out (.int .i64 t1) (.slice a1 n1 c1)
              have HS5 := Lib.hid hS5
              have HFZ := Lib.hid (HFX.out.trans' hS5.2 (fun i hi e => by have e : i = wr.heap.size := e; omega))
              have HL6 := Lib.hid ((HL5.out.frP hS5.2 (Nat.lt_succ_self _)).le (Nat.le_succ _))
              clear hS5
              go_wp2
              refine ⟨⟨⟨_, HFZ.out⟩, rfl⟩, ?_⟩
              refine tr_end (by kernel_rfl) ?_
              go_wp2
              go_meet
              exact ⟨wr.heap.size, t1, a1, n1, c1, ev, rfl, rfl, HFZ.out, HS5.out.1, Nat.le_refl _, HL6.out⟩
          case rest =>
            obtain ⟨p, t1, a1, n1, c1, ev, rfl, rfl, hFc, hBp, hpl, hLr⟩ := hcut
            generalize wc = wx at *
            clear m0 m1 m2 m3 m4 ea ef e0 e1 em ez
            have hIx := hI.fr0 hFc
            obtain ⟨ea, ef, e0, e1, em, ez⟩ := hb.out wx hIx.fr
            have hgx := hg.none hIx.fr
            have hcall := HLL.out wx.drew (hFc.trans (Fr.refl _ _).drew)
            have hbp0 := hBp.cell 0
            have hbp1 := hBp.cell 1
            have hbpl := hBp.lt
            simp only [List.getElem?_cons_zero, List.getElem?_cons_succ] at hbp0 hbp1
            have hga' := Nat.lt_of_lt_of_le hga hIx.fr.size
            have hgf' := Nat.lt_of_lt_of_le hgf hIx.fr.size
            have hgn' := Nat.lt_of_lt_of_le hgn hIx.fr.size
            have hgm' := Nat.lt_of_lt_of_le hgm hIx.fr.size
            have hgz' := Nat.lt_of_lt_of_le hgz hIx.fr.size
            go_wp2
            (refine wp_region_mix (fun w' => True) 19 (by kernel_rfl) (by kernel_rfl) (trivial) ?_; simp only [List.take_succ_cons, List.take_zero, List.drop_succ_cons, List.drop_zero])
            (refine wpMix_earlyN 17 (by kernel_rfl) (by kernel_rfl) ?_; simp only [List.take_succ_cons, List.take_zero, List.drop_succ_cons, List.drop_zero]; (repeat (go_big_quiet_step (fail))); refine wpQuiet_nil ?_)
            refine wpMix_eff (by kernel_rfl) ?_
            go_wp2_with (fail)
            refine hcall.mono ?_
            intro e6 w6 R6
            have hdw : Fr (fun _ => False) wx wx.drew := (Fr.refl _ _).drew
            rcases hLr with ⟨q, rfl, rfl⟩ | ⟨l', rfl, rfl, rfl, rfl, hRc, hNb⟩
            · obtain ⟨rfl, hF6⟩ := R6
              have hI6 := Lib.hid (hIx.fr0 (hdw.trans hF6))
              have herr := fun W (f : Fr (fun _ => False) w6 W) => error_any (some ev) ev W ((hgx.none (hdw.trans hF6)).none f)
              rw [show errT (some ev) = errv ev from rfl, show (errN (some ev) == ev) = true by simp [errN]] at herr
              have hne : (ev == 0) = false := by have := HQ0.out ev rfl; simpa using this
              clear hcall hF6 hdw ea ef e0 e1 em ez hIx
              go_wp2
              (refine wpMix_lateN 1 (trivial) (by kernel_rfl) ?_; simp only [List.take_succ_cons, List.take_zero, List.drop_succ_cons, List.drop_zero]; (repeat (go_big_quiet_step (fail))); refine wpQuiet_nil ?_)
              refine wpMix_nil ?_
              go_wp2_with (fail)
              refine (herr _ (Fr.refl _ _)).mono ?_
              rintro e7 w7 ⟨rfl, hF7⟩
              have hI7 := Lib.hid (hI6.out.fr0 hF7)
              clear herr hF7
              go_wp2
              go_meet
              exact ⟨rfl, now, l, ad, cd, hI7.out⟩
            · obtain ⟨rfl, hR6, hF6⟩ := R6
              have hFx6 := hdw.none (fun k => k = w0.heap.size) |>.trans hF6
              have hold := hI.old
              have hB6 := hBp.fr hFx6 (fun e => by have e : p = w0.heap.size := e; omega)
              have hRc6 := hRc.fr hFx6 (fun b off e hh => by have h1 := hNb b off e; have hh : b = w0.heap.size := hh; omega)
              have herr := fun W (f : Fr (fun _ => False) w6 W) => error_any none 0 W ((hgx.fr hFx6 (fun e => by have h1 := hg.lt; have e : 1 = w0.heap.size := e; omega)).none f)
              rw [show errT none = .nilIface from rfl, show (errN none == 0) = true by rfl] at herr
              clear hcall hdw ea ef e0 e1 em ez hBp hRc
              go_wp2
              (refine wpMix_lateN 1 (trivial) (by kernel_rfl) ?_; simp only [List.take_succ_cons, List.take_zero, List.drop_succ_cons, List.drop_zero]; (repeat (go_big_quiet_step (fail))); refine wpQuiet_nil ?_)
              refine wpMix_nil ?_
              go_wp2_with (fail)
              refine (herr _ (Fr.refl _ _)).mono ?_
              rintro e7 w7 ⟨rfl, hF7⟩
              have hB7 := hB6.fr hF7 (fun h => h)
              have b0 := hB7.cell 0
              have b1 := hB7.cell 1
              have bl7 := hB7.lt
              simp only [List.getElem?_cons_zero, List.getElem?_cons_succ] at b0 b1
              have hF67 := hFx6.trans (hF7.none _)
              have hBm := hIx.blk.fr hF67 (fun e => by have e : w0.heap.size + 1 = w0.heap.size := e; omega)
              have f0 := hBm.frozen 0
              have f1 := hBm.frozen 1
              have c0 := hBm.cell 0
              have c1' := hBm.cell 1
              have bml := hBm.lt
              simp only [List.getElem?_cons_zero, List.getElem?_cons_succ] at c0 c1'
              have hput := Lib.hid (hIx.put (cm' := c1) (hR6.fr0 hF7) (HOK.out l' rfl) hF67 (hRc6.fr hF7 (fun _ _ _ h => h)) (fun b off e => by have := hNb b off e; omega))
              clear herr hF7 hB6 hR6 hF6 hFx6 hRc6 hB7 hF67 hBm hbp0 hbp1 hIx
              go_wp2
              go_meet
              exact ⟨rfl, t1, l', a1, c1, hput.out⟩
        · have eac : (ac == 0) = false := by simp [hac0]
          clear hac0
          by_cases hac1 : ac = 1
          · have eac1 : (ac == 1) = true := by simp [hac1]
            clear hac1
            have htf := fun W => timeFault_any now f z ad l.length cd W
            obtain ⟨hb6, -⟩ : True ∧ True := ⟨trivial, trivial⟩
            go_wp2
            (refine wp_region_mix (fun _ => True) 9 (by kernel_rfl) (by kernel_rfl) (trivial) ?_; simp only [List.take_succ_cons, List.take_zero, List.drop_succ_cons, List.drop_zero])
            (refine wpMix_earlyN 9 (by kernel_rfl) (by kernel_rfl) ?_; simp only [List.take_succ_cons, List.take_zero, List.drop_succ_cons, List.drop_zero]; (repeat (go_big_quiet_step (fail))); refine wpQuiet_nil ?_)
            refine wpMix_nil ?_
            go_wp2_with (fail)
            refine (htf _).mono ?_
            rintro e6 w6 ⟨rfl, hF6⟩
            have hFw6 : Fr (fun _ => False) wr w6 := (Fr.refl (fun _ => False) wr).drew.trans hF6
            have hI6 := hI.fr0 hFw6
            clear htf hF6 m0 m1 m2 m3 m4 ea ef e0 e1 em ez hb6
            obtain ⟨ea, ef, e0, e1, em, ez⟩ := hb.out w6 hI6.fr
            obtain ⟨m0, m1, m2, m3, m4⟩ := hI6.cells
            have hg6 := hg.none hI6.fr
            have hga' := Nat.lt_of_lt_of_le hga hI6.fr.size
            have hgf' := Nat.lt_of_lt_of_le hgf hI6.fr.size
            have hgz' := Nat.lt_of_lt_of_le hgz hI6.fr.size
            have hcall : ∀ W : World, Fr (fun _ => False) w6 W → Calls Tryd.prog 45 #[.pointer (some ⟨w0.heap.size, 0, none⟩), .int .i64 f, .int .i64 z] W (RibPost W (w0.heap.size + 2) w0.heap.size (if ckErr now f z then .error 1 else .ok (rLost f z l)) z) := fun W fr => lose_any W (hI6.fr0 fr).rib hI6.ok (Nat.le_trans hI6.size fr.size) f z
            by_cases hck : ckErr now f z
            · rw [if_pos hck] at hcall
              rw [show numO (ckO now f z) = 1 by unfold ckO; rw [if_pos hck]; rfl]
              have HC := Lib.hid hcall
              clear hck hcall
              go_wp2
              (refine wp_region_mix (fun w' => True) 11 (by kernel_rfl) (by kernel_rfl) (trivial) ?_; simp only [List.take_succ_cons, List.take_zero, List.drop_succ_cons, List.drop_zero])
              (refine wpMix_earlyN 9 (by kernel_rfl) (by kernel_rfl) ?_; simp only [List.take_succ_cons, List.take_zero, List.drop_succ_cons, List.drop_zero]; (repeat (go_big_quiet_step (fail))); refine wpQuiet_nil ?_)
              refine wpMix_eff (by kernel_rfl) ?_
              go_wp2_with (fail)
              refine (HC.out _ (Fr.refl _ _).drew).mono ?_
              intro e8 w8 R8
              have hdw : Fr (fun _ => False) w6 w6.drew := (Fr.refl _ _).drew
              obtain ⟨rfl, hF8⟩ := R8
              have hI8 := Lib.hid (hI6.fr0 (hdw.trans hF8))
              have herr := error_any (some 1) 1 w8 (hg6.none (hdw.trans hF8))
              rw [show errT (some 1) = errv 1 from rfl, show (errN (some 1) == 1) = true by rfl] at herr
              clear hF8 hdw ea ef e0 e1 em ez hI6
              go_wp2
              (refine wpMix_lateN 1 (trivial) (by kernel_rfl) ?_; simp only [List.take_succ_cons, List.take_zero, List.drop_succ_cons, List.drop_zero]; (repeat (go_big_quiet_step (fail))); refine wpQuiet_nil ?_)
              refine wpMix_nil ?_
              go_wp2_with (fail)
              refine herr.mono ?_
              rintro e9 w9 ⟨rfl, hF9⟩
              have hI9 := Lib.hid (hI8.out.fr0 hF9)
              clear herr hF9
              go_wp2
              go_meet
              exact ⟨rfl, now, l, ad, cd, hI9.out⟩
            · obtain ⟨t1, t2⟩ : now ≤ z ∧ z ≤ 1099511627776 := by unfold ckErr at hck; omega
              have hok := lose_ok (f := f) hI6.ok t1 t2
              rw [if_neg hck] at hcall
              rw [show numO (ckO now f z) = 0 by unfold ckO; rw [if_neg hck]; rfl]
              have HC := Lib.hid hcall
              clear hck hcall
              go_wp2
              (refine wp_region_mix (fun w' => True) 11 (by kernel_rfl) (by kernel_rfl) (trivial) ?_; simp only [List.take_succ_cons, List.take_zero, List.drop_succ_cons, List.drop_zero])
              (refine wpMix_earlyN 9 (by kernel_rfl) (by kernel_rfl) ?_; simp only [List.take_succ_cons, List.take_zero, List.drop_succ_cons, List.drop_zero]; (repeat (go_big_quiet_step (fail))); refine wpQuiet_nil ?_)
              refine wpMix_eff (by kernel_rfl) ?_
              go_wp2_with (fail)
              refine (HC.out _ (Fr.refl _ _).drew).mono ?_
              intro e8 w8 R8
              have hdw : Fr (fun _ => False) w6 w6.drew := (Fr.refl _ _).drew
              obtain ⟨rfl, hR8, hF8⟩ := R8
              have hF68 : Fr (fun k => k = w0.heap.size) w6 w8 := (hdw.none _).trans hF8
              have herr := error_any none 0 w8 (hg6.fr hF68 (fun e => by have h1 := hg.lt; have h2 := hI6.old; have e : 1 = w0.heap.size := e; omega))
              rw [show errT none = .nilIface from rfl, show (errN none == 0) = true by rfl] at herr
              clear hF8 hdw ea ef e0 e1 em ez
              go_wp2
              (refine wpMix_lateN 1 (trivial) (by kernel_rfl) ?_; simp only [List.take_succ_cons, List.take_zero, List.drop_succ_cons, List.drop_zero]; (repeat (go_big_quiet_step (fail))); refine wpQuiet_nil ?_)
              refine wpMix_nil ?_
              go_wp2_with (fail)
              refine herr.mono ?_
              rintro e9 w9 ⟨rfl, hF9⟩
              have hF69 := hF68.trans (hF9.none _)
              have hold := hI6.old
              have hFw9 : Fr (fun _ => False) w w9 := hI6.fr.trans' hF69 (fun i hi e => by have e : i = w0.heap.size := e; omega)
              clear m0 m1 m2 m3 m4 hga' hgf' hgz'
              obtain ⟨ea, ef, e0, e1, em, ez⟩ := hb.out w9 hFw9
              have hBm := hI6.blk.fr hF69 (fun e => by have e : w0.heap.size + 1 = w0.heap.size := e; omega)
              have m0 := hBm.cell 0
              have m1 := hBm.cell 1
              have m4 := hBm.lt
              have hga' := Nat.lt_of_lt_of_le hga hFw9.size
              have hgf' := Nat.lt_of_lt_of_le hgf hFw9.size
              have hgz' := Nat.lt_of_lt_of_le hgz hFw9.size
              simp only [List.getElem?_cons_zero, List.getElem?_cons_succ] at m0 m1
              have hRc := hI6.rd.fr hF69 (fun b off e hh => by have h1 := hI6.new b off e; have hh : b = w0.heap.size := hh; omega)
              have hRR := hR8.fr0 hF9
              have hq := qlost_any l ad cd now f z w9.drew (hRc.fr (S := fun _ => False) (Fr.refl _ _).drew (fun _ _ _ h => h)) hI6.ok t1 t2
              clear herr hF68 hF9 hR8 hRc
              go_wp2
              (refine wp_region_mix (fun _ => True) 9 (by kernel_rfl) (by kernel_rfl) (trivial) ?_; simp only [List.take_succ_cons, List.take_zero, List.drop_succ_cons, List.drop_zero])
              (refine wpMix_earlyN 9 (by kernel_rfl) (by kernel_rfl) ?_; simp only [List.take_succ_cons, List.take_zero, List.drop_succ_cons, List.drop_zero]; (repeat (go_big_quiet_step (fail))); refine wpQuiet_nil ?_)
              refine wpMix_nil ?_
              go_wp2_with (fail)
              refine hq.mono ?_
              rintro e10 w10 ⟨aq, cq, oq, rfl, hOq, hFq, hNq⟩
              have hF910 : Fr (fun _ => False) w9 w10 := (Fr.refl (fun _ => False) w9).drew.trans hFq
              have hBm10 := hBm.fr hF910 (fun h => h)
              have f0 := hBm10.frozen 0
              have f1 := hBm10.frozen 1
              have c0 := hBm10.cell 0
              have c1' := hBm10.cell 1
              have bml := hBm10.lt
              simp only [List.getElem?_cons_zero, List.getElem?_cons_succ] at c0 c1'
              have hput := Lib.hid (hI6.put (cm' := cq) (hRR.fr0 hF910) hok (hF69.trans (hF910.none _)) hOq.rd (own_new hOq (fun g hg' => by have := hNq g hg'; simp at this; have := hI6.size; have := hF69.size; omega)))
              clear hq hOq hFq hNq hRR hF910 hBm hBm10 hF69 ea ef e0 e1 em ez m0 m1 m4
              go_wp2
              go_meet
              exact ⟨rfl, z, rLost f z l, aq, cq, hput.out⟩
          · have eac1 : (ac == 1) = false := by simp [hac1]
            clear hac1
            have htf := fun W => timeFault_any now 0 z ad l.length cd W
            obtain ⟨hb6, -⟩ : True ∧ True := ⟨trivial, trivial⟩
            go_wp2
            (refine wp_region_mix (fun _ => True) 5 (by kernel_rfl) (by kernel_rfl) (trivial) ?_; simp only [List.take_succ_cons, List.take_zero, List.drop_succ_cons, List.drop_zero])
            (refine wpMix_earlyN 5 (by kernel_rfl) (by kernel_rfl) ?_; simp only [List.take_succ_cons, List.take_zero, List.drop_succ_cons, List.drop_zero]; (repeat (go_big_quiet_step (fail))); refine wpQuiet_nil ?_)
            refine wpMix_nil ?_
            go_wp2_with (fail)
            refine (htf _).mono ?_
            rintro e6 w6 ⟨rfl, hF6⟩
            have hFw6 : Fr (fun _ => False) wr w6 := (Fr.refl (fun _ => False) wr).drew.trans hF6
            have hI6 := hI.fr0 hFw6
            clear htf hF6 m0 m1 m2 m3 m4 ea ef e0 e1 em ez hb6
            obtain ⟨ea, ef, e0, e1, em, ez⟩ := hb.out w6 hI6.fr
            obtain ⟨m0, m1, m2, m3, m4⟩ := hI6.cells
            have hg6 := hg.none hI6.fr
            have hga' := Nat.lt_of_lt_of_le hga hI6.fr.size
            have hgf' := Nat.lt_of_lt_of_le hgf hI6.fr.size
            have hgz' := Nat.lt_of_lt_of_le hgz hI6.fr.size
            have hcall : ∀ W : World, Fr (fun _ => False) w6 W → Calls Tryd.prog 47 #[.pointer (some ⟨w0.heap.size, 0, none⟩), .int .i64 z] W (RibPost W (w0.heap.size + 2) w0.heap.size (if ckErr now 0 z then .error 1 else .ok (rAged z l)) z) := fun W fr => age_any W (hI6.fr0 fr).rib hI6.ok (Nat.le_trans hI6.size fr.size) z
            by_cases hck : ckErr now 0 z
            · rw [if_pos hck] at hcall
              rw [show numO (ckO now 0 z) = 1 by unfold ckO; rw [if_pos hck]; rfl]
              have HC := Lib.hid hcall
              clear hck hcall
              go_wp2_with (fail)
              refine (HC.out _ (Fr.refl _ _)).mono ?_
              intro e8 w8 R8
              have hdw : Fr (fun _ => False) w6 w6 := Fr.refl _ _
              obtain ⟨rfl, hF8⟩ := R8
              have hI8 := Lib.hid (hI6.fr0 (hdw.trans hF8))
              have herr := error_any (some 1) 1 w8 (hg6.none (hdw.trans hF8))
              rw [show errT (some 1) = errv 1 from rfl, show (errN (some 1) == 1) = true by rfl] at herr
              clear hF8 hdw ea ef e0 e1 em ez hI6
              go_wp2_with (fail)
              refine herr.mono ?_
              rintro e9 w9 ⟨rfl, hF9⟩
              have hI9 := Lib.hid (hI8.out.fr0 hF9)
              clear herr hF9
              go_wp2
              go_meet
              exact ⟨rfl, now, l, ad, cd, hI9.out⟩
            · obtain ⟨t1, t2⟩ : now ≤ z ∧ z ≤ 1099511627776 := by unfold ckErr at hck; omega
              have hok := rAged_ok hI6.ok t1 t2
              rw [if_neg hck] at hcall
              rw [show numO (ckO now 0 z) = 0 by unfold ckO; rw [if_neg hck]; rfl]
              have HC := Lib.hid hcall
              clear hck hcall
              go_wp2_with (fail)
              refine (HC.out _ (Fr.refl _ _)).mono ?_
              intro e8 w8 R8
              have hdw : Fr (fun _ => False) w6 w6 := Fr.refl _ _
              obtain ⟨rfl, hR8, hF8⟩ := R8
              have hF68 : Fr (fun k => k = w0.heap.size) w6 w8 := (hdw.none _).trans hF8
              have herr := error_any none 0 w8 (hg6.fr hF68 (fun e => by have h1 := hg.lt; have h2 := hI6.old; have e : 1 = w0.heap.size := e; omega))
              rw [show errT none = .nilIface from rfl, show (errN none == 0) = true by rfl] at herr
              clear hF8 hdw ea ef e0 e1 em ez
              go_wp2_with (fail)
              refine herr.mono ?_
              rintro e9 w9 ⟨rfl, hF9⟩
              have hF69 := hF68.trans (hF9.none _)
              have hold := hI6.old
              have hFw9 : Fr (fun _ => False) w w9 := hI6.fr.trans' hF69 (fun i hi e => by have e : i = w0.heap.size := e; omega)
              clear m0 m1 m2 m3 m4 hga' hgf' hgz'
              obtain ⟨ea, ef, e0, e1, em, ez⟩ := hb.out w9 hFw9
              have hBm := hI6.blk.fr hF69 (fun e => by have e : w0.heap.size + 1 = w0.heap.size := e; omega)
              have m0 := hBm.cell 0
              have m1 := hBm.cell 1
              have m4 := hBm.lt
              have hga' := Nat.lt_of_lt_of_le hga hFw9.size
              have hgf' := Nat.lt_of_lt_of_le hgf hFw9.size
              have hgz' := Nat.lt_of_lt_of_le hgz hFw9.size
              simp only [List.getElem?_cons_zero, List.getElem?_cons_succ] at m0 m1
              have hRc := hI6.rd.fr hF69 (fun b off e hh => by have h1 := hI6.new b off e; have hh : b = w0.heap.size := hh; omega)
              have hRR := hR8.fr0 hF9
              have hq := qaged_any l ad cd now z w9.drew (hRc.fr (S := fun _ => False) (Fr.refl _ _).drew (fun _ _ _ h => h)) hI6.ok t1 t2
              clear herr hF68 hF9 hR8 hRc
              go_wp2
              (refine wp_region_mix (fun _ => True) 5 (by kernel_rfl) (by kernel_rfl) (trivial) ?_; simp only [List.take_succ_cons, List.take_zero, List.drop_succ_cons, List.drop_zero])
              (refine wpMix_earlyN 5 (by kernel_rfl) (by kernel_rfl) ?_; simp only [List.take_succ_cons, List.take_zero, List.drop_succ_cons, List.drop_zero]; (repeat (go_big_quiet_step (fail))); refine wpQuiet_nil ?_)
              refine wpMix_nil ?_
              go_wp2_with (fail)
              refine hq.mono ?_
              rintro e10 w10 ⟨aq, cq, oq, rfl, hOq, hFq, hNq⟩
              have hF910 : Fr (fun _ => False) w9 w10 := (Fr.refl (fun _ => False) w9).drew.trans hFq
              have hBm10 := hBm.fr hF910 (fun h => h)
              have f0 := hBm10.frozen 0
              have f1 := hBm10.frozen 1
              have c0 := hBm10.cell 0
              have c1' := hBm10.cell 1
              have bml := hBm10.lt
              simp only [List.getElem?_cons_zero, List.getElem?_cons_succ] at c0 c1'
              have hput := Lib.hid (hI6.put (cm' := cq) (hRR.fr0 hF910) hok (hF69.trans (hF910.none _)) hOq.rd (own_new hOq (fun g hg' => by have := hNq g hg'; simp at this; have := hI6.size; have := hF69.size; omega)))
              clear hq hOq hFq hNq hRR hF910 hBm hBm10 hF69 ea ef e0 e1 em ez m0 m1 m4
              go_wp2
              go_meet
              exact ⟨rfl, z, rAged z l, aq, cq, hput.out⟩
      case rest =>
        obtain ⟨rfl, now, l, am, cm, hI⟩ := hcut
        clear m0 m1 m2 m3 m4 ea ef e0 e1 em ez
        generalize wc = wx at *
        have hll := hI.ok.len
        have hli := ribList_any wx.drew (hI.fr0 (Fr.refl _ _).drew).rib hll
        have qa := fun c : Cls (fun _ => False) wx => (hI.fr0 c.fr).cells.1
        have qb := fun c : Cls (fun _ => False) wx => (hI.fr0 c.fr).cells.2.1
        obtain ⟨m0, m1, -, -, m4⟩ := hI.cells
        go_wp2
        (refine wp_region_mix (fun w' => ∃ c : Cls (fun _ => False) wx, w' = c.wo) 3 (by kernel_rfl) (by kernel_rfl) (⟨⟨_, (Fr.refl _ _).drew⟩, rfl⟩) ?_; simp only [List.take_succ_cons, List.take_zero, List.drop_succ_cons, List.drop_zero])
        (refine wpMix_earlyN 1 (by kernel_rfl) (by kernel_rfl) ?_; simp only [List.take_succ_cons, List.take_zero, List.drop_succ_cons, List.drop_zero]; (repeat (go_big_quiet_step (fail))); refine wpQuiet_nil ?_)
        refine wpMix_eff (by kernel_rfl) ?_
        go_wp2_with (fail)
        refine hli.mono ?_
        rintro e5 w5 ⟨a5, c5, o5, rfl, hO5, hF5, -⟩
        have hF05 : Fr (fun _ => False) wx w5 := (Fr.refl (fun _ => False) wx).drew.trans hF5
        have hI5 := hI.fr0 hF05
        have hqh := qheards_any l am cm now w5 hI5.rd hll
        have hr5 := rdHd hO5 rfl
        clear hli hO5 hF5
        go_wp2
        refine ⟨⟨⟨_, hF05⟩, rfl⟩, ?_⟩
        (refine wpMix_lateN 1 (⟨⟨_, (Fr.refl _ _).drew⟩, rfl⟩) (by kernel_rfl) ?_; simp only [List.take_succ_cons, List.take_zero, List.drop_succ_cons, List.drop_zero]; (repeat (go_big_quiet_step (fail))); refine wpQuiet_nil ?_)
        refine wpMix_nil ?_
        go_wp2_with (fail)
        refine hqh.mono ?_
        rintro e6 w6 ⟨a6, c6, o6, rfl, hO6, hF6, -⟩
        have hI6 := hI5.fr0 hF6
        have hr6 := rdHd hO6 rfl
        have hr56 := hr5.fr hF6 (fun _ _ _ h => h)
        have hsh := sheard_any (l.map Td.hd) (l.map Td.hd) a5 a6 c5 c6 w6 hr56 hr6 (by rw [List.length_map]; omega) (by rw [List.length_map]; omega) (by rw [List.length_map]) (by rw [List.length_map])
        rw [decide_eq_true rfl] at hsh
        clear hqh hO6 hF6 hI5 hr5 hr6 hr56 qa qb hF05 m0 m1 m4
        go_wp2_with (fail)
        refine hsh.mono ?_
        intro e7 w7 R7
        obtain ⟨rfl, hF7⟩ := R7.v
        have hI7 := hI6.fr0 hF7
        obtain ⟨m0, m1, -, -, m4⟩ := hI7.cells
        have hnw := ribNow_any w7.drew (hI7.fr0 (Fr.refl _ _).drew).rib
        have qa := fun c : Cls (fun _ => False) w7 => (hI7.fr0 c.fr).cells.1
        clear hsh R7 hF7 hI6
        go_wp2
        (refine wp_region_mix (fun w' => ∃ c : Cls (fun _ => False) w7, w' = c.wo) 11 (by kernel_rfl) (by kernel_rfl) (⟨⟨_, (Fr.refl _ _).drew⟩, rfl⟩) ?_; simp only [List.take_succ_cons, List.take_zero, List.drop_succ_cons, List.drop_zero])
        (refine wpMix_earlyN 8 (by kernel_rfl) (by kernel_rfl) ?_; simp only [List.take_succ_cons, List.take_zero, List.drop_succ_cons, List.drop_zero]; (repeat (go_big_quiet_step (fail))); refine wpQuiet_nil ?_)
        refine wpMix_eff (by kernel_rfl) ?_
        go_wp2_with (fail)
        refine hnw.mono ?_
        rintro e8 w8 ⟨rfl, rfl⟩
        clear hnw
        go_wp2
        refine ⟨⟨⟨_, (Fr.refl _ _).drew⟩, rfl⟩, ?_⟩
        (refine wpMix_lateN 2 (⟨⟨_, (Fr.refl _ _).drew⟩, rfl⟩) (by kernel_rfl) ?_; simp only [List.take_succ_cons, List.take_zero, List.drop_succ_cons, List.drop_zero]; (repeat (go_big_quiet_step (fail))); refine wpQuiet_nil ?_)
        refine wpMix_nil ?_
        have hI8 := Lib.hid (hI7.fr0 (Fr.refl (fun _ => False) w7).drew)
        clear qa m0 m1 m4
        go_wp2
        go_roundw
        case rel => exact ⟨k + 1, now, l, am, cm, by omega, by go_num, hI8.out⟩
        case measure => simp [intOf]; omega
    · have hFe := hI.fr
      have q : ¬ k < acs.length ∨ (k < acs.length ∧ ¬ k < fs.length) ∨ (k < acs.length ∧ k < fs.length ∧ ¬ k < ns.length) ∨ (k < acs.length ∧ k < fs.length ∧ k < ns.length ∧ ¬ k < ms.length) ∨ (k < acs.length ∧ k < fs.length ∧ k < ns.length ∧ k < ms.length ∧ ¬ k < zs.length) := by omega
      clear hgo hI
      rcases q with q | ⟨q, q2⟩ | ⟨q, q2, q3⟩ | ⟨q, q2, q3, q4⟩ | ⟨q, q2, q3, q4, q5⟩
      all_goals
        go_wp2
        go_ret
        exact RetV.mk rfl rfl hFe
end Go.Proofs.YtfjempfffdeklaaDoor
