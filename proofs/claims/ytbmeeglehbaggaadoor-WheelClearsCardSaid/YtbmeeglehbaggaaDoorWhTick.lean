import Derived.Test.YtbmeeglehbaggaaDoorWhF
import Derived.Test.YtbmeeglehbaggaaDoorSortDue
import Derived.Test.YtbmeeglehbaggaaDoorSl
import Derived.Laws.IdiomRangeMap
namespace Go.Proofs.YtbmeeglehbaggaaDoor
open Go.RowKit Go.Maps

/-! Tick: what is due, gathered slot by slot. -/
structure GotD (E : Tms) (now : Int) (Dn : Int → Int → Prop) (l : List Due) : Prop where
  out : ∀ d ∈ l, E d.i = some d.t ∧ d.t ≤ now ∧ Dn d.i d.t
  got : ∀ i a, E i = some a → a ≤ now → Dn i a → ∃ d ∈ l, d.p = (a, i)
  nd : (l.map Due.p).Nodup
namespace GotD
variable {E : Tms} {now : Int} {Dn Dn' : Int → Int → Prop} {l : List Due}
theorem nil (h : ∀ i a, E i = some a → a ≤ now → ¬ Dn i a) : GotD E now Dn [] := ⟨(fun _ h => nomatch h), fun i a h1 h2 h3 => absurd h3 (h i a h1 h2), List.Pairwise.nil⟩
theorem congr (h : GotD E now Dn l) (hD : ∀ i a, E i = some a → a ≤ now → (Dn i a ↔ Dn' i a)) : GotD E now Dn' l :=
  ⟨fun d hd => ⟨(h.out d hd).1, (h.out d hd).2.1, (hD _ _ (h.out d hd).1 (h.out d hd).2.1).1 (h.out d hd).2.2⟩, fun i a h1 h2 h3 => h.got i a h1 h2 ((hD i a h1 h2).2 h3), h.nd⟩
theorem add (h : GotD E now Dn l) {d : Due} (hE : E d.i = some d.t) (hn : d.t ≤ now) (hd : ¬ Dn d.i d.t) (hD : ∀ i a, E i = some a → a ≤ now → (Dn' i a ↔ Dn i a ∨ i = d.i)) : GotD E now Dn' (l ++ [d]) := by
  refine ⟨fun x hx => ?_, fun i a h1 h2 h3 => ?_, ?_⟩
  · rcases List.mem_append.1 hx with hx | hx
    · obtain ⟨q1, q2, q3⟩ := h.out x hx
      exact ⟨q1, q2, (hD _ _ q1 q2).2 (.inl q3)⟩
    · obtain rfl := List.mem_singleton.1 hx
      exact ⟨hE, hn, (hD _ _ hE hn).2 (.inr rfl)⟩
  · rcases (hD i a h1 h2).1 h3 with q | rfl
    · obtain ⟨x, hx, e⟩ := h.got i a h1 h2 q
      exact ⟨x, by simp [hx], e⟩
    · rw [hE] at h1
      cases h1
      exact ⟨d, by simp, rfl⟩
  · rw [List.map_append, List.nodup_append]
    refine ⟨h.nd, by simp, fun x hx y hy e => ?_⟩
    obtain ⟨z, hz, rfl⟩ := List.mem_map.1 hx
    simp only [List.map_cons, List.map_nil, List.mem_singleton] at hy
    rw [hy] at e
    have := Due.p_inj e
    subst this
    exact hd (h.out z hz).2.2
theorem ids (h : GotD E now Dn l) : (l.map Due.i).Nodup := by
  have hp := h.nd
  unfold List.Nodup at hp ⊢
  rw [List.pairwise_map] at hp ⊢
  refine List.Pairwise.imp_of_mem (fun {x y} hx hy hne e => hne ?_) hp
  have h1 := (h.out x hx).1
  have h2 := (h.out y hy).1
  rw [e, h2] at h1
  have := Option.some.inj h1
  unfold Due.p
  rw [this, e]
theorem len (h : GotD E now Dn l) : l.length ≤ 64 := by
  have := len64 h.ids (fun x hx => by
    obtain ⟨d, -, rfl⟩ := List.mem_map.1 hx
    exact d.hi)
  simpa using this
end GotD
def slotsDn (t0 t : Nat) (_ a : Int) : Prop := ∃ s : Nat, t0 ≤ s ∧ s < t ∧ a.toNat % 64 = s % 64
def restDn (t0 t : Nat) (rest : List (Int × Value)) (i a : Int) : Prop := slotsDn t0 t i a ∨ (a.toNat % 64 = t % 64 ∧ ∀ p ∈ rest, p.1 ≠ i)
theorem slotsDn_succ {t0 t : Nat} (h : t0 ≤ t) (i a : Int) : slotsDn t0 (t + 1) i a ↔ slotsDn t0 t i a ∨ a.toNat % 64 = t % 64 := by
  constructor
  · rintro ⟨s, h1, h2, h3⟩
    by_cases e : s = t
    · subst e; exact .inr h3
    · exact .inl ⟨s, h1, by omega, h3⟩
  · rintro (⟨s, h1, h2, h3⟩ | h3)
    · exact ⟨s, h1, by omega, h3⟩
    · exact ⟨t, h, by omega, h3⟩
theorem slotsDn_not {t0 t : Nat} (h : t < t0 + 64) {i a : Int} (ha : a.toNat % 64 = t % 64) : ¬ slotsDn t0 t i a := by
  rintro ⟨s, h1, h2, h3⟩
  omega
theorem slotsDn_all {n : Nat} {i a : Int} (h1 : 1 ≤ a) (h2 : a ≤ (n : Int)) : slotsDn (n - 63) (n + 1) i a := by
  by_cases h : n - 63 ≤ a.toNat
  · exact ⟨a.toNat, h, by omega, rfl⟩
  · refine ⟨(n - 63) + (a.toNat + 64 - (n - 63) % 64) % 64, by omega, by omega, by omega⟩
/-- Those with a time, but for some. -/
def remF (E : Tms) (L : List Due) : Tms := fun i => if i ∈ L.map Due.i then none else E i
theorem remF_snoc (E : Tms) (L : List Due) (d : Due) (i : Int) : clrF (remF E L) d.i i = remF E (L ++ [d]) i := by
  unfold clrF remF
  by_cases h : i = d.i
  · subst h; simp
  · rw [if_neg h]
    simp [h]
theorem IsWh.setNow {w : World} {base bw : Nat} {now : Int} {E : Tms} {ab : Nat} {A : List (Int × Value)} {sb : Nat → Option Nat} {S : Nat → List (Int × Value)} (h : IsWh w base bw now E ab A sb S) (now' : Int) : IsWh (w.setCell ⟨bw, 0, none⟩ (.int .i64 now')) base bw now' E ab A sb S := by
  have hF : Fr (fun k => k = bw) w (w.setCell ⟨bw, 0, none⟩ (.int .i64 now')) := (Fr.refl (fun k => k = bw) _).setCell (p := ⟨bw, 0, none⟩) (fun _ => rfl) _
  exact ⟨h.blk.set 0 _, h.am.fr hF h.nab, h.ag, fun j hj b hb => (h.sm j hj b hb).fr hF (h.nb j b hj hb), h.sn, h.sg, h.inj, h.na, h.nb, h.nab, h.lo, h.ids⟩
theorem aft_eq {E : Tms} {now : Int} {Dn : Int → Int → Prop} {l m : List Due} (h : GotD E now Dn l) (hm : ∀ x, x ∈ m ↔ x ∈ l) (hall : ∀ i a, E i = some a → a ≤ now → Dn i a) (i : Int) : aftF E now i = remF E m i := by
  unfold aftF remF
  cases hE : E i with
  | none => simp
  | some a =>
    by_cases ha : a ≤ now
    · obtain ⟨d, hd, e⟩ := h.got i a hE ha (hall i a hE ha)
      have hi : i ∈ m.map Due.i := List.mem_map.2 ⟨d, (hm d).2 hd, congrArg Prod.snd e⟩
      simp [ha, hi]
    · have hi : i ∉ m.map Due.i := fun hh => by
        obtain ⟨d, hd, rfl⟩ := List.mem_map.1 hh
        obtain ⟨q1, q2, -⟩ := h.out d ((hm d).1 hd)
        rw [hE] at q1
        cases q1
        exact ha q2
      simp [ha, hi]
theorem dueIs_of {E : Tms} {now : Int} {Dn : Int → Int → Prop} {l m : List Due} (h : GotD E now Dn l) (hm : ∀ x, x ∈ m ↔ x ∈ l) (hs : TSorted (m.map Due.p)) (hall : ∀ i a, E i = some a → a ≤ now → Dn i a) : DueIs E now (m.map Due.p) := by
  refine ⟨fun p => ?_, hs⟩
  constructor
  · intro hp
    obtain ⟨d, hd, rfl⟩ := List.mem_map.1 hp
    obtain ⟨q1, q2, -⟩ := h.out d ((hm d).1 hd)
    exact ⟨q1, q2⟩
  · rintro ⟨h1, h2⟩
    obtain ⟨d, hd, e⟩ := h.got p.2 p.1 h1 h2 (hall _ _ h1 h2)
    exact List.mem_map.2 ⟨d, (hm d).2 hd, e⟩

theorem restDn_del {E : Tms} {t0 t : Nat} {rest : List (Int × Value)} {k x : Int} (hE : E k = some x) (hx : x.toNat % 64 = t % 64) (i a : Int) (hi : E i = some a) : restDn t0 t (mdel rest k) i a ↔ restDn t0 t rest i a ∨ i = k := by
  unfold restDn
  constructor
  · rintro (h | ⟨h1, h2⟩)
    · exact .inl (.inl h)
    · by_cases e : i = k
      · exact .inr e
      · refine .inl (.inr ⟨h1, fun p hp he => ?_⟩)
        refine h2 p (List.mem_filter.2 ⟨hp, ?_⟩) he
        simp only [decide_eq_true_eq]
        intro e2
        exact e (he ▸ e2)
  · rintro ((h | ⟨h1, h2⟩) | rfl)
    · exact .inl h
    · exact .inr ⟨h1, fun p hp => h2 p (List.mem_filter.1 hp).1⟩
    · rw [hE] at hi
      cases hi
      refine .inr ⟨hx, fun p hp => ?_⟩
      have := (List.mem_filter.1 hp).2
      simpa using this
theorem restDn_start {E : Tms} {t0 t : Nat} {L : List (Int × Value)} (hL : ∀ i a, E i = some a → a.toNat % 64 = t % 64 → (i, Value.int .i64 a) ∈ L) (i a : Int) (hi : E i = some a) : slotsDn t0 t i a ↔ restDn t0 t L i a := by
  constructor
  · exact .inl
  · rintro (h | ⟨h1, h2⟩)
    · exact h
    · exact absurd rfl (h2 _ (hL i a hi h1))
theorem restDn_end {t0 t : Nat} (h : t0 ≤ t) (i a : Int) : restDn t0 t [] i a ↔ slotsDn t0 (t + 1) i a := by
  rw [slotsDn_succ h]
  unfold restDn
  simp
theorem wf_small {i : Int} (h0 : 0 ≤ i) (h1 : i ≤ 1000000) : (Lit.int .i64 i).wf = true := by go_wf
theorem nodup_of_tsorted {l : List (Int × Int)} (h : TSorted l) : l.Nodup := h.imp (fun {a b} h e => by subst e; unfold tmLt at h; omega)
theorem infoDue : (Tryd.prog.info? 104).map (fun i => (i.zero, i.size, i.bytes)) = some (some (.agg #[.int .i64 0, .int .i64 0]), 2, 16) := by kernel_rfl
/-- What Tick leaves. -/
def RetTick (w : World) (base bw : Nat) (E : Tms) (T : Nat → Prop) (now : Int) (e : Ending) (w' : World) : Prop :=
  ∃ (l : List (Int × Int)) (a : Option Addr) (c : Nat) (ob : Option Nat), e = .returned (.tuple #[.slice a l.length c, .nilIface]) ∧ DueIs E now l ∧ l.length ≤ 64 ∧ Ownd w'.heap 3 1 a l.length c (ivals .i64 (l.map Prod.snd)) ob ∧ (∀ g, ob = some g → w.heap.size ≤ g) ∧ WhAt w' base bw now (aftF E now) T ∧ Fr T w w'
set_option maxRecDepth 100000 in
set_option maxHeartbeats 1000000 in
theorem wtick_bad {base bw : Nat} {E : Tms} {T : Nat → Prop} (now : Int) (w : World) (h : WhAt w base bw 0 E T) (hn : now < 0 ∨ 1099511627776 < now) :
    Calls Tryd.prog 24 #[.pointer (some ⟨bw, 0, none⟩), .int .i64 now] w (RetS w (.tuple #[.slice none 0 0, errv 1])) := by
  obtain ⟨ab, A, sb, S, h, -⟩ := h
  obtain ⟨c0, -, -, bl⟩ := h.cells
  clear h
  have q : now < 0 ∨ (¬ now < 0 ∧ 1099511627776 < now) := by omega
  clear hn
  rcases q with q | ⟨q, q2⟩
  all_goals
    go_enter Tryd.func24, Tryd.ntmps24
    go_wp2
    go_ret2
    exact RetS.mk rfl rfl rfl
set_option maxRecDepth 100000 in
set_option maxHeartbeats 8000000 in
theorem wtick_any {base bw : Nat} {E : Tms} {T : Nat → Prop} (n : Nat) (w : World) (h : WhAt w base bw 0 E T) (hn : n ≤ 1099511627776) :
    Calls Tryd.prog 24 #[.pointer (some ⟨bw, 0, none⟩), .int .i64 n] w (RetTick w base bw E T n) := by
  have hTl := h.lt
  have HTL := Lib.hid hTl
  obtain ⟨ab, A, sb, S, h, hT⟩ := h
  have HT := Lib.hid hT
  obtain ⟨c0, -, -, bl⟩ := h.cells
  have H := Lib.hid h
  clear h hT hTl
  go_enter Tryd.func24, Tryd.ntmps24
  go_wp2
  rw [show max 0 ((n : Int) - 64 + 1) = ((n - 63 : Nat) : Int) by omega]
  generalize decide ((n : Int) < 0) = z1
  generalize decide (1099511627776 < (n : Int)) = z2
  generalize (z1 || z2) = z3
  have G0 : GotD E n (slotsDn (n - 63) (n - 63)) [] := GotD.nil (fun i a _ _ ⟨s, h1, h2, _⟩ => by omega)
  go_loopw [6, 7] (fun s6 s7 wr => ∃ (t : Nat) (l : List Due) (a : Option Addr) (c : Nat) (ob : Option Nat), n - 63 ≤ t ∧ t ≤ n + 1 ∧ s6 = .slice a l.length c ∧ s7 = .int .i64 t ∧ Ownd wr.heap 104 2 a l.length c (l.flatMap Due.cells) ob ∧ (∀ g, ob = some g → w.heap.size ≤ g) ∧ Fr (fun _ => False) w wr ∧ Hid (GotD E n (slotsDn (n - 63) t) l)) (fun _ s _ => n + 1 - (intOf s).toNat)
  case atStart => exact ⟨n - 63, [], none, 0, none, Nat.le_refl _, by omega, rfl, rfl, Ownd.nil _ _ _, (fun _ h => nomatch h), Fr.refl _ _, Lib.hid G0⟩
  case round =>
    clear G0
    obtain ⟨t, l, a, c, ob, ht0, ht1, rfl, rfl, hO, hN, hF, hG⟩ := hrel
    have h := H.out.fr0 hF
    by_cases htl : t ≤ n
    · have hj : t % 64 < 64 := Nat.mod_lt _ (by decide)
      have hsl := h.slot hj
      have hents := Lib.hid (h.ents hj)
      have blr := h.blk.lt
      cases hb : sb (t % 64) with
      | none =>
        rw [hb] at hsl
        have hS := h.sn _ hj hb
        have hrg := run_range_nilMap (P := Tryd.prog) wr 93 3 3 Tryd.underlying93
        have hnx : ∀ ty, (Instr.next (.pointer (some ⟨wr.heap.size, 0, none⟩)) false ty).run Tryd.prog (wr.alloc (.mapIter none 0 #[] 0)) = _ := fun ty => run_next_nilMap _ ty 0 0 #[]
        have HG2 := Lib.hid (show GotD E n (slotsDn (n - 63) (t + 1)) l from hG.out.congr (fun i x hE hx => by
          rw [slotsDn_succ ht0]
          refine ⟨.inl, fun q => q.resolve_right (fun e => ?_)⟩
          have := hents.out.2.1 i x hE e
          rw [hS] at this
          cases this))
        have hO2 := hO.alloc (.mapIter none 0 #[] 0)
        have hF2 := hF.alloc (.mapIter none 0 #[] 0)
        clear h hG hents hO hF hS hb
        go_wp2_with (fail)
        refine (wslot_any bw t wr).mono ?_
        rintro e1 w1 ⟨rfl, rfl⟩
        go_wp2
        refine wp_loop_rounds 1 ?_
        rw [rounds_succ]
        go_wp2
        go_roundw
        case rel => exact ⟨t + 1, l, a, c, ob, by omega, by omega, rfl, by go_num, hO2, hN, hF2, HG2⟩
        case measure => simp [intOf]; omega
      | some b =>
        rw [hb] at hsl
        have hM := h.sm _ hj b hb
        have hlt2 := h.lt b (.inr (.inr ⟨_, hj, hb⟩))
        have hids := Lib.hid h.ids
        have HKV := Lib.hid (show ∀ p ∈ S (t % 64), keyOf Tryd.prog 3 (.int .i64 p.1) = some (wli p.1) from fun p hp => by
          obtain ⟨x, hx, -⟩ := hents.out.1 p hp
          have q1 := (hids.out _ _ hx).1
          exact wkey (wf_small q1.1 (by omega)))
        have HI := Lib.hid (show ∀ p ∈ S (t % 64), ∀ q ∈ S (t % 64), wli p.1 = wli q.1 → p.1 = q.1 from fun _ _ _ _ e => wli_inj e)
        have G1 := Lib.hid (show GotD E n (restDn (n - 63) t (S (t % 64))) l from hG.out.congr (fun i x hE _ => restDn_start hents.out.2.1 i x hE))
        have hbw : b < w.heap.size := H.out.lt b (.inr (.inr ⟨_, hj, hb⟩))
        have hwr := hF.size
        clear h hG hb
        go_wp2_with (fail)
        refine (wslot_any bw t wr).mono ?_
        rintro e1 w1 ⟨rfl, rfl⟩
        go_wp2_with (at_range; refine wpList_rangeL rfl _ 93 rfl 3 3 wkeyed Tryd.underlying93 b (S (t % 64)) wli rfl hM ?_)
        intro w2 hR2 hF2 hs2
        have hO2 := hO.fr hF2 (fun _ _ h => h)
        have hFw2 := hF.trans hF2
        have hol := hO.lt
        obtain ⟨r0, hr0⟩ : ∃ r, r = wr.heap.size := ⟨_, rfl⟩
        rw [← hr0] at hR2 hol hwr
        clear hM hsl hF2 hO hF hs2
        go_wp2
        rw [← hr0]
        clear hr0
        go_loopw [6] (fun s6 wx => ∃ (rest : List (Int × Value)) (cnt : Nat) (l : List Due) (a : Option Addr) (c : Nat) (ob : Option Nat), s6 = .slice a l.length c ∧ MapR wx Tryd.prog 3 wli b r0 (S (t % 64)) rest cnt ∧ Ownd wx.heap 104 2 a l.length c (l.flatMap Due.cells) ob ∧ (∀ g, ob = some g → w.heap.size ≤ g ∧ g ≠ r0) ∧ Fr (fun _ => False) w wx ∧ r0 < wx.heap.size ∧ Hid (GotD E n (restDn (n - 63) t rest) l)) (fun _ wx => wx.rangeLeft b r0)
        case atStart => exact ⟨_, _, l, a, c, ob, rfl, hR2, hO2, fun g hg => ⟨hN g hg, fun e => by have := hol g hg; omega⟩, hFw2, hR2.lt, G1⟩
        case round =>
          clear hR2 hO2 hFw2 G1
          obtain ⟨rest, cnt, l, a, c, ob, rfl, hR, hO, hN, hF, hsx, hG⟩ := hrel
          have hml := Lib.hid hR.left_eq
          go_wp2_with (at_next; refine wpList_nextL rfl _ rfl 3 wkeyed b r0 (S (t % 64)) rest cnt wli (fun q : Int => Value.int .i64 q) rfl hR HKV.out HI.out ?_ ?_)
          · intro hc0 hr0
            subst hr0
            have HG2 := Lib.hid (hG.out.congr (fun i x _ _ => restDn_end ht0 i x))
            clear hc0 hG hR hml
            go_wp2
            go_roundw
            case rel => exact ⟨t + 1, l, a, c, ob, by omega, by omega, rfl, by go_num, hO, fun g hg => (hN g hg).1, hF, HG2⟩
            case measure => simp [intOf]; omega
          · intro pk pv w3 cnt2 hp hR3 hlt3 hF3 hs3 hen
            obtain ⟨x, hE, hx64, hpv⟩ := hents.out.1 (pk, pv) (hR.sub (pk, pv) hp)
            simp only at hE hpv
            subst hpv
            obtain ⟨hi1, hi2⟩ := hids.out _ _ hE
            have hO3 := hO.fr hF3 (fun g hg e => (hN g hg).2 e)
            have hFw3 : Fr (fun _ => False) w w3 := hF.trans' hF3 (fun i hi e => by have e : i = r0 := e; omega)
            have hs3' : r0 < w3.heap.size := by omega
            have HPM := Lib.hid hp
            have HDEL := Lib.hid (fun (i a : Int) (hi : E i = some a) => restDn_del (t0 := n - 63) (rest := rest) hE hx64 i a hi)
            have HE := Lib.hid hE
            have HX := Lib.hid hx64
            have hll := hG.out.len
            clear hR hO hF hF3 hs3 hp hE hx64 hsx
            by_cases hxn : x ≤ n
            · have HG4 := Lib.hid (show GotD E n (restDn (n - 63) t (mdel rest pk)) (l ++ [⟨x, pk, ⟨by omega, hi2.2⟩, hi1⟩]) from hG.out.add (d := ⟨x, pk, ⟨by omega, hi2.2⟩, hi1⟩) HE.out hxn (by
                rintro (h | ⟨-, h⟩)
                · exact slotsDn_not (by omega) HX.out h
                · exact h _ HPM.out rfl) (fun i a h1 _ => HDEL.out i a h1))
              obtain ⟨D, hD⟩ : ∃ D : Due, D = ⟨x, pk, ⟨by omega, hi2.2⟩, hi1⟩ := ⟨_, rfl⟩
              have hDc : D.cells = [.int .i64 x, .int .i64 pk] := by rw [hD]; rfl
              rw [← hD] at HG4
              have hrd := rd_lit w3 104 D.cells
              have hO4 := hO3.alloc (.cells #[.int .i64 x, .int .i64 pk] 104)
              rw [hDc] at hrd
              have hF4 := hFw3.alloc (.cells #[.int .i64 x, .int .i64 pk] 104)
              have hR4 := hR3.fr (S := fun _ => False) ((Fr.refl _ _).alloc (.cells #[.int .i64 x, .int .i64 pk] 104)) (fun h => h) (fun h => h)
              have HDC := Lib.hid hDc
              clear hO3 hFw3 hR3 hG hD hDc
              go_wp2_with (at_builtin; refine wpList_app rfl _ _ 102 rfl Tryd.underlying102 infoDue rfl (by decide) rfl rfl hO4 hrd (by simp [Value.oneCell']) (by omega) (by omega) ?_)
              intro a5 c5 w5 ob5 v1 v2 v3
              have hR5 := hR4.fr v2 (fun e => by have := (hN _ e).1; omega) (fun e => (hN _ e).2 rfl)
              have hN5 : ∀ g, ob5 = some g → w.heap.size ≤ g ∧ g ≠ r0 := fun g hg => by
                rcases v3 with e | ⟨g', e, h⟩
                · exact hN g (e ▸ hg)
                · rw [e] at hg
                  cases hg
                  try simp only [World.size_alloc] at h
                  omega
              have hF5 := Fr.app hF4 v2 (fun g hg => (hN g hg).1)
              have hs5 : r0 < w5.heap.size := by have := v2.size; simp only [World.size_alloc] at this; omega
              have hO5 : Ownd w5.heap 104 2 a5 (l ++ [D]).length c5 ((l ++ [D]).flatMap Due.cells) ob5 := by
                rw [List.length_append, List.flatMap_append]
                simpa [HDC.out] using v1
              have hl5 : (l ++ [D]).length = l.length + 1 := by simp
              clear v1 v2 v3 hR4 hF4 hO4 hrd hen
              go_wp2
              go_roundw
              case rel => exact ⟨_, cnt2, l ++ [D], a5, c5, ob5, by rw [hl5], hR5, hO5, hN5, hF5, hs5, HG4⟩
              case measure => rw [hR5.left_eq, hml.out]; exact hlt3
            · have HG4 := Lib.hid (show GotD E n (restDn (n - 63) t (mdel rest pk)) l from hG.out.congr (fun i a h1 h2 => by
                rw [HDEL.out i a h1]
                refine ⟨.inl, fun q => q.resolve_right (fun e => ?_)⟩
                rw [e, HE.out] at h1
                cases h1
                exact hxn h2))
              have hml3 := hR3.left_eq
              clear hG
              go_wp2
              go_roundw
              case rel => exact ⟨_, cnt2, l, a, c, ob, rfl, hR3, hO3, hN, hFw3, hs3', HG4⟩
              case measure => rw [hml3, hml.out]; exact hlt3
    · obtain rfl : t = n + 1 := by omega
      have hall := Lib.hid (show ∀ i a, E i = some a → a ≤ (n : Int) → slotsDn (n - 63) (n + 1) i a from fun i a h1 h2 => slotsDn_all (i := i) (H.out.ids i a h1).2.1 h2)
      have hll := hG.out.len
      have hgnd := hG.out.nd
      have h2 := h.setNow n
      have hfz := h.cells.2.2.1 0
      have hcz := h.cells.1
      have blr := h.blk.lt
      have hFs : Fr (fun k => k = bw) wr (wr.setCell ⟨bw, 0, none⟩ (.int .i64 n)) := (Fr.refl (fun k => k = bw) _).setCell (p := ⟨bw, 0, none⟩) (fun _ => rfl) _
      have hobw : ∀ g, ob = some g → g ≠ bw := fun g hg e => by have := hN g hg; omega
      have hO2 := hO.fr hFs (fun g hg e => hobw g hg e)
      have hFT : Fr T w (wr.setCell ⟨bw, 0, none⟩ (.int .i64 n)) := (hF.none T).trans (hFs.mono (fun k _ e => (HT.out k).2 (.inl e)))
      have hA2 := Lib.hid (show WhAt (wr.setCell ⟨bw, 0, none⟩ (.int .i64 n)) base bw n E T from ⟨ab, A, sb, S, h2, HT.out⟩)
      obtain ⟨M, hM⟩ : ∃ M, M = l.length := ⟨_, rfl⟩
      rw [← hM] at hO2 hll
      have hso := sortDue_any l a c ob _ hO2 hM hgnd (by omega)
      rw [← hM]
      have HM := Lib.hid hM
      clear h h2 hFs hO hF hgnd hO2 hM
      go_wp2_with (fail)
      refine hso.mono ?_
      rintro e2 w2 ⟨m, rfl, hm1, hm2, hm3, hOm, hFm⟩
      generalize decide ((n : Int) + 1 ≤ (n : Int)) = z4
      have hFT2 : Fr T w w2 := hFT.trans' hFm (fun i hi e => by have := hN i e; omega)
      have hA3 := hA2.out.fr hFm (fun k hk e => by have h1 := hN k e; have h2 := HTL.out k hk; omega)
      have HIS := Lib.hid (dueIs_of hG.out hm2 hm1 hall.out)
      have HAF := Lib.hid (fun i => aft_eq hG.out hm2 hall.out i)
      have HEI := Lib.hid (show ∀ d ∈ m, E d.i = some d.t from fun d hd => (hG.out.out d ((hm2 d).1 hd)).1)
      have HND := Lib.hid (show (m.map Due.i).Nodup from by
        have hp := hG.out.ids
        have hsub := nodup_of_tsorted hm1
        unfold List.Nodup at hsub ⊢
        rw [List.pairwise_map] at hsub ⊢
        refine List.Pairwise.imp_of_mem (fun {x y} hx hy hne e => hne ?_) hsub
        have h1 := HEI.out x hx
        have h2 := HEI.out y hy
        rw [e, h2] at h1
        have := Option.some.inj h1
        unfold Due.p
        rw [this, e])
      have hml : m.length = M := by rw [hm3]; exact HM.out.symm
      have hs2 := hFT2.size
      have hob2 : ∀ g, ob = some g → ¬ T g := fun g hg ht => by have h1 := hN g hg; have h2 := HTL.out g ht; omega
      have hA3' := hA3.congr (E' := remF E (m.take 0)) (fun i => by simp [remF])
      clear hso hm1 hm2 hm3 hG hall hFT hFm hA2 HM hfz hcz blr hobw hA3
      go_wp2
      go_loopw [10, 66] (fun s10 s66 wy => ∃ (k : Nat) (ao : Option Addr) (co : Nat) (oo : Option Nat), k ≤ M ∧ s10 = .slice ao k co ∧ s66 = .int .i64 k ∧ Ownd wy.heap 3 1 ao k co (ivals .i64 ((m.take k).map Due.i)) oo ∧ (∀ g, oo = some g → w.heap.size ≤ g ∧ ob ≠ some g) ∧ Ownd wy.heap 104 2 a M c (m.flatMap Due.cells) ob ∧ WhAt wy base bw n (remF E (m.take k)) T ∧ Fr T w wy) (fun _ s _ => M - (intOf s).toNat)
      case atStart => exact ⟨0, none, 0, none, by omega, rfl, rfl, Ownd.nil _ _ _, (fun _ h => nomatch h), hOm, hA3', hFT2⟩
      case round =>
        clear hOm hA3' hFT2
        obtain ⟨k, ao, co, oo, hk, rfl, rfl, hOo, hNo, hOm, hA, hF⟩ := hrel
        by_cases hkl : k < M
        · obtain ⟨g, rfl, hg, hgl, hgc, -⟩ := hOm.pos (by omega)
          have d0 := (hgc (k * 2 + 0) (by omega)).trans (flat_get Due.cells 2 Due.cells_len m k 0 (by omega) (by omega))
          have d1 := (hgc (k * 2 + 1) (by omega)).trans (flat_get Due.cells 2 Due.cells_len m k 1 (by omega) (by omega))
          have hmk := nth_mem m k (by omega)
          have hsn := take_succ_nth m k (by omega)
          have hnot : (nth m k).i ∉ (m.take k).map Due.i := fun hh => by
            have hp := List.pairwise_iff_getElem.1 HND.out
            obtain ⟨x, hx, e⟩ := List.mem_map.1 hh
            obtain ⟨j, hj, rfl⟩ := List.getElem_of_mem hx
            rw [List.length_take] at hj
            refine hp j k (by simp; omega) (by simp; omega) (by omega) ?_
            rw [List.getElem_map, List.getElem_map, List.getElem_take] at *
            rw [e, nth_eq m k (by omega)]
          have hEk := HEI.out _ hmk
          obtain ⟨D, hD⟩ : ∃ D, D = nth m k := ⟨_, rfl⟩
          rw [← hD] at d0 d1 hsn hnot hEk
          have hdi := D.hi
          have hrem : remF E (m.take k) D.i = some D.t := by unfold remF; rw [if_neg hnot]; exact hEk
          have hce : clrE (remF E (m.take k)) D.i = none := by unfold clrE; rw [if_neg (by omega), if_neg (by rw [hrem]; simp)]
          have hrs := fun i => remF_snoc E (m.take k) D i
          rw [← hsn] at hrs
          have HSN := Lib.hid hsn
          have HRS := Lib.hid hrs
          have HCE := Lib.hid hce
          unfold Due.cells at d0 d1
          simp only [List.getElem?_cons_zero, List.getElem?_cons_succ, Nat.add_zero] at d0 d1
          have hF1 := (hF.alloc (.cells #[.int .i64 D.t, .int .i64 D.i] 104)).alloc (.cells #[.int .i64 D.i] 3)
          have hOm1 := (hOm.alloc (.cells #[.int .i64 D.t, .int .i64 D.i] 104)).alloc (.cells #[.int .i64 D.i] 3)
          have hOo1 := (hOo.alloc (.cells #[.int .i64 D.t, .int .i64 D.i] 104)).alloc (.cells #[.int .i64 D.i] 3)
          have hA1 := hA.fr0 (((Fr.refl _ _).alloc (.cells #[.int .i64 D.t, .int .i64 D.i] 104)).alloc (.cells #[.int .i64 D.i] 3))
          have hBD := (Blk.made wr 104 [.int .i64 D.t, .int .i64 D.i]).alloc (.cells #[.int .i64 D.i] 3)
          have hrd := rd_lit (wr.alloc (.cells #[.int .i64 D.t, .int .i64 D.i] 104)) 3 [.int .i64 D.i]
          rw [show (wr.alloc (.cells #[.int .i64 D.t, .int .i64 D.i] 104)).heap.size = wr.heap.size + 1 by simp] at hrd
          have hoolt := hOo.lt
          have homlt := hOm.lt
          have hwr := hF.size
          clear hgc hmk hD hsn hnot hEk hrem hce hrs hOm hOo hA hF
          go_wp2_with (at_builtin; refine wpList_app rfl _ _ 30 rfl Tryd.underlying30 infoInt rfl (by decide) rfl rfl hOo1 hrd (by simp [Value.oneCell']) (by omega) (by omega) ?_)
          intro a5 c5 w5 o5 v1 v2 v3
          have hBD5 := hBD.fr v2 (fun e => by have := hoolt _ e; omega)
          have hOm5 := hOm1.fr v2 (fun g' hg' e => (hNo g' e).2 hg')
          have hA5 := hA1.fr v2 (fun q hq e => by have h1 := (hNo q e).1; have h2 := HTL.out q hq; omega)
          have hF5 := hF1.trans' v2 (fun i hi e => by have := (hNo i e).1; omega)
          have hN5 : ∀ g', o5 = some g' → w.heap.size ≤ g' ∧ (some g : Option Nat) ≠ some g' := fun g' hg' => by
            rcases v3 with e | ⟨g2, e, h⟩
            · exact hg ▸ hNo g' (e ▸ hg')
            · rw [e] at hg'
              cases hg'
              try simp only [World.size_alloc] at h
              exact ⟨by omega, fun e2 => by cases e2; omega⟩
          have x1 := hBD5.cell 1
          have xl := hBD5.lt
          simp only [List.getElem?_cons_zero, List.getElem?_cons_succ] at x1
          have hV := Lib.hid (show Ownd w5.heap 3 1 a5 (k + 1) c5 (ivals .i64 ((m.take (k + 1)).map Due.i)) o5 from by
            rw [HSN.out]
            simpa [ivals] using v1)
          have hcl := wclear_any D.i w5 hA5 (wf_small hdi.1 (by omega))
          clear v1 v2 v3 hBD hBD5 hOm1 hOo1 hA1 hF1 hrd
          go_wp2_with (fail)
          refine hcl.mono ?_
          intro e6 w6 R6
          obtain ⟨rfl, hA6, hF6⟩ := R6.okE HCE.out
          have hA7 := hA6.congr (E' := remF E (m.take (k + 1))) (fun i => (HRS.out i).symm)
          have hO6 := hV.out.fr hF6 (fun g' hg' ht => by have h1 := (hN5 g' hg').1; have h2 := HTL.out g' ht; omega)
          have hOm6 := hOm5.fr hF6 hob2
          have hF06 := hF5.trans hF6
          clear hcl R6 hA5 hF5 hOm5 hA6 hF6 x1 xl hV
          go_wp2
          go_roundw
          case rel => exact ⟨k + 1, a5, c5, o5, by omega, rfl, by go_num, hO6, fun g' hg' => ⟨(hN5 g' hg').1, hg ▸ (hN5 g' hg').2⟩, hOm6, hA7, hF06⟩
          case measure => simp [intOf]; omega
        · obtain rfl : k = M := by omega
          rw [show m.take k = m by rw [← hml]; exact List.take_length] at hOo hA
          have hA' := Lib.hid (hA.congr HAF.out)
          have HOO := Lib.hid hOo
          have HF := Lib.hid hF
          clear hA hOo hF hOm
          go_wp2
          go_ret2
          refine ⟨m.map Due.p, ao, co, oo, ?_, HIS.out, by simp; omega, ?_, fun g hg => (hNo g hg).1, hA'.out, HF.out⟩
          · rw [List.length_map, hml]; rfl
          · rw [List.length_map, hml, List.map_map]
            exact HOO.out
end Go.Proofs.YtbmeeglehbaggaaDoor
