/- WheelClears' walk: what is cleared is never due, and all others are due as if it had not been set: at every list of ids and times. -/
import Derived.Test.YtbmeeglehbaggaaDoorWhTick
import Derived.Test.YtbmeeglehbaggaaDoorWhLen
import Derived.Test.YtbmeeglehbaggaaDoorIntsIn
import Derived.Test.YtbmeeglehbaggaaDoorSame
import Derived.Test.YtbmeeglehbaggaaDoorTold
namespace Go.Proofs.YtbmeeglehbaggaaDoor
open Go.RowKit Go.Maps

theorem WhAt.lower {w : World} {base base' bw : Nat} {now : Int} {E : Tms} {T : Nat → Prop} (h : WhAt w base bw now E T) (hb : base' ≤ base) : WhAt w base' bw now E T := by
  obtain ⟨ab, A, sb, S, h, hT⟩ := h
  exact ⟨ab, A, sb, S, ⟨h.blk, h.am, h.ag, h.sm, h.sn, h.sg, h.inj, h.na, h.nb, h.nab, ⟨Nat.le_trans hb h.lo.1, Nat.le_trans hb h.lo.2.1, fun j b hj hs => Nat.le_trans hb (h.lo.2.2 j b hj hs)⟩, h.ids⟩, hT⟩
/-- Two wheels beside each other. -/
structure TwoW (w0 w : World) (bv bw : Nat) (nv nw : Int) (Ev Ew : Tms) (T1 T2 : Nat → Prop) : Prop where
  sv : WhAt w w0.heap.size bv nv Ev T1
  sw : WhAt w w0.heap.size bw nw Ew T2
  dis : ∀ k, T1 k → ¬ T2 k
  fr : Fr (fun _ => False) w0 w
namespace TwoW
variable {w0 w w' : World} {bv bw : Nat} {nv nw n' : Int} {Ev Ew E' : Tms} {T1 T2 T : Nat → Prop}
theorem fr0 (h : TwoW w0 w bv bw nv nw Ev Ew T1 T2) (f : Fr (fun _ => False) w w') : TwoW w0 w' bv bw nv nw Ev Ew T1 T2 := ⟨h.sv.fr0 f, h.sw.fr0 f, h.dis, h.fr.trans f⟩
theorem frX {X : Nat → Prop} (h : TwoW w0 w bv bw nv nw Ev Ew T1 T2) (f : Fr X w w') (hx : ∀ k, k < w.heap.size → ¬ X k) : TwoW w0 w' bv bw nv nw Ev Ew T1 T2 := h.fr0 ⟨f.os, f.tape, f.output, f.size, fun k hk _ => f.block k hk (hx k hk)⟩
theorem stepV (h : TwoW w0 w bv bw nv nw Ev Ew T1 T2) (hv : WhAt w' w0.heap.size bv n' E' T) (f : Fr T1 w w') (hT : ∀ k, T k → T1 k ∨ w.heap.size ≤ k) : TwoW w0 w' bv bw n' nw E' Ew T T2 :=
  ⟨hv, h.sw.fr f (fun k hk hh => h.dis k hh hk), fun k hk hk2 => by
    rcases hT k hk with q | q
    · exact h.dis k q hk2
    · have := h.sw.lt k hk2; omega, h.fr.trans' f (fun i hi hh => by have := h.sv.low i hh; omega)⟩
theorem stepW (h : TwoW w0 w bv bw nv nw Ev Ew T1 T2) (hv : WhAt w' w0.heap.size bw n' E' T) (f : Fr T2 w w') (hT : ∀ k, T k → T2 k ∨ w.heap.size ≤ k) : TwoW w0 w' bv bw nv n' Ev E' T1 T :=
  ⟨h.sv.fr f (fun k hk hh => h.dis k hk hh), hv, fun k hk hk2 => by
    rcases hT k hk2 with q | q
    · exact h.dis k hk q
    · have := h.sv.lt k hk; omega, h.fr.trans' f (fun i hi hh => by have := h.sw.low i hh; omega)⟩
theorem congr {Ev' Ew' : Tms} (h : TwoW w0 w bv bw nv nw Ev Ew T1 T2) (h1 : ∀ i, Ev' i = Ev i) (h2 : ∀ i, Ew' i = Ew i) : TwoW w0 w bv bw nv nw Ev' Ew' T1 T2 := ⟨h.sv.congr h1, h.sw.congr h2, h.dis, h.fr⟩
end TwoW
/-- What a Set leaves, whatever comes of it. -/
def putF (E : Tms) (i a : Int) : Tms := if setE 0 i a = none then setF E i a else E
theorem set_step {w w' : World} {base bw : Nat} {E : Tms} {T : Nat → Prop} {i a : Int} {e : Ending} (h : WhAt w base bw 0 E T) (hR : RetSet w base bw 0 E T i a (setE 0 i a) e w') : ∃ v T', e = .returned v ∧ WhAt w' base bw 0 (putF E i a) T' ∧ Fr T w w' ∧ ∀ k, T' k → T k ∨ w.heap.size ≤ k := by
  cases hs : setE 0 i a with
  | none =>
    obtain ⟨rfl, T', h1, h2, h3⟩ := hR.okE hs
    exact ⟨_, T', rfl, by unfold putF; rw [if_pos hs]; exact h1, h2, h3⟩
  | some k =>
    obtain ⟨rfl, hF⟩ := hR.errE hs
    exact ⟨_, T, rfl, by unfold putF; rw [if_neg (by rw [hs]; simp)]; exact h.fr0 hF, hF.none _, fun k hk => .inl hk⟩
theorem putF_ne {E : Tms} {i a j : Int} (h : i ≠ j) (hE : E j = none) : putF E i a j = none := by
  unfold putF
  split
  · exact (if_neg (fun e => h e.symm)).trans hE
  · exact hE
/-- What a Tick tells and leaves, in time or not. -/
def TickIs (E : Tms) (now : Int) (l : List (Int × Int)) (err : Option Int) (En : Tms) (nx : Int) : Prop :=
  if now < 0 ∨ 1099511627776 < now then l = [] ∧ err = some 1 ∧ En = E ∧ nx = 0 else DueIs E now l ∧ err = none ∧ En = aftF E now ∧ nx = now
theorem tickIs_one {E : Tms} {now : Int} {l l' : List (Int × Int)} {err err' : Option Int} {En En' : Tms} {nx nx' : Int} (h : TickIs E now l err En nx) (g : TickIs E now l' err' En' nx') : l = l' ∧ err = err' ∧ En = En' := by
  unfold TickIs at h g
  split at h
  · rename_i hb
    rw [if_pos hb] at g
    obtain ⟨rfl, rfl, rfl, -⟩ := h
    obtain ⟨rfl, rfl, rfl, -⟩ := g
    exact ⟨rfl, rfl, rfl⟩
  · rename_i hb
    rw [if_neg hb] at g
    obtain ⟨h1, rfl, rfl, -⟩ := h
    obtain ⟨g1, rfl, rfl, -⟩ := g
    exact ⟨dueIs_one h1 g1, rfl, rfl⟩
theorem tickIs_not {E : Tms} {now : Int} {l : List (Int × Int)} {err : Option Int} {En : Tms} {nx i : Int} (h : TickIs E now l err En nx) (hE : E i = none) : i ∉ l.map Prod.snd := by
  unfold TickIs at h
  intro hi
  obtain ⟨p, hp, rfl⟩ := List.mem_map.1 hi
  split at h
  · obtain ⟨rfl, -⟩ := h; cases hp
  · have := ((h.1.1 p).1 hp).1
    rw [hE] at this
    cases this
def RetTickU (w : World) (base bw : Nat) (E : Tms) (T : Nat → Prop) (now : Int) (e : Ending) (w' : World) : Prop :=
  ∃ (l : List (Int × Int)) (a : Option Addr) (c : Nat) (ob : Option Nat) (err : Option Int) (En : Tms) (nx : Int), e = .returned (.tuple #[.slice a l.length c, errT err]) ∧ TickIs E now l err En nx ∧ l.length ≤ 64 ∧ Ownd w'.heap 3 1 a l.length c (ivals .i64 (l.map Prod.snd)) ob ∧ (∀ g, ob = some g → w.heap.size ≤ g) ∧ WhAt w' base bw nx En T ∧ Fr T w w'
theorem wtickU_any {base bw : Nat} {E : Tms} {T : Nat → Prop} (now : Int) (w : World) (h : WhAt w base bw 0 E T) :
    Calls Tryd.prog 24 #[.pointer (some ⟨bw, 0, none⟩), .int .i64 now] w (RetTickU w base bw E T now) := by
  by_cases hb : now < 0 ∨ 1099511627776 < now
  · refine (wtick_bad now w h hb).mono ?_
    rintro e w' ⟨rfl, rfl⟩
    exact ⟨[], none, 0, none, some 1, E, 0, rfl, by unfold TickIs; rw [if_pos hb]; exact ⟨rfl, rfl, rfl, rfl⟩, by simp, Ownd.nil _ _ _, (fun _ h => nomatch h), h, Fr.refl _ _⟩
  · obtain ⟨n, rfl⟩ := Int.eq_ofNat_of_zero_le (show 0 ≤ now by omega)
    refine (wtick_any n w h (by omega)).mono ?_
    rintro e w' ⟨l, a, c, ob, rfl, h1, h2, h3, h4, h5, h6⟩
    exact ⟨l, a, c, ob, none, _, n, rfl, by unfold TickIs; rw [if_neg hb]; exact ⟨h1, rfl, rfl, rfl⟩, h2, h3, h4, h5, h6⟩
set_option maxRecDepth 100000 in
set_option maxHeartbeats 16000000 in
theorem wheelClears_any (is ts : List Int) (ai at_ : Option Addr) (ci ct : Nat) (id a now : Int) (w : World) (hg : Hd w) (hi : Ints w.heap ai is) (ht : Ints w.heap at_ ts) (hli : is.length ≤ 9223372036854775806) (hlt : ts.length ≤ 9223372036854775806) (hw : ∀ x ∈ is, (Lit.int .i64 x).wf = true) (hid : (Lit.int .i64 id).wf = true) :
    Calls Tryd.prog 6 #[.slice ai is.length ci, .slice at_ ts.length ct, .int .i64 id, .int .i64 a, .int .i64 now] w (RetV w (.bool true)) := by
  have HIS := Lib.hid hi
  have HTS := Lib.hid ht
  have HW := Lib.hid hw
  have HID := Lib.hid hid
  clear hi ht hw hid
  go_enter Tryd.func6, Tryd.ntmps6
  go_wp2_with (fail)
  refine (wnew_any w).mono ?_
  rintro e1 w1 ⟨bv, T1, rfl, hV1, hF1, hT1⟩
  go_wp2_with (fail)
  refine (wnew_any w1).mono ?_
  rintro e2 w2 ⟨bw, T2, rfl, hW2, hF2, hT2⟩
  have hlt1 := hV1.lt
  have K2 : TwoW w w2 bv bw 0 0 (fun _ => none) (fun _ => none) T1 T2 := ⟨hV1.fr0 hF2, hW2.lower hF1.size, fun k h1 h2 => by have := hlt1 k h1; have := hT2 k h2; omega, hF1.trans hF2⟩
  have hset := wset_any 3 5 w2 K2.sv (by decide) K2.fr.size
  clear hV1 hW2 hF1 hF2 hT1 hT2 hlt1
  go_wp2_with (fail)
  refine hset.mono ?_
  intro e3 w3 R3
  obtain ⟨rfl, T3, hA3, hF3, hT3⟩ := R3.okE (by decide)
  have K3 := K2.stepV hA3 hF3 hT3
  have hclr := wclear_any 3 w3 K3.sv (by decide)
  clear hset R3 hA3 hF3 hT3 K2
  go_wp2_with (fail)
  refine hclr.mono ?_
  intro e4 w4 R4
  obtain ⟨rfl, hA4, hF4⟩ := R4.okE (by unfold clrE setF; rw [if_neg (by omega), if_neg (by simp)])
  have K4 := (K3.stepV hA4 hF4 (fun k hk => .inl hk)).congr (Ev' := fun _ => none) (Ew' := fun _ => none) (fun i => by unfold clrF setF; split <;> rfl) (fun _ => rfl)
  have hlen := wlen_any w4 K4.sv
  clear hclr R4 hA4 hF4 K3
  go_wp2_with (fail)
  refine hlen.mono ?_
  rintro e5 w5 ⟨n0, rfl, hc, hF5⟩
  obtain rfl := counts_none hc
  have K5 := K4.fr0 hF5
  clear hlen hF5 K4 hc
  go_upto_block 0 with (fail)
  go_cut [13] (fun s13 wx => ∃ (E : Tms) (T1 T2 : Nat → Prop), TwoW w wx bv bw 0 0 E E T1 T2 ∧ E id = none)
  case first =>
    go_wp2
    go_loopw [13] (fun s13 wr => ∃ (k : Nat) (E : Tms) (T1 T2 : Nat → Prop), k ≤ is.length ∧ s13 = .int .i64 k ∧ TwoW w wr bv bw 0 0 E E T1 T2 ∧ E id = none) (fun s _ => is.length - (intOf s).toNat)
    case atStart => exact ⟨0, _, _, _, by omega, rfl, K5, rfl⟩
    case round =>
      clear K5
      obtain ⟨k, E, T4, T5, hk, rfl, hK, hE⟩ := hrel
      have HE := Lib.hid hE
      have HK := Lib.hid hK
      clear hE
      by_cases h1 : k < is.length
      · by_cases h2 : k < ts.length
        · obtain ⟨g1, o1, rfl, q1, c1⟩ := Ints.pos HIS.out (by omega)
          obtain ⟨g2, o2, rfl, q2, c2⟩ := Ints.pos HTS.out (by omega)
          have d1 := (hK.fr.cell (p := ⟨g1, o1 + k, none⟩) q1 (fun h => h)).trans (c1 w rfl k h1)
          have d2 := (hK.fr.cell (p := ⟨g2, o2 + k, none⟩) q2 (fun h => h)).trans (c2 w rfl k h2)
          have b1 := Nat.lt_of_lt_of_le q1 hK.fr.size
          have b2 := Nat.lt_of_lt_of_le q2 hK.fr.size
          have hwf := HW.out _ (nth_mem is k h1)
          have hcell := Lib.hid (fun (W : World) (f : Fr (fun _ => False) w W) => And.intro ((f.cell (p := ⟨g1, o1 + k, none⟩) q1 (fun h => h)).trans (c1 w rfl k h1)) ((f.cell (p := ⟨g2, o2 + k, none⟩) q2 (fun h => h)).trans (c2 w rfl k h2)))
          generalize nth is k = x at *
          generalize nth ts k = y at *
          clear c1 c2
          by_cases hx : x = id
          · have e : (x != id) = false := by simp [hx]
            clear hcell hK
            go_wp2
            go_roundw
            case rel => exact ⟨k + 1, E, T4, T5, by omega, by go_num, HK.out, HE.out⟩
            case measure => simp [intOf]; omega
          · have e : (x != id) = true := by simp [hx]
            have HX := Lib.hid hx
            clear hx
            have hs1 := wset_any x y wr.drew (hK.fr0 (Fr.refl _ _).drew).sv hwf (by have := hK.fr.size; simpa using this)
            go_wp2
            (refine wp_region_mix (fun _ => True) 9 (by kernel_rfl) (by kernel_rfl) (trivial) ?_; simp only [List.take_succ_cons, List.take_zero, List.drop_succ_cons, List.drop_zero])
            (refine wpMix_earlyN 9 (by kernel_rfl) (by kernel_rfl) ?_; simp only [List.take_succ_cons, List.take_zero, List.drop_succ_cons, List.drop_zero]; (repeat (go_big_quiet_step (fail))); refine wpQuiet_nil ?_)
            refine wpMix_nil ?_
            go_wp2_with (fail)
            refine hs1.mono ?_
            intro e6 w6 R6
            obtain ⟨v6, T6, rfl, hA6, hF6, hT6⟩ := set_step (hK.fr0 (Fr.refl _ _).drew).sv R6
            have K6 := (hK.fr0 (Fr.refl _ _).drew).stepV hA6 hF6 hT6
            obtain ⟨d1, d2⟩ := hcell.out w6 K6.fr
            have b1 := Nat.lt_of_lt_of_le q1 K6.fr.size
            have b2 := Nat.lt_of_lt_of_le q2 K6.fr.size
            have hs2 := wset_any x y w6.drew (K6.fr0 (Fr.refl _ _).drew).sw hwf (by have := K6.fr.size; simpa using this)
            clear hs1 R6 hA6 hF6 hT6 hK
            go_wp2
            (refine wp_region_mix (fun _ => True) 9 (by kernel_rfl) (by kernel_rfl) (trivial) ?_; simp only [List.take_succ_cons, List.take_zero, List.drop_succ_cons, List.drop_zero])
            (refine wpMix_earlyN 9 (by kernel_rfl) (by kernel_rfl) ?_; simp only [List.take_succ_cons, List.take_zero, List.drop_succ_cons, List.drop_zero]; (repeat (go_big_quiet_step (fail))); refine wpQuiet_nil ?_)
            refine wpMix_nil ?_
            go_wp2_with (fail)
            refine hs2.mono ?_
            intro e7 w7 R7
            obtain ⟨v7, T7, rfl, hA7, hF7, hT7⟩ := set_step (K6.fr0 (Fr.refl _ _).drew).sw R7
            have K7 := Lib.hid ((K6.fr0 (Fr.refl _ _).drew).stepW hA7 hF7 hT7)
            clear hs2 R7 hA7 hF7 hT7 K6 d1 d2
            go_wp2
            go_roundw
            case rel => exact ⟨k + 1, putF E x y, T6, T7, by omega, by go_num, K7.out, putF_ne HX.out HE.out⟩
            case measure => simp [intOf]; omega
        · clear hK
          go_wp2
          go_meet
          exact ⟨E, T4, T5, HK.out, HE.out⟩
      · clear hK
        go_wp2
        go_meet
        exact ⟨E, T4, T5, HK.out, HE.out⟩
  case rest =>
    obtain ⟨E, T4, T5, hK, hE⟩ := hcut
    have HE := Lib.hid hE
    have hset := wset_any id a wc hK.sv HID.out hK.fr.size
    clear K5 hE
    go_wp2_with (fail)
    refine hset.mono ?_
    intro e6 w6 R6
    by_cases hbad : id < 0 ∨ 64 ≤ id ∨ a ≤ 0 ∨ 1099511627776 < a
    · obtain ⟨rfl, hF6⟩ := R6.errE (show setE 0 id a = some 1 from if_pos hbad)
      have hFe := hK.fr.trans hF6
      have q : id < 0 ∨ (¬ id < 0 ∧ 64 ≤ id) ∨ (¬ id < 0 ∧ ¬ 64 ≤ id ∧ a < 1) ∨ (¬ id < 0 ∧ ¬ 64 ≤ id ∧ ¬ a < 1 ∧ 1099511627776 < a) := by omega
      clear hset R6 hF6 hK hbad
      rcases q with q | ⟨q, q2⟩ | ⟨q, q2, q3⟩ | ⟨q, q2, q3, q4⟩
      all_goals
        go_wp2
        go_ret
        exact RetV.mk rfl rfl hFe
    · have hsn : setE 0 id a = none := if_neg hbad
      obtain ⟨rfl, T6, hA6, hF6, hT6⟩ := R6.okE hsn
      have K6 := hK.stepV hA6 hF6 hT6
      have hclr := wclear_any id w6 K6.sv HID.out
      have hce : clrE (setF E id a) id = none := by unfold clrE setF; rw [if_neg (by omega), if_neg (by simp)]
      clear hset R6 hA6 hF6 hT6 hK
      go_wp2_with (fail)
      refine hclr.mono ?_
      intro e7 w7 R7
      obtain ⟨rfl, hA7, hF7⟩ := R7.okE hce
      have K7 := (K6.stepV hA7 hF7 (fun k hk => .inl hk)).congr (Ev' := E) (Ew' := E) (fun i => by
        unfold clrF setF
        split
        · rename_i e; rw [e]; exact HE.out
        · rfl) (fun _ => rfl)
      clear hclr R7 hA7 hF7 K6 hce hsn hbad
      have htk := wtickU_any now w7 K7.sv
      go_wp2_with (fail)
      refine htk.mono ?_
      rintro e8 w8 ⟨l, a8, c8, o8, err, En, nx, rfl, hI8, hl8, hO8, hN8, hA8, hF8⟩
      have K8 := K7.stepV hA8 hF8 (fun k hk => .inl hk)
      have hlt5 := K7.sw.lt
      have htk2 := wtickU_any now w8 K8.sw
      clear htk hA8 hF8 K7
      go_wp2_with (fail)
      refine htk2.mono ?_
      rintro e9 w9 ⟨l', a9, c9, o9, err', En', nx', rfl, hI9, -, hO9, -, hA9, hF9⟩
      obtain ⟨rfl, rfl, rfl⟩ := tickIs_one hI8 hI9
      have K9 := K8.stepW hA9 hF9 (fun k hk => .inl hk)
      have hO89 := hO8.fr hF9 (fun g hg ht => by have h1 := hN8 g hg; have h2 := hlt5 g ht; omega)
      have HNI := Lib.hid (tickIs_not hI8 HE.out)
      have hto := told2_any err err w9 (hg.none K9.fr)
      rw [show (errN err == errN err) = true by simp] at hto
      obtain ⟨M, hM⟩ : ∃ M, M = l.length := ⟨_, rfl⟩
      obtain ⟨xs, hxs⟩ : ∃ xs, xs = l.map Prod.snd := ⟨_, rfl⟩
      have hxl : M = xs.length := by rw [hM, hxs]; simp
      rw [← hxs] at hO89 hO9 HNI
      rw [← hM] at hO89 hO9 hl8 ⊢
      have HXL := Lib.hid hxl
      clear htk2 hA9 hF9 K8 hO8 hN8 hI8 hI9 hlt5 hM hxs hxl
      go_wp2_with (fail)
      refine hto.mono ?_
      rintro e10 w10 ⟨rfl, hF10⟩
      have K10 := K9.fr0 hF10
      have hOa := hO89.fr hF10 (fun _ _ h => h)
      have hOb := hO9.fr hF10 (fun _ _ h => h)
      have hin := ints_any' xs xs a8 a9 c8 c9 w10 (by show Rd _ _ _ _ _; rw [← HXL.out]; exact hOa.rd) (by show Rd _ _ _ _ _; rw [← HXL.out]; exact hOb.rd) (by have := HXL.out; omega) (by have := HXL.out; omega) HXL.out HXL.out
      rw [decide_eq_true rfl] at hin
      clear hto hF10 K9 hO89 hO9 hOb
      go_wp2_with (fail)
      refine hin.mono ?_
      intro e11 w11 R11
      obtain ⟨rfl, hF11⟩ := R11.v
      have K11 := K10.fr0 hF11
      have hOc := hOa.fr hF11 (fun _ _ h => h)
      have hl1 := wlen_any w11 K11.sv
      clear hin R11 hF11 K10 hOa
      go_wp2_with (fail)
      refine hl1.mono ?_
      rintro e12 w12 ⟨n1, rfl, hc1, hF12⟩
      have K12 := K11.fr0 hF12
      have hOd := hOc.fr hF12 (fun _ _ h => h)
      have hl2 := wlen_any w12 K12.sw
      clear hl1 hF12 K11 hOc
      go_wp2_with (fail)
      refine hl2.mono ?_
      rintro e13 w13 ⟨n2, rfl, hc2, hF13⟩
      obtain rfl := counts_one hc1 hc2
      have hFe := Lib.hid (K12.fr.trans hF13)
      have hOe := hOd.fr hF13 (fun _ _ h => h)
      have hin2 := in2_any xs a8 c8 id w13 (by show Rd _ _ _ _ _; rw [← HXL.out]; exact hOe.rd) HXL.out (by omega)
      rw [decide_eq_false HNI.out] at hin2
      clear hl2 hF13 K12 hOd hc1 hc2 hOe
      go_wp2_with (fail)
      refine hin2.mono ?_
      rintro e14 w14 ⟨rfl, rfl⟩
      clear hin2
      go_wp2
      go_ret
      exact RetV.mk rfl rfl hFe.out
end Go.Proofs.YtbmeeglehbaggaaDoor
