import Derived.Test.YtakkljdeencfbaaDoorSpan3
import Derived.Test.YtakkljdeencfbaaDoorGOk
namespace Go.Proofs.YtakkljdeencfbaaDoor
open Go.RowKit

def bOf : Value → Nat
  | .bool true => 1
  | _ => 0
def cI (w : World) (g j : Nat) : Int := match w.cell? ⟨g, j, none⟩ with
  | some v => intOf v
  | none => 0
def bsM (w : World) (g n : Nat) : Nat := ((List.range n).map fun i => blW ⟨cI w g (i * 3 + 0), cI w g (i * 3 + 1), cI w g (i * 3 + 2)⟩).sum
theorem bsM_eq {w : World} {g n c : Nat} {bs : List Bl} {T : TypeId} (h : Own w.heap T 3 (some ⟨g, 0, none⟩) n c (bs.flatMap Bl.cells) (some g)) (hl : bs.length = n) : bsM w g n = bsW bs := by
  have e : bs.map blW = (List.range n).map fun i => blW (nth bs i) := by
    apply List.ext_getElem
    · simp [hl]
    · intro i h1 h2
      simp at h1
      simp [nth_eq bs i h1]
  unfold bsM bsW
  rw [e]
  refine congrArg List.sum (List.map_congr_left fun i hi => ?_)
  have hi' : i < n := by simpa using hi
  obtain ⟨g', h1, h2, -, h4, -⟩ := h.pos (by omega)
  cases h2
  have k : ∀ j, j < 3 → cI w g (i * 3 + j) = match (Bl.cells (nth bs i))[j]? with | some v => intOf v | none => 0 := fun j hj => by
    unfold cI
    rw [(h4 (i * 3 + j) (by omega)).trans (flat_get _ 3 Bl.cells_len bs i j (by omega) hj)]
  rw [k 0 (by omega), k 1 (by omega), k 2 (by omega)]
  rfl

theorem infoBl : (Tryd.prog.info? 71).map (fun i => (i.zero, i.size, i.bytes)) = some (some (.agg #[.int .i64 0, .int .i64 0, .int .i64 0]), 3, 24) := by kernel_rfl
theorem bl_set (l : List Bl) (i : Nat) (b : Bl) (h : i < l.length) : (((l.flatMap Bl.cells).set (i * 3) (.int .i64 b.r)).set (i * 3 + 1) (.int .i64 b.f)).set (i * 3 + 2) (.int .i64 b.u) = (l.set i b).flatMap Bl.cells := by
  induction l generalizing i with
  | nil => simp at h
  | cons y l ih =>
    cases i with
    | zero => rfl
    | succ i =>
      have := ih i (by simpa using h)
      rw [List.set_cons_succ, List.flatMap_cons, List.flatMap_cons, ← this]
      rw [show (i + 1) * 3 = i * 3 + 1 + 1 + 1 by omega]
      rfl
theorem bs0_succ (k : Nat) : bs0 (k + 1) = bs0 k ++ [⟨k, 0, -1⟩] := by unfold bs0; rw [List.range_succ]; simp
/-- One pass: each tells, one after the other, both ways; so many passes; where they come to. -/
def stepT (l : List Lk) (bs : List Bl) : List Bl := (l ++ l.map Lk.turn).foldl tell bs
def itT (l : List Lk) (k : Nat) : Nat → List Bl
  | 0 => bs0 k
  | i + 1 => stepT l (itT l k i)
def FinT (l : List Lk) (k : Nat) (bs : List Bl) : Prop := ∃ i, bs = itT l k i ∧ stepT l bs = bs
theorem itT_add (l : List Lk) (k : Nat) {i : Nat} (h : stepT l (itT l k i) = itT l k i) : ∀ j, itT l k (i + j) = itT l k i
  | 0 => rfl
  | j + 1 => by rw [← Nat.add_assoc]; show stepT l (itT l k (i + j)) = _; rw [itT_add l k h j, h]
theorem FinT.eq {l : List Lk} {k : Nat} {bs cs : List Bl} (h : FinT l k bs) (h' : FinT l k cs) : bs = cs := by
  obtain ⟨i, rfl, h1⟩ := h
  obtain ⟨j, rfl, h2⟩ := h'
  rcases Nat.le_total i j with hij | hij
  · have := itT_add l k h1 (j - i); rw [Nat.add_sub_cancel' hij] at this; exact this.symm
  · have := itT_add l k h2 (i - j); rw [Nat.add_sub_cancel' hij] at this; exact this
/-- What comes of a list of beliefs. -/
def RetBs (w : World) (n : Int) (l : List Lk) (r : Option Int) (e : Ending) (w' : World) : Prop :=
  match r with
  | some k => RetV w (.tuple #[.slice none 0 0, errv k]) e w'
  | none => ∃ a c ob bs, e = .returned (.tuple #[.slice a n.toNat c, .nilIface]) ∧ Own w'.heap 71 3 a n.toNat c (bs.flatMap Bl.cells) ob ∧ Fr (fun _ => False) w w' ∧ (∀ g, ob = some g → w.heap.size ≤ g) ∧ BsOk n.toNat bs ∧ Rooted l n.toNat bs ∧ Still l bs ∧ FinT l n.toNat bs
theorem RetBs.err {w w' : World} {n : Int} {l : List Lk} {r : Option Int} {k : Int} {e : Ending} (h : r = some k) (he : e = .returned (.tuple #[.slice none 0 0, errv k])) (hF : Fr (fun _ => False) w w') : RetBs w n l r e w' := by subst h; exact ⟨he, hF⟩
theorem RetBs.ok {w w' : World} {k : Nat} {l : List Lk} {r : Option Int} {e : Ending} {a : Option Addr} {c : Nat} {ob : Option Nat} {bs : List Bl} (h : r = none) (he : e = .returned (.tuple #[.slice a k c, .nilIface])) (hO : Own w'.heap 71 3 a k c (bs.flatMap Bl.cells) ob) (hF : Fr (fun _ => False) w w') (hN : ∀ g, ob = some g → w.heap.size ≤ g) (h1 : BsOk k bs) (h2 : Rooted l k bs) (h3 : Still l bs) (h4 : FinT l k bs) : RetBs w (k : Int) l r e w' := by
  subst h; exact ⟨a, c, ob, bs, he, hO, hF, hN, h1, h2, h3, h4⟩
/-- Links, and the same turned. -/
theorem both_ok {k : Nat} {l : List Lk} (h : ∀ x ∈ l, ¬ Lk.bad (k : Int) x ∧ x.a ≠ x.b) : ∀ x ∈ l ++ l.map Lk.turn, (0 ≤ x.a ∧ x.a < k) ∧ (0 ≤ x.b ∧ x.b < k) ∧ (1 ≤ x.c ∧ x.c ≤ 15) := fun x hx => by
  rcases List.mem_append.1 hx with hx | hx
  · have := (h x hx).1
    unfold Lk.bad at this
    omega
  · obtain ⟨y, hy, rfl⟩ := List.mem_map.1 hx
    have := (h y hy).1
    unfold Lk.bad at this
    simp only [Lk.turn]
    omega
theorem both_same {l : List Lk} (g : Int → Int) (h : ∀ x ∈ l, g x.a = g x.b) : ∀ x ∈ l ++ l.map Lk.turn, g x.a = g x.b := fun x hx => by
  rcases List.mem_append.1 hx with hx | hx
  · exact h x hx
  · obtain ⟨y, hy, rfl⟩ := List.mem_map.1 hx
    exact (h y hy).symm
theorem both_still {l : List Lk} {bs : List Bl} (h : ∀ x ∈ l ++ l.map Lk.turn, ¬ Bl.lt (told bs x) (nth bs x.b.toNat)) : Still l bs :=
  still_of fun x hx => ⟨h x (List.mem_append_left _ hx), h (Lk.turn x) (List.mem_append_right _ (List.mem_map.2 ⟨x, hx, rfl⟩))⟩

set_option maxRecDepth 100000 in
set_option maxHeartbeats 2000000 in
theorem beliefs_any (n : Int) (l : List Lk) (a : Option Addr) (c : Nat) (w : World) (hL : Links w.heap a l) (hl : l.length ≤ 9223372036854775807) (hw : ∀ x ∈ l, (Lit.int .i64 x.a).wf = true ∧ (Lit.int .i64 x.b).wf = true ∧ (Lit.int .i64 x.c).wf = true) :
    Calls Tryd.prog 37 #[.int .i64 n, .slice a l.length c] w (RetBs w n l (graphErr n l)) := by
  obtain ⟨GE, hGE⟩ : ∃ GE, GE = graphErr n l := ⟨_, rfl⟩
  rw [← hGE]
  have HGE := Lib.hid hGE
  clear hGE
  go_enter Tryd.func37, Tryd.ntmps37
  go_wp2_with (go_at_call 26; refine (gcheck_any n l a c _ hL hl hw).mono ?_)
  intro e1 w1 R1
  obtain ⟨rfl, hF1⟩ := R1
  cases hg : graphErr n l with
  | some k =>
    have hX := Lib.hid (show GE = some k from HGE.out.trans hg)
    clear hg
    rw [show errO (some k) = errv k from rfl]
    go_wp2
    go_ret2
    exact RetBs.err hX.out rfl hF1
  | none =>
    have hX := Lib.hid (show GE = none from HGE.out.trans hg)
    obtain ⟨hn, hok, hlen⟩ := graph_ok hg
    have HOK := Lib.hid hok
    obtain ⟨N, rfl⟩ : ∃ N : Nat, n = N := ⟨n.toNat, by omega⟩
    have hN1 : 1 ≤ N ∧ N ≤ 8 := by omega
    clear hg hok hn hw HGE
    rw [show errO none = .nilIface from rfl]
    go_wp2
    go_loopw [20, 7] (fun s20 s7 wr => ∃ (k : Nat) (ao : Option Addr) (co : Nat) (ob : Option Nat), k ≤ N ∧ s20 = .int .i64 k ∧ s7 = .slice ao k co ∧ Own wr.heap 71 3 ao k co ((bs0 k).flatMap Bl.cells) ob ∧ Fr (fun _ => False) w wr ∧ (∀ g, ob = some g → w.heap.size ≤ g)) (fun s _ _ => N - (intOf s).toNat)
    case atStart => exact ⟨0, none, 0, none, by omega, rfl, rfl, Own.nil _ _ _, hF1, (fun g h => nomatch h)⟩
    case round =>
      obtain ⟨k, ao, co, ob, hk, rfl, rfl, hO, hF, hN⟩ := hrel
      have hcap := hO.cap
      by_cases hkl : k < N
      · have htk : (bs0 (k + 1)).flatMap Bl.cells = (bs0 k).flatMap Bl.cells ++ [.int .i64 k, .int .i64 0, .int .i64 (-1)] := by
          rw [bs0_succ, List.flatMap_append]; simp
        have HT := Lib.hid htk
        clear htk
        have hrd := rd_lit wr 71 [.int .i64 k, .int .i64 0, .int .i64 (-1)]
        go_wp2_with (at_builtin; refine wpList_app rfl _ _ 67 rfl Tryd.underlying67 infoBl rfl (by decide) rfl rfl (hO.alloc _) hrd (by simp [Value.oneCell']) (by omega) (by omega) ?_)
        intro a' c' w6 ob' z1 z2 z3
        have hF6 := Fr.app (hF.alloc _) z2 hN
        have hN6 := app_new hN z3 (by have := hF.size; simp; omega)
        have z1 : Own w6.heap 71 3 a' (k + 1) c' ((bs0 (k + 1)).flatMap Bl.cells) ob' := by rw [HT.out]; exact z1
        clear z2 z3 hrd hO
        go_wp2
        go_roundw
        case rel => exact ⟨k + 1, a', c', ob', by omega, by go_num, rfl, z1, hF6, hN6⟩
        case measure => simp [intOf]; omega
      · obtain rfl : k = N := by omega
        obtain ⟨g, rfl, rfl, hgw, -, -⟩ := hO.pos (by omega)
        have hgn := hN g rfl
        have hok0 := bs0_ok k
        have hro0 : Hid (Rooted l k (bs0 k) ∧ ∃ i, bs0 k = itT l k i) := ⟨bs0_rooted l k, 0, rfl⟩
        go_wp2
        go_loopw [9] (fun s9 wx => ∃ (ch : Bool) (bs : List Bl), s9 = .bool ch ∧ Own wx.heap 71 3 (some ⟨g, 0, none⟩) k co (bs.flatMap Bl.cells) (some g) ∧ BsOk k bs ∧ Hid (Rooted l k bs ∧ ∃ i, bs = itT l k i) ∧ Hid (ch = false → Still l bs ∧ stepT l bs = bs) ∧ Fr (fun _ => False) w wx) (fun s wx => 2 * bsM wx g k + bOf s)
        case atStart => exact ⟨true, _, rfl, hO, hok0, hro0, Lib.hid (fun h => nomatch h), hF⟩
        case round =>
          clear hO hok0 hro0 hF
          obtain ⟨ch, bs, rfl, hO, hok, hro, hst, hF⟩ := hrel
          cases ch with
          | false =>
            have hS := Lib.hid (hst.out rfl)
            go_wp2
            go_ret2
            exact RetBs.ok hX.out rfl hO hF (fun q hq => hN q hq) hok hro.out.1 hS.out.1 (by obtain ⟨i, hi⟩ := hro.out.2; exact ⟨i, hi, hS.out.2⟩)
          | true =>
            have hLx := hL.fr hF (fun _ _ _ h => h)
            have hmu := bsM_eq hO hok.len
            clear hst
            go_wp2_with (go_at_call 46; refine (turned_any l a c _ hLx (by omega)).mono ?_)
            intro e2 w2 R2
            obtain ⟨a2, c2, ob2, rfl, hO2, hF2, hN2⟩ := R2
            have hgx : g < wr.heap.size := hO.lt g rfl
            have hOy := (hO.fr hF2 (fun _ _ h => h)).alloc (.cells #[.slice a l.length c, .slice a2 l.length c2] 22)
            have hL2 : Links (w2.alloc (.cells #[.slice a l.length c, .slice a2 l.length c2] 22)).heap a2 (l.map Lk.turn) := by
              have := (hO2.alloc (.cells #[.slice a l.length c, .slice a2 l.length c2] 22)).rd
              unfold Links Recs
              rw [List.length_map]
              exact this
            have hL1 := (hLx.fr hF2 (fun _ _ _ h => h)).fr ((Fr.refl (fun _ => False) w2).alloc (.cells #[.slice a l.length c, .slice a2 l.length c2] 22)) (fun _ _ _ h => h)
            have hF3 := (hF.trans hF2).alloc (.cells #[.slice a l.length c, .slice a2 l.length c2] 22)
            have hg2 : g < w2.heap.size := Nat.lt_of_lt_of_le hgx hF2.size
            clear hLx hF2 hN2 hO2
            go_wp2_with (go_at_call 45; refine (concatL_any l (l.map Lk.turn) w2.heap.size a a2 c c2 _ hL1 hL2 (by simp) (by simp) (by simp) (by omega) (by simp; omega)).mono ?_)
            intro e4 w4 R4
            rw [List.length_map] at R4
            obtain ⟨a4, c4, ob4, he4, hO4, hF4, hN4⟩ := R4
            have hOz := hOy.fr hF4 (fun _ _ h => h)
            have hF5 := hF3.trans hF4
            have hN5 : ∀ q, ob4 = some q → q ≠ g := fun q hq e => by have := hN4 q hq; simp at this; omega
            obtain ⟨M, hM⟩ : ∃ M, M = l.length + l.length := ⟨_, rfl⟩
            rw [← hM] at he4 hO4
            subst he4
            have hM2 : M ≤ 128 := by omega
            have HR := Lib.hid (both_ok HOK.out)
            have HS := Lib.hid (fun gg => both_same (l := l) gg)
            have HT := Lib.hid (fun bb => both_still (l := l) (bs := bb))
            have HML : Hid ((l ++ l.map Lk.turn).length = M) := Lib.hid (by simp; omega)
            have HST : Hid (∀ bs, stepT l bs = (l ++ l.map Lk.turn).foldl tell bs) := Lib.hid (fun _ => rfl)
            generalize l ++ l.map Lk.turn = L2 at *
            clear hL1 hL2 hOy hN4 hM hF3 hF4
            go_wp2
            go_loopw [36, 9] (fun s36 s9 wy => ∃ (j : Nat) (ch : Bool) (cs : List Bl), j ≤ M ∧ s36 = .int .i64 j ∧ s9 = .bool ch ∧ Own wy.heap 71 3 (some ⟨g, 0, none⟩) k co (cs.flatMap Bl.cells) (some g) ∧ BsOk k cs ∧ Hid (Rooted l k cs ∧ cs = (L2.take j).foldl tell bs) ∧ Hid (ch = false → cs = bs ∧ ∀ i, i < j → ¬ Bl.lt (told bs (nth L2 i)) (nth bs (nth L2 i).b.toNat)) ∧ Hid (ch = true → bsW cs < bsW bs) ∧ Fr (fun q => q = g) w4 wy) (fun s _ _ => M - (intOf s).toNat)
            case atStart => exact ⟨0, false, bs, by omega, rfl, rfl, hOz, hok, ⟨hro.out.1, rfl⟩, Lib.hid (fun _ => ⟨rfl, fun i hi => absurd hi (Nat.not_lt_zero _)⟩), Lib.hid (fun h => nomatch h), Fr.refl _ _⟩
            case round =>
              clear hOz
              have HRO0 := Lib.hid hro.out.2
              clear hro
              obtain ⟨j, ch, cs, hj, rfl, rfl, hO, hokc, hro, hst, hdn, hFy⟩ := hrel
              by_cases hjm : j < M
              · obtain ⟨g4, rfl, rfl, hg4, hc4, -⟩ := hO4.pos (by omega)
                have hne : g4 ≠ g := hN5 g4 rfl
                have hjl : j < L2.length := by rw [HML.out]; exact hjm
                have c0 := (hFy.cell (p := ⟨g4, j * 3 + 0, none⟩) hg4 hne).trans ((hc4 (j * 3 + 0) (by omega)).trans (flat_get _ 3 Lk.cells_len L2 j 0 hjl (by omega)))
                have c1 := (hFy.cell (p := ⟨g4, j * 3 + 1, none⟩) hg4 hne).trans ((hc4 (j * 3 + 1) (by omega)).trans (flat_get _ 3 Lk.cells_len L2 j 1 hjl (by omega)))
                have c2' := (hFy.cell (p := ⟨g4, j * 3 + 2, none⟩) hg4 hne).trans ((hc4 (j * 3 + 2) (by omega)).trans (flat_get _ 3 Lk.cells_len L2 j 2 hjl (by omega)))
                have hxm := nth_mem L2 j hjl
                obtain ⟨hra, hrb, hrc⟩ := HR.out _ hxm
                have hsm := Lib.hid (fun gg hgg => HS.out gg hgg _ hxm)
                clear hc4 hxm
                have hj1 : ∀ i, i < j + 1 → i < j ∨ i = j := fun i hi => by omega
                have HTAKE := Lib.hid (show (L2.take (j + 1)).foldl tell bs = tell cs (nth L2 j) by rw [take_succ_nth L2 j hjl, List.foldl_append, ← hro.out.2]; rfl)
                have HJ := Lib.hid hj1
                obtain ⟨x, hx⟩ : ∃ x, x = nth L2 j := ⟨_, rfl⟩
                rw [← hx] at c0 c1 c2' hra hrb hrc hsm
                have HXX := Lib.hid hx
                clear hx hj1
                obtain ⟨xa, xb, xc⟩ := x
                simp only [Lk.cells, List.getElem?_cons_zero, List.getElem?_cons_succ, Nat.add_zero] at c0 c1 c2' hra hrb hrc
                obtain ⟨p, rfl⟩ := Int.eq_ofNat_of_zero_le (show 0 ≤ xa by omega)
                obtain ⟨q, rfl⟩ := Int.eq_ofNat_of_zero_le (show 0 ≤ xb by omega)
                have hpk : p < k := by omega
                have hqk : q < k := by omega
                have hgy : g < wr.heap.size := hO.lt g rfl
                have hcl := hokc.len
                obtain ⟨_, _, hh, -, hcc, hfz⟩ := hO.pos (by omega)
                cases hh
                have p0 := (hcc (p * 3 + 0) (by omega)).trans (flat_get _ 3 Bl.cells_len cs p 0 (by omega) (by omega))
                have p1 := (hcc (p * 3 + 1) (by omega)).trans (flat_get _ 3 Bl.cells_len cs p 1 (by omega) (by omega))
                have z0 := (hcc (q * 3 + 0) (by omega)).trans (flat_get _ 3 Bl.cells_len cs q 0 (by omega) (by omega))
                have z1 := (hcc (q * 3 + 1) (by omega)).trans (flat_get _ 3 Bl.cells_len cs q 1 (by omega) (by omega))
                have z2 := (hcc (q * 3 + 2) (by omega)).trans (flat_get _ 3 Bl.cells_len cs q 2 (by omega) (by omega))
                have hf0 := hokc.f0 p hpk
                have hf1 := hokc.far hpk
                have HTO : Hid (told cs ⟨p, q, xc⟩ = ⟨(nth cs p).r, (nth cs p).f + xc, p⟩) := Lib.hid (by simp [told])
                have HNP : Hid (∀ y, y = nth cs q → nth cs q = y) := Lib.hid (fun y h => h.symm)
                obtain ⟨y, hy⟩ : ∃ y, y = nth cs p := ⟨_, rfl⟩
                obtain ⟨z, hz⟩ : ∃ z, z = nth cs q := ⟨_, rfl⟩
                rw [← hy] at p0 p1 hf0 hf1 HTO
                rw [← hz] at z0 z1 z2
                have HZ := Lib.hid hz
                clear hcc hy hz
                obtain ⟨ra, fa, ua⟩ := y
                obtain ⟨rb, fb, ub⟩ := z
                simp only [Bl.cells, List.getElem?_cons_zero, List.getElem?_cons_succ, Nat.add_zero] at p0 p1 z0 z1 z2 hf0 hf1 HTO
                have q0 : ∀ c : Cls (fun _ => False) (wr.alloc (.cells #[.int .i64 p, .int .i64 q, .int .i64 xc] 32)), c.wo.cell? ⟨wr.heap.size, 0, none⟩ = some (.int .i64 p) := fun c => by
                  rw [c.fr.cell (by simp) (fun h => h)]; simp
                have q2 : ∀ c : Cls (fun _ => False) (wr.alloc (.cells #[.int .i64 p, .int .i64 q, .int .i64 xc] 32)), c.wo.cell? ⟨wr.heap.size, 2, none⟩ = some (.int .i64 xc) := fun c => by
                  rw [c.fr.cell (by simp) (fun h => h)]; simp
                have qr : ∀ c : Cls (fun _ => False) (wr.alloc (.cells #[.int .i64 p, .int .i64 q, .int .i64 xc] 32)), c.wo.cell? ⟨g, p * 3, none⟩ = some (.int .i64 ra) := fun c => by
                  rw [c.fr.cell (by simp; omega) (fun h => h)]; exact (((Fr.refl (fun _ => False) wr).alloc _).cell (p := ⟨g, p * 3, none⟩) hgy (fun h => h)).trans p0
                have qf : ∀ c : Cls (fun _ => False) (wr.alloc (.cells #[.int .i64 p, .int .i64 q, .int .i64 xc] 32)), c.wo.cell? ⟨g, p * 3 + 1, none⟩ = some (.int .i64 fa) := fun c => by
                  rw [c.fr.cell (by simp; omega) (fun h => h)]; exact (((Fr.refl (fun _ => False) wr).alloc _).cell (p := ⟨g, p * 3 + 1, none⟩) hgy (fun h => h)).trans p1
                go_wp2
                (refine wp_region_mix (fun w' => ∃ c : Cls (fun _ => False) (wr.alloc (.cells #[.int .i64 p, .int .i64 q, .int .i64 xc] 32)), w' = c.wo) 19 (by kernel_rfl) (by kernel_rfl) (⟨⟨_, (Fr.refl _ _).drew⟩, rfl⟩) ?_; simp only [List.take_succ_cons, List.take_zero, List.drop_succ_cons, List.drop_zero])
                (refine wpMix_lateN 18 (⟨⟨_, (Fr.refl _ _).drew⟩, rfl⟩) (by kernel_rfl) ?_; simp only [List.take_succ_cons, List.take_zero, List.drop_succ_cons, List.drop_zero]; (repeat (go_big_quiet_step (fail))); refine wpQuiet_nil ?_)
                refine wpMix_eff (by kernel_rfl) ?_
                go_wp2
                refine ⟨⟨⟨_, ((Fr.refl _ _).alloc _).drew⟩, rfl⟩, ?_⟩
                refine wpMix_nil ?_
                clear q0 q2 qr qf
                go_wp2
                (refine wp_region_mix (fun _ => True) 6 (by kernel_rfl) (by kernel_rfl) (trivial) ?_; simp only [List.take_succ_cons, List.take_zero, List.drop_succ_cons, List.drop_zero])
                (refine wpMix_earlyN 6 (by kernel_rfl) (by kernel_rfl) ?_; simp only [List.take_succ_cons, List.take_zero, List.drop_succ_cons, List.drop_zero]; (repeat (go_big_quiet_step (fail))); refine wpQuiet_nil ?_)
                refine wpMix_nil ?_
                go_wp2_with (go_at_call 47; refine (better_any ⟨ra, fa + xc, p⟩ ⟨rb, fb, ub⟩ _).mono ?_)
                intro e8 w8 R8
                obtain ⟨rfl, hF8⟩ := R8
                have hFw8 : Fr (fun _ => False) wr w8 := ((((Fr.refl (fun _ => False) wr).alloc _).alloc _).drew.drew).trans hF8
                have b1 := (hF8.cell (p := ⟨wr.heap.size, 1, none⟩) (by simp; omega) (fun h => h)).trans (show _ = some (Value.int .i64 q) by simp)
                have t0 := (hF8.cell (p := ⟨wr.heap.size + 1, 0, none⟩) (by simp) (fun h => h)).trans (show _ = some (Value.int .i64 ra) by simp)
                have t1 := (hF8.cell (p := ⟨wr.heap.size + 1, 1, none⟩) (by simp) (fun h => h)).trans (show _ = some (Value.int .i64 (fa + xc)) by simp)
                have t2 := (hF8.cell (p := ⟨wr.heap.size + 1, 2, none⟩) (by simp) (fun h => h)).trans (show _ = some (Value.int .i64 p) by simp)
                have y0 := (hFw8.cell (p := ⟨g, q * 3, none⟩) hgy (fun h => h)).trans z0
                have y1 := (hFw8.cell (p := ⟨g, q * 3 + 1, none⟩) hgy (fun h => h)).trans z1
                have y2 := (hFw8.cell (p := ⟨g, q * 3 + 2, none⟩) hgy (fun h => h)).trans z2
                have hO8 := hO.fr hFw8 (fun _ _ h => h)
                have hFy8 := hFy.trans (hFw8.none _)
                obtain ⟨_, _, hh, hg8, -, hfz8⟩ := hO8.pos (by omega)
                cases hh
                clear hF8 hFw8 z0 z1 z2 p0 p1 c0 c1 c2' hO hFy hfz
                by_cases hlt : Bl.lt ⟨ra, fa + xc, p⟩ ⟨rb, fb, ub⟩
                · rw [decide_eq_true hlt]
                  have HLT : Hid (Bl.lt (told cs ⟨p, q, xc⟩) (nth cs q)) := Lib.hid (by rw [HTO.out, ← HZ.out]; exact hlt)
                  clear hlt
                  have hset := ((hO8.set rfl (q * 3) (.int .i64 ra)).set rfl (q * 3 + 1) (.int .i64 (fa + xc))).set rfl (q * 3 + 2) (.int .i64 p)
                  rw [bl_set cs q ⟨ra, fa + xc, p⟩ (by omega)] at hset
                  have HN := tell_ok hokc (x := ⟨p, q, xc⟩) hra hrb hrc HLT.out
                  have HW := tell_less hokc hN1.2 (x := ⟨p, q, xc⟩) hra hrb hrc HLT.out
                  have HRO := tell_rooted hro.out.1 hcl (x := ⟨p, q, xc⟩) hra hrb (fun gg hgg => hsm.out gg hgg)
                  simp only [Int.toNat_natCast] at HN HW HRO
                  rw [HTO.out] at HN HW HRO
                  have HW2 := Lib.hid HW
                  have HTL : tell cs (nth L2 j) = cs.set q ⟨ra, fa + xc, p⟩ := by rw [← HXX.out, ← HTO.out]; exact if_pos HLT.out
                  have HRO2 : Hid (Rooted l k (cs.set q ⟨ra, fa + xc, p⟩) ∧ cs.set q ⟨ra, fa + xc, p⟩ = (L2.take (j + 1)).foldl tell bs) := ⟨HRO, by rw [HTAKE.out, HTL]⟩
                  clear HTL
                  clear HW HRO
                  have hFz : Fr (fun q => q = g) w4 (((w8.setCell ⟨g, q * 3, none⟩ (.int .i64 ra)).setCell ⟨g, q * 3 + 1, none⟩ (.int .i64 (fa + xc))).setCell ⟨g, q * 3 + 2, none⟩ (.int .i64 p)) := ((hFy8.setCell (fun _ => rfl) _).setCell (fun _ => rfl) _).setCell (fun _ => rfl) _
                  go_wp2
                  go_roundw
                  case rel => exact ⟨j + 1, true, _, by omega, by go_num, rfl, hset, HN, HRO2, Lib.hid (fun h => nomatch h), Lib.hid (fun _ => by
                    have h1 := HW2.out
                    cases hc : ch with
                    | true => exact Nat.lt_trans h1 (hdn.out hc)
                    | false => rw [← (hst.out hc).1]; exact h1), hFz⟩
                  case measure => simp [intOf]; omega
                · rw [decide_eq_false hlt]
                  have HLT : Hid (¬ Bl.lt (told cs ⟨p, q, xc⟩) (nth cs q)) := Lib.hid (by rw [HTO.out, ← HZ.out]; exact hlt)
                  clear hlt y0 y1 y2 t0 t1 t2 b1
                  go_wp2
                  go_roundw
                  case rel => exact ⟨j + 1, ch, cs, by omega, by go_num, rfl, hO8, hokc, ⟨hro.out.1, by rw [HTAKE.out, ← HXX.out]; exact (if_neg HLT.out).symm⟩, Lib.hid (fun h => by
                    obtain ⟨e, h2⟩ := hst.out h
                    refine ⟨e, fun i hi => ?_⟩
                    rcases HJ.out i hi with hi | rfl
                    · exact h2 i hi
                    · rw [← e, ← HXX.out]
                      exact HLT.out), hdn, hFy8⟩
                  case measure => simp [intOf]; omega
              · obtain rfl : j = M := by omega
                have hmv := bsM_eq hO hokc.len
                go_wp2
                go_roundw
                have hfold : cs = stepT l bs := by rw [HST.out bs, hro.out.2, List.take_of_length_le (by rw [HML.out]; omega)]
                case rel => exact ⟨ch, cs, rfl, hO, hokc, ⟨hro.out.1, by obtain ⟨i, hi⟩ := HRO0.out; exact ⟨i + 1, by rw [hfold, hi]; rfl⟩⟩, Lib.hid (fun h => by
                  obtain ⟨rfl, h2⟩ := hst.out h
                  refine ⟨?_, hfold.symm⟩
                  exact HT.out cs (fun x hx => by
                    obtain ⟨i, hi, rfl⟩ := List.mem_iff_getElem.1 hx
                    have := h2 i (by rw [← HML.out]; exact hi)
                    rwa [nth_eq L2 i hi] at this)), hF5.trans' hFy (fun q hq e => by omega)⟩
                case measure =>
                  rw [hmu, hmv]
                  cases ch with
                  | true => have := hdn.out rfl; simp only [bOf]; omega
                  | false => obtain ⟨rfl, _⟩ := hst.out rfl; simp only [bOf]; omega
end Go.Proofs.YtakkljdeencfbaaDoor
