import Derived.Test.YtakkljdeencfbaaDoorSpan5
namespace Go.Proofs.YtakkljdeencfbaaDoor
open Go.RowKit

/-- What is told of the ways up. -/
def RetUp (w : World) (n : Int) (l : List Lk) (r : Option Int) (e : Ending) (w' : World) : Prop :=
  match r with
  | some k => RetV w (.tuple #[.slice none 0 0, errv k]) e w'
  | none => ∃ a c ob bs, e = .returned (.tuple #[.slice a n.toNat c, .nilIface]) ∧ Own w'.heap 3 1 a n.toNat c (ivals .i64 (bs.map Bl.u)) ob ∧ Fr (fun _ => False) w w' ∧ (∀ g, ob = some g → w.heap.size ≤ g) ∧ BsOk n.toNat bs ∧ FinT l n.toNat bs
theorem RetUp.err {w w' : World} {n : Int} {l : List Lk} {r : Option Int} {k : Int} {e : Ending} (h : r = some k) (he : e = .returned (.tuple #[.slice none 0 0, errv k])) (hF : Fr (fun _ => False) w w') : RetUp w n l r e w' := by subst h; exact ⟨he, hF⟩
theorem RetUp.ok {w w' : World} {k : Nat} {l : List Lk} {r : Option Int} {e : Ending} {a : Option Addr} {c : Nat} {ob : Option Nat} {bs : List Bl} (h : r = none) (he : e = .returned (.tuple #[.slice a k c, .nilIface])) (hO : Own w'.heap 3 1 a k c (ivals .i64 (bs.map Bl.u)) ob) (hF : Fr (fun _ => False) w w') (hN : ∀ g, ob = some g → w.heap.size ≤ g) (h1 : BsOk k bs) (h2 : FinT l k bs) : RetUp w (k : Int) l r e w' := by
  subst h; exact ⟨a, c, ob, bs, he, hO, hF, hN, h1, h2⟩

def uvals (bs : List Bl) : List Value := ivals .i64 (bs.map Bl.u)
set_option maxRecDepth 100000 in
set_option maxHeartbeats 2000000 in
theorem sups_any (n : Int) (l : List Lk) (a : Option Addr) (c : Nat) (w : World) (hL : Links w.heap a l) (hl : l.length ≤ 9223372036854775807) (hw : ∀ x ∈ l, (Lit.int .i64 x.a).wf = true ∧ (Lit.int .i64 x.b).wf = true ∧ (Lit.int .i64 x.c).wf = true) :
    Calls Tryd.prog 21 #[.int .i64 n, .slice a l.length c] w (RetUp w n l (graphErr n l)) := by
  obtain ⟨GE, hGE⟩ : ∃ GE, GE = graphErr n l := ⟨_, rfl⟩
  rw [← hGE]
  have HGE := Lib.hid hGE
  clear hGE
  go_enter Tryd.func21, Tryd.ntmps21
  go_wp2_with (go_at_call 37; refine (beliefs_any n l a c _ hL hl hw).mono ?_)
  intro e1 w1 R1
  cases hg : graphErr n l with
  | some k =>
    have hX := Lib.hid (show GE = some k from HGE.out.trans hg)
    obtain ⟨rfl, hF1⟩ := R1.errE hg
    clear hg R1
    go_wp2
    go_ret2
    exact RetUp.err hX.out rfl hF1
  | none =>
    have hX := Lib.hid (show GE = none from HGE.out.trans hg)
    obtain ⟨hn, -, -⟩ := graph_ok hg
    obtain ⟨N, rfl⟩ : ∃ N : Nat, n = N := ⟨n.toNat, by omega⟩
    obtain ⟨a1, c1, ob1, bs, rfl, hO1, hF1, hN1, hok, hro, hst⟩ := R1.okE hg
    have hcl := hok.len
    have HS := Lib.hid hst.2
    have HB := Lib.hid hcl
    clear hg R1 hw HGE hro hst hcl
    go_wp2
    go_loopw [22, 8] (fun s22 s8 wr => ∃ (k : Nat) (ao : Option Addr) (co : Nat) (ob : Option Nat), k ≤ N ∧ s22 = .int .i64 k ∧ s8 = .slice ao k co ∧ Own wr.heap 3 1 ao k co (uvals (bs.take k)) ob ∧ Fr (fun _ => False) w1 wr ∧ (∀ g, ob = some g → w1.heap.size ≤ g)) (fun s _ _ => N - (intOf s).toNat)
    case atStart => exact ⟨0, none, 0, none, by omega, rfl, rfl, Own.nil _ _ _, Fr.refl _ _, (fun g h => nomatch h)⟩
    case round =>
      obtain ⟨k, ao, co, ob, hk, rfl, rfl, hO, hF, hN⟩ := hrel
      have hcap := hO.cap
      by_cases hkl : k < N
      · obtain ⟨b, rfl, rfl, hbb, hc, -⟩ := hO1.pos (by omega)
        have hkb : k < bs.length := by rw [HB.out]; exact hkl
        have htk : uvals (bs.take (k + 1)) = uvals (bs.take k) ++ [.int .i64 (nth bs k).u] := by
          rw [take_succ_nth bs k hkb]; simp [uvals, ivals]
        have d0 := (hF.cell (p := ⟨b, k * 3 + 0, none⟩) hbb (fun h => h)).trans ((hc (k * 3 + 0) (by omega)).trans (flat_get _ 3 Bl.cells_len bs k 0 hkb (by omega)))
        have d1 := (hF.cell (p := ⟨b, k * 3 + 1, none⟩) hbb (fun h => h)).trans ((hc (k * 3 + 1) (by omega)).trans (flat_get _ 3 Bl.cells_len bs k 1 hkb (by omega)))
        have d2 := (hF.cell (p := ⟨b, k * 3 + 2, none⟩) hbb (fun h => h)).trans ((hc (k * 3 + 2) (by omega)).trans (flat_get _ 3 Bl.cells_len bs k 2 hkb (by omega)))
        have HT := Lib.hid htk
        clear hc htk
        generalize nth bs k = x at *
        obtain ⟨xr, xf, xu⟩ := x
        simp only [Bl.cells, List.getElem?_cons_zero, List.getElem?_cons_succ, Nat.add_zero] at d0 d1 d2
        have hrd := rd_lit1 wr (.cells #[.int .i64 xr, .int .i64 xf, .int .i64 xu] 71) 3 [.int .i64 xu]
        go_wp2_with (at_builtin; refine wpList_app rfl _ _ 30 rfl Tryd.underlying30 infoInt rfl (by decide) rfl rfl ((hO.alloc _).alloc _) hrd (by simp [Value.oneCell']) (by omega) (by omega) ?_)
        intro a' c' w6 ob' z1 z2 z3
        have hF6 := Fr.app ((hF.alloc _).alloc _) z2 hN
        have hN6 := app_new hN z3 (by have := hF.size; simp; omega)
        have z4 : Own w6.heap 3 1 a' (k + 1) c' (uvals (bs.take (k + 1))) ob' := by rw [HT.out]; exact z1
        clear z1 z2 z3 hrd hO
        go_wp2
        go_roundw
        case rel => exact ⟨k + 1, a', c', ob', by omega, by go_num, rfl, z4, hF6, hN6⟩
        case measure => simp [intOf]; omega
      · obtain rfl : k = N := by omega
        rw [List.take_of_length_le (by rw [HB.out]; omega)] at hO
        go_wp2
        go_ret2
        exact RetUp.ok hX.out rfl hO (hF1.trans hF) (fun g h => Nat.le_trans hF1.size (hN g h)) hok HS.out
end Go.Proofs.YtakkljdeencfbaaDoor
