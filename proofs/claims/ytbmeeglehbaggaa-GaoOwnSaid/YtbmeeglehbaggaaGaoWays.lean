import Derived.Test.YtbmeeglehbaggaaGaoCheck
import Derived.Test.YtbmeeglehbaggaaGaoOff2
import Derived.Test.YtbmeeglehbaggaaEqInts
import Derived.Deep.LoopGhost
namespace Go.Proofs.Ytbmeeglehbaggaa
open Go.RowKit

/-! Ways, round by round. -/
/-- Ways of few nodes, each once. -/
def GoodG (n : Nat) (l : List Wy) : Prop := ∀ x ∈ l, x.p.Nodup ∧ ∀ z ∈ x.p, 0 ≤ z ∧ z < n
theorem good_step {n tt : Nat} {W : Nat → Nat → Int} {l : List Wy} (h : GoodG n l) {i : Nat} (hi : i < n) : GoodG n (stepG W tt l i) := by
  unfold stepG
  split
  · exact h
  · intro x hx
    rcases List.mem_or_eq_of_mem_set hx with hx | rfl
    · exact h x hx
    · rcases best_mem (offersL W l i) with e | hm
      · rw [e]; exact ⟨List.nodup_nil, fun _ h => nomatch h⟩
      · obtain ⟨k, k1, k2⟩ := offer_mem hm
        obtain ⟨-, -, o3, -, o5⟩ := offer_some k2
        rw [o5]
        obtain ⟨g1, g2⟩ := h _ (nth_mem l k k1)
        refine ⟨List.nodup_cons.2 ⟨o3, g1⟩, fun z hz => ?_⟩
        rcases List.mem_cons.1 hz with rfl | hz
        · omega
        · exact g2 z hz
theorem good_micro {n tt : Nat} {W : Nat → Nat → Int} (hto : tt < n) : ∀ t, GoodG n (microG W tt n t)
  | 0 => by
    intro x hx
    rcases List.mem_or_eq_of_mem_set hx with hx | rfl
    · rw [List.eq_of_mem_replicate hx]; exact ⟨List.nodup_nil, fun _ h => nomatch h⟩
    · refine ⟨by simp, fun z hz => ?_⟩
      rw [List.mem_singleton.1 hz]; omega
  | t + 1 => good_step (good_micro hto t) (Nat.mod_lt _ (by omega))
theorem micro_len {n tt : Nat} {W : Nat → Nat → Int} : ∀ t, (microG W tt n t).length = n
  | 0 => by show (startG tt n).length = n; simp [startG]
  | t + 1 => by show (stepG W tt _ _).length = n; rw [stepG_len, micro_len t]
theorem micro_succ {n tt : Nat} {W : Nat → Nat → Int} (j : Nat) {i : Nat} (hi : i < n) : microG W tt n (j * n + i + 1) = stepG W tt (microG W tt n (j * n + i)) i := by
  show stepG W tt _ ((j * n + i) % n) = _
  rw [show (j * n + i) % n = i by rw [Nat.mul_comm, Nat.mul_add_mod_self_left, Nat.mod_eq_of_lt hi]]
theorem micro_ahead {n tt : Nat} {W : Nat → Nat → Int} (j : Nat) {i : Nat} (hi : i < n) : nth (microG W tt n (j * n + i)) i = nth (microG W tt n (j * n)) i := by
  rw [micro_fold W tt n j i (by omega)]
  exact fold_ahead W tt _ i i (Nat.le_refl _) (by rw [micro_len]; omega)
abbrev WyR.no : WyR := ⟨0, [], none, 0⟩
/-- A way's list: none, or in a block of its own. -/
def WRw (base : Nat) (H : Array Obj) (x : WyR) : Prop := x = WyR.no ∨ WRow base H x
/-- Ways in a block, each with a list of its own. -/
structure WsB (base : Nat) (H : Array Obj) (gw : Nat) (R : List WyR) : Prop where
  blk : Blk H gw 65 (R.flatMap WyR.cells)
  row : ∀ i, i < R.length → WRw base H (nth R i)
  inj : ∀ i j, i < R.length → j < R.length → i ≠ j → ∀ q, (nth R i).A = some q → (nth R j).A ≠ some q
theorem WRw.fr {w w' : World} {S : Nat → Prop} {base : Nat} {x : WyR} (h : WRw base w.heap x) (f : Fr S w w') (hs : ∀ g, x.A = some ⟨g, 0, none⟩ → ¬ S g) : WRw base w'.heap x := h.imp id (fun h => h.fr f hs)
theorem WsB.fr0 {w w' : World} {base gw : Nat} {R : List WyR} (h : WsB base w.heap gw R) (f : Fr (fun _ => False) w w') : WsB base w'.heap gw R :=
  ⟨h.blk.fr f (fun h => h), fun i hi => (h.row i hi).fr f (fun _ _ h => h), h.inj⟩
theorem wy_set2 (L : List WyR) (i : Nat) (x : WyR) (h : i < L.length) : ((L.flatMap WyR.cells).set (i * 2) (.int .i64 x.t)).set (i * 2 + 1) (.slice x.A x.p.length x.C) = (L.set i x).flatMap WyR.cells := by
  induction L generalizing i with
  | nil => simp at h
  | cons y L ih =>
    cases i with
    | zero => rfl
    | succ i =>
      have := ih i (by simpa using h)
      rw [List.set_cons_succ, List.flatMap_cons, List.flatMap_cons, ← this]
      rw [show (i + 1) * 2 = i * 2 + 1 + 1 by omega, show i * 2 + 1 + 1 + 1 = i * 2 + 1 + 1 + 1 by rfl]
      rfl
/-- One way is another one. -/
theorem WsB.set {w w' : World} {base gw : Nat} {R : List WyR} (h : WsB base w.heap gw R) {i : Nat} (hi : i < R.length) {x : WyR} (hB : Blk w'.heap gw 65 ((R.set i x).flatMap WyR.cells)) (f : Fr (fun k => k = gw) w w') (hx : WRw base w'.heap x) (hne : ∀ j, j < R.length → j ≠ i → ∀ q, x.A = some q → (nth R j).A ≠ some q) : WsB base w'.heap gw (R.set i x) := by
  have hn : ∀ j, nth (R.set i x) j = if j = i then x else nth R j := fun j => nth_set R i j _ hi
  refine ⟨hB, fun j hj => ?_, fun j k hj hk hjk q hq => ?_⟩
  · rw [List.length_set] at hj
    rw [hn]
    split
    · exact hx
    · refine (h.row j hj).fr f (fun g hg e => ?_)
      rcases h.row j hj with e2 | ⟨g', h1, h2, h3⟩
      · rw [e2] at hg; cases hg
      · rw [h1] at hg; cases hg
        have e : g = gw := e
        subst e
        rcases h2.is with ⟨_, _, _, e4⟩ | ⟨g2, cur, _, e4, k1, _⟩
        · cases e4
        · cases e4
          have := h.blk
          unfold Blk at this
          rw [k1] at this
          cases this
  · rw [List.length_set] at hj hk
    rw [hn] at hq ⊢
    by_cases h1 : j = i
    · rw [if_pos h1] at hq
      rw [if_neg (fun e => hjk (by omega))]
      exact hne k hk (by omega) q hq
    · rw [if_neg h1] at hq
      by_cases h2 : k = i
      · rw [if_pos h2]; intro e; exact hne j hj h1 q e hq
      · rw [if_neg h2]; exact h.inj j k hj hk hjk q hq
theorem WsB.wrd {H : Array Obj} {base gw n : Nat} {R : List WyR} (h : WsB base H gw R) (hl : R.length = n) (hg : GoodG n (R.map WyR.wy)) (hn : n ≤ 8) : WRd H (some ⟨gw, 0, none⟩) R := by
  refine ⟨?_, fun x hx => ?_⟩
  · have := h.blk.rd (sz := 2) (n := R.length) (off := 0) (by rw [flat_len _ 2 WyR.cells_len]; omega)
    rwa [List.drop_zero, List.take_of_length_le (by rw [flat_len _ 2 WyR.cells_len]; omega)] at this
  · obtain ⟨j, hj, rfl⟩ := List.mem_iff_getElem.1 hx
    obtain ⟨g1, g2⟩ := hg _ (List.mem_map.2 ⟨_, hx, rfl⟩)
    have := nodup_len _ g1 g2
    have hr := h.row j hj
    rw [nth_eq R j hj] at hr
    refine ⟨?_, by simp only at this; omega⟩
    rcases hr with e | ⟨g, h1, h2, -⟩
    · rw [e]; exact Rd.nil _ _ _
    · exact h2.rd
def waysErr (n : Int) (l : List Lk) (tt : Int) : Option Int := match gaoErr n l with
  | some e => some e
  | none => if tt < 0 ∨ n ≤ tt then some 1 else none
/-- What Ways tells where nothing is wrong. -/
def RetWs (w : World) (n : Nat) (l : List Lk) (tt : Nat) (e : Ending) (w' : World) : Prop :=
  ∃ (gw : Nat) (R : List WyR), e = .returned (.tuple #[.slice (some ⟨gw, 0, none⟩) n n, .nilIface]) ∧ w.heap.size ≤ gw ∧ R.length = n ∧ FinG (at2 (tabR n l)) tt n (R.map WyR.wy) ∧ WsB w.heap.size w'.heap gw R ∧ Fr (fun _ => False) w w'
end Go.Proofs.Ytbmeeglehbaggaa
