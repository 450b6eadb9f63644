import Derived.Test.YtfjempfffdeklaaSame
namespace Go.Proofs.Ytfjempfffdeklaa
open Go.RowKit

theorem ownAddr {H : Array Obj} {E : TypeId} {sz : Nat} {a : Option Addr} {n cap g : Nat} {xs : List Value} (h : Own H E sz a n cap xs (some g)) : a = some ⟨g, 0, none⟩ := by
  rcases h.is with ⟨_, _, _, h1⟩ | ⟨g', cur, h0, h1, _⟩
  · cases h1
  · cases h1; exact h0

/-- A copy, in a block of its own. -/
def RetCopy (w : World) (n : Nat) (l : List Int) (e : Ending) (w' : World) : Prop :=
  ∃ g c, e = .returned (.slice (some ⟨g, 0, none⟩) n c) ∧ Own w'.heap 3 1 (some ⟨g, 0, none⟩) n c (ivals .i64 l) (some g) ∧ Fr (fun _ => False) w w' ∧ w.heap.size ≤ g

set_option maxRecDepth 100000 in
set_option maxHeartbeats 1000000 in
theorem copy_any {n : Nat} (a : Option Addr) (l : List Int) (c : Nat) (w : World) (hn : n = l.length) (hl : l.length * 8 ≤ 140737488351232) (hr : Ints w.heap a l) :
    Calls Try.prog 12 #[.slice a n c] w (RetCopy w n l) := by
  subst hn
  go_enter Try.func12, Try.ntmps12
  go_wp2_with (at_builtin; refine wpList_app rfl _ _ 22 rfl Try.underlying22 infoInt rfl (by decide) rfl rfl (Own.made w 3 1 0 [] rfl (by decide)) (hr.fr (S := fun _ => False) ((Fr.refl _ _).alloc _) (fun _ _ _ h => h)) (ivals_one _ _) (by omega) (by omega) ?_)
  intro a' c' w' ob' h1 h2 h3
  have h3' : ∃ g, ob' = some g ∧ w.heap.size ≤ g := by
    rcases h3 with h3 | ⟨g', h3, h4⟩
    · exact ⟨_, h3, Nat.le_refl _⟩
    · exact ⟨g', h3, Nat.le_trans (by simp) h4⟩
  clear h3
  obtain ⟨g, rfl, hg⟩ := h3'
  obtain rfl := ownAddr h1
  go_wp2
  go_ret
  refine ⟨g, c', by simp, by simpa using h1, ?_, hg⟩
  exact ((Fr.refl _ _).alloc _).trans' h2 (fun i hi h => by omega)

set_option maxRecDepth 100000 in
set_option maxHeartbeats 1000000 in
theorem spoil_any {n : Nat} (g c : Nat) (l : List Int) (x : Int) (w : World) (hl : l.length = n) (hO : Own w.heap 3 1 (some ⟨g, 0, none⟩) n c (ivals .i64 l) (some g)) :
    Calls Try.prog 13 #[.slice (some ⟨g, 0, none⟩) n c, .int .i64 x] w (fun e w' => e = .returned (.tuple #[]) ∧ Fr (fun k => k = g) w w') := by
  have hle := hO.le
  go_enter Try.func13, Try.ntmps13
  go_wp2
  go_loopw [4] (fun s4 wr => ∃ i : Nat, i ≤ n ∧ s4 = .int .i64 i ∧ Fr (fun k => k = g) w wr ∧ ∃ l' : List Int, l'.length = n ∧ Own wr.heap 3 1 (some ⟨g, 0, none⟩) n c (ivals .i64 l') (some g)) (fun s _ => n - (intOf s).toNat)
  case atStart => exact ⟨0, by omega, rfl, Fr.refl _ _, l, hl, hO⟩
  case round =>
    obtain ⟨i, hi, rfl, hF, l', hl', hO'⟩ := hrel
    by_cases hlt : i < n
    · obtain ⟨_, h4, h5, _, h6, h7⟩ := hO'.pos (by omega)
      cases h4
      have hc := (h6 i (by omega)).trans (ivals_get .i64 l' i (by omega))
      have hf := h7 i
      have hset := hO'.set rfl i (.int .i64 x)
      have e : (ivals .i64 l').set i (.int .i64 x) = ivals .i64 (l'.set i x) := by simp [ivals, List.map_set]
      rw [e] at hset
      clear h6 h7 e
      go_wp2
      go_roundw
      case rel => exact ⟨i + 1, by omega, by go_num, hF.at1 i _, l'.set i x, by rw [List.length_set, hl'], hset⟩
      case measure => simp [intOf]; omega
    · obtain rfl : i = n := by omega
      go_wp2
      go_end0
      exact ⟨rfl, hF⟩

/-- Nothing to spoil. -/
theorem spoil_nil (a : Option Addr) (c : Nat) (x : Int) (w : World) : Calls Try.prog 13 #[.slice a 0 c, .int .i64 x] w (fun e w' => e = .returned (.tuple #[]) ∧ Fr (fun _ => False) w w') := by
  go_enter Try.func13, Try.ntmps13
  go_wp2
  go_loopw [4] (fun s4 wr => s4 = .int .i64 0 ∧ wr = w) (fun _ _ => 0)
  case atStart => exact ⟨rfl, rfl⟩
  case round =>
    obtain ⟨rfl, rfl⟩ := hrel
    go_wp2
    go_end0
    exact ⟨rfl, Fr.refl _ _⟩
theorem spoil_own {n : Nat} (a : Option Addr) (c : Nat) (ob : Option Nat) (l : List Int) (x : Int) (w : World) (hO : Own w.heap 3 1 a n c (ivals .i64 l) ob) :
    Calls Try.prog 13 #[.slice a n c, .int .i64 x] w (fun e w' => e = .returned (.tuple #[]) ∧ Fr (fun k => ob = some k) w w') := by
  have hl : l.length = n := by have := hO.len; simpa using this
  rcases hO.is with ⟨rfl, rfl, rfl, rfl⟩ | ⟨g, cur, rfl, rfl, _⟩
  · exact (spoil_nil none 0 x w).mono fun e w' ⟨h1, h2⟩ => ⟨h1, h2.none _⟩
  · exact (spoil_any g c l x w hl hO).mono fun e w' ⟨h1, h2⟩ => ⟨h1, h2.mono (fun i _ h => by rw [h])⟩
end Go.Proofs.Ytfjempfffdeklaa
