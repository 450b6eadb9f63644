import Derived.Test.YtlmoaompmiobjaaSame
import Derived.Test.YtlmoaompmiobjaaMat4
namespace Go.Proofs.Ytlmoaompmiobjaa
open Go.RowKit

theorem ownAddr {H : Array Obj} {E : TypeId} {sz : Nat} {a : Option Addr} {n cap g : Nat} {xs : List Value} (h : Own H E sz a n cap xs (some g)) : a = some ⟨g, 0, none⟩ := by
  rcases h.is with ⟨_, _, _, h1⟩ | ⟨g', cur, h0, h1, _⟩
  · cases h1
  · cases h1; exact h0

/-- A copy, in a block of its own. -/
def RetCopy (w : World) (n : Nat) (l : List Int) (e : Ending) (w' : World) : Prop :=
  ∃ g c, e = .returned (.slice (some ⟨g, 0, none⟩) n c) ∧ Own w'.heap 3 1 (some ⟨g, 0, none⟩) n c (ivals .i64 l) (some g) ∧ Fr (fun _ => False) w w' ∧ w.heap.size ≤ g

set_option maxRecDepth 100000 in
set_option maxHeartbeats 1000000 in
theorem copy_any {n : Nat} (a : Option Addr) (l : List Int) (c : Nat) (w : World) (hn : n = l.length) (hl : l.length * 8 ≤ 140737488351232) (hr : Ints w.heap a l) :
    Calls Try.prog 30 #[.slice a n c] w (RetCopy w n l) := by
  subst hn
  go_enter Try.func30, Try.ntmps30
  go_wp2_with (at_builtin; refine wpList_app rfl _ _ 28 rfl Try.underlying28 infoInt rfl (by decide) rfl rfl (Own.made w 3 1 0 [] rfl (by decide)) (hr.fr (S := fun _ => False) ((Fr.refl _ _).alloc _) (fun _ _ _ h => h)) (ivals_one _ _) (by omega) (by omega) ?_)
  intro a' c' w' ob' h1 h2 h3
  have h3' : ∃ g, ob' = some g ∧ w.heap.size ≤ g := by
    rcases h3 with h3 | ⟨g', h3, h4⟩
    · exact ⟨_, h3, Nat.le_refl _⟩
    · exact ⟨g', h3, Nat.le_trans (by simp) h4⟩
  clear h3
  obtain ⟨g, rfl, hg⟩ := h3'
  obtain rfl := ownAddr h1
  go_wp2
  go_ret
  refine ⟨g, c', by simp, by simpa using h1, ?_, hg⟩
  exact ((Fr.refl _ _).alloc _).trans' h2 (fun i hi h => by omega)

set_option maxRecDepth 100000 in
set_option maxHeartbeats 2000000 in
theorem rows_any (rs : List (List Int)) (a : Option Addr) (c : Nat) (A : Nat → Option Addr) (C : Nat → Nat) (w : World) (hM : Mat w.heap a rs A C) (hn : rs.length * 24 ≤ 140737488351232) (hr : ∀ i, i < rs.length → (nth rs i).length * 8 ≤ 140737488351232) :
    Calls Try.prog 22 #[.slice a rs.length c] w (RetM w rs) := by
  go_enter Try.func22, Try.ntmps22
  go_wp2
  go_loopw [4, 3] (fun s4 s3 wr => ∃ (i : Nat) (ao : Option Addr) (co : Nat) (ob : Option Nat) (G C : Nat → Nat), i ≤ rs.length ∧ s4 = .int .i64 i ∧ s3 = .slice ao i co ∧ OMat wr.heap w.heap.size 28 3 ao co ob (rs.take i) G C ∧ Fr (fun _ => False) w wr) (fun s _ _ => rs.length - (intOf s).toNat)
  case atStart => exact ⟨0, none, 0, none, fun _ => 0, fun _ => 0, by omega, rfl, rfl, OMat.nil _ _ _ _ _ _, Fr.refl _ _⟩
  case round =>
    obtain ⟨i, ao, co, ob, G, C', hi, rfl, rfl, hO, hF⟩ := hrel
    by_cases hlt : i < rs.length
    · have hMr := hM.fr hF (fun _ _ h => h)
      have hrow := hMr.row i hlt
      have hri := hr i hlt
      have hll := hM.lens i hlt
      obtain ⟨b, off, rfl, -, hc⟩ := hMr.pos (by omega)
      have hck := hc wr rfl i hlt
      clear hc
      go_wp2_with (go_at_call 30; refine (copy_any (A i) (nth rs i) _ _ rfl hri hrow).mono ?_)
      intro e1 w1 R1
      obtain ⟨g, c1, rfl, hO1, hF1, hg⟩ := R1
      have hFw := hF.trans hF1
      have hlen : (rs.take i).length = i := by simp; omega
      have hob : ob ≠ some g := fun h => by have := (hO.top.lt g h); omega
      have hGg : ∀ q, q < i → G q ≠ g := fun q hq h => by have := (hO.row q (by rw [hlen]; exact hq)).lt _ rfl; omega
      have hgw : w.heap.size ≤ g := by have := hF.size; omega
      have hM4 := hO.fr hF1 (fun _ _ _ h => h)
      have htop := (hM4.alloc (.cells #[.slice (some ⟨g, 0, none⟩) (nth rs i).length c1] 28)).top
      rw [hlen] at htop
      have hrd := (Own.made w1 28 1 1 [.slice (some ⟨g, 0, none⟩) (nth rs i).length c1] rfl (by decide)).rd
      go_wp2_with (at_builtin; refine wpList_app rfl _ _ 27 rfl Try.underlying27 infoInts rfl (by decide) rfl rfl htop hrd (by simp [Value.oneCell']) (by omega) (by omega) ?_)
      intro a' c' w6 ob' z1 z2 z3
      go_wp2
      have hP := OMat.push (r := nth rs i) (cr := c1) (hM4.alloc (.cells #[.slice (some ⟨g, 0, none⟩) (nth rs i).length c1] 28)) (hO1.alloc _) hgw hob (fun q hq => hGg q (by rw [hlen] at hq; exact hq)) (by have := (hFw.alloc (.cells #[.slice (some ⟨g, 0, none⟩) (nth rs i).length c1] 28)).size; exact this) (by rw [hlen]) (by rw [hlen]; exact z1) z2 (by simpa using z3)
      have hF6 := Fr.app (hFw.alloc _) z2 (fun k hk => (hM4.obn k hk).1)
      rw [← take_succ_nth rs i hlt] at hP
      clear htop hrd hO1 z1 z2 z3 hM4 hO
      go_roundw
      case rel => exact ⟨i + 1, a', c', ob', _, _, by omega, by go_num, rfl, hP, hF6⟩
      case measure => simp [intOf]; omega
    · obtain rfl : i = rs.length := by omega
      rw [List.take_length] at hO
      go_wp2
      go_ret
      exact ⟨ao, co, ob, G, C', rfl, hO, hF⟩

set_option maxRecDepth 100000 in
set_option maxHeartbeats 1000000 in
theorem spoil_any {n : Nat} (g c : Nat) (l : List Int) (x : Int) (w : World) (hl : l.length = n) (hO : Own w.heap 3 1 (some ⟨g, 0, none⟩) n c (ivals .i64 l) (some g)) :
    Calls Try.prog 23 #[.slice (some ⟨g, 0, none⟩) n c, .int .i64 x] w (fun e w' => e = .returned (.tuple #[]) ∧ Fr (fun k => k = g) w w') := by
  have hle := hO.le
  go_enter Try.func23, Try.ntmps23
  go_wp2
  go_loopw [4] (fun s4 wr => ∃ i : Nat, i ≤ n ∧ s4 = .int .i64 i ∧ Fr (fun k => k = g) w wr ∧ ∃ l' : List Int, l'.length = n ∧ Own wr.heap 3 1 (some ⟨g, 0, none⟩) n c (ivals .i64 l') (some g)) (fun s _ => n - (intOf s).toNat)
  case atStart => exact ⟨0, by omega, rfl, Fr.refl _ _, l, hl, hO⟩
  case round =>
    obtain ⟨i, hi, rfl, hF, l', hl', hO'⟩ := hrel
    by_cases hlt : i < n
    · obtain ⟨_, h4, h5, _, h6, h7⟩ := hO'.pos (by omega)
      cases h4
      have hc := (h6 i (by omega)).trans (ivals_get .i64 l' i (by omega))
      have hf := h7 i
      have hset := hO'.set rfl i (.int .i64 x)
      have e : (ivals .i64 l').set i (.int .i64 x) = ivals .i64 (l'.set i x) := by simp [ivals, List.map_set]
      rw [e] at hset
      clear h6 h7 e
      go_wp2
      go_roundw
      case rel => exact ⟨i + 1, by omega, by go_num, hF.at1 i _, l'.set i x, by rw [List.length_set, hl'], hset⟩
      case measure => simp [intOf]; omega
    · obtain rfl : i = n := by omega
      go_wp2
      go_end0
      exact ⟨rfl, hF⟩

theorem RetQ.quiet {w w' : World} {n : Nat} {v : Value} {e : Ending} (h : RetQ (w.drewN n) v e w') : e = .returned v ∧ ∃ m, w' = w.drewN m := by
  obtain ⟨h1, m, rfl⟩ := h
  exact ⟨h1, n + m, by simp⟩

set_option maxRecDepth 100000 in
set_option maxHeartbeats 1000000 in
theorem srows_any (l m : List (List Int)) (a b : Option Addr) (c d : Nat) (A B : Nat → Option Addr) (CA CB : Nat → Nat) (w : World) (ha : Mat w.heap a l A CA) (hb : Mat w.heap b m B CB) (hl : l.length ≤ 9223372036854775807) (hm : m.length ≤ 9223372036854775807) :
    Calls Try.prog 21 #[.slice a l.length c, .slice b m.length d] w (RetQ w (.bool (decide (l = m)))) := by
  go_enter Try.func21, Try.ntmps21
  by_cases hlen : l.length = m.length
  · have hne : ((l.length : Int) != (m.length : Int)) = false := by simp [hlen]
    have HL : Hid (l.length = m.length) := Lib.hid hlen
    clear hlen
    go_wp2
    go_loopw [5] (fun i wr => ∃ k n : Nat, k ≤ l.length ∧ i = .int .i64 k ∧ wr = w.drewN n ∧ Hid (l.take k = m.take k)) (fun i _ => l.length - (intOf i).toNat)
    case atStart => exact ⟨0, 0, by omega, rfl, rfl, rfl⟩
    case round =>
      obtain ⟨k, n, hk, rfl, hw, hE⟩ := hrel
      have ha' : Mat wr.heap a l A CA := by rw [hw]; exact ha
      have hb' : Mat wr.heap b m B CB := by rw [hw]; exact hb
      have hW := Lib.hid hw
      clear hw
      by_cases hlt : k < l.length
      · have hlm : k < m.length := by have := HL.out; omega
        obtain ⟨g1, o1, rfl, q1, c1⟩ := ha'.pos (by omega)
        obtain ⟨g2, o2, rfl, q2, c2⟩ := hb'.pos (by omega)
        have d1 := c1 wr rfl k hlt
        have d2 := c2 wr rfl k hlm
        have r1 := ha'.row k hlt
        have r2 := hb'.row k hlm
        have l1 := ha.lens k hlt
        have l2 := hb.lens k hlm
        clear c1 c2
        by_cases he : nth l k = nth m k
        · have hb2 := Lib.hid (show decide (nth l k = nth m k) = true by simp [he])
          have hE' : Hid (l.take (k + 1) = m.take (k + 1)) := (by rw [take_succ_nth l k hlt, take_succ_nth m k hlm, hE.out, he] : l.take (k + 1) = m.take (k + 1))
          clear he
          have hC : ∀ n, Calls Try.prog 12 #[.slice (A k) (nth l k).length (CA k), .slice (B k) (nth m k).length (CB k)] (wr.drewN n) fun e w'' => e = .returned (.bool true) ∧ ∃ n, w'' = wr.drewN n := fun n =>
            (ints_any (nth l k) (nth m k) _ _ _ _ (wr.drewN n) r1 r2 l1 l2).mono (fun e w' h => by rw [hb2.out] at h; exact RetQ.quiet h)
          go_wp2
          go_quiet (first | (go_at_call 12; exact hC _))
          go_wp2
          go_roundw
          case rel => exact ⟨k + 1, n + nq, by omega, by go_num, by rw [hW.out]; simp, hE'⟩
          case measure => simp [intOf]; omega
        · have hb2 := Lib.hid (show decide (nth l k = nth m k) = false by simp [he])
          have hX : Hid (decide (l = m) = false) := (by
            apply decide_eq_false
            intro h
            exact he (by rw [h]) : decide (l = m) = false)
          clear he
          have hC : ∀ n, Calls Try.prog 12 #[.slice (A k) (nth l k).length (CA k), .slice (B k) (nth m k).length (CB k)] (wr.drewN n) fun e w'' => e = .returned (.bool false) ∧ ∃ n, w'' = wr.drewN n := fun n =>
            (ints_any (nth l k) (nth m k) _ _ _ _ (wr.drewN n) r1 r2 l1 l2).mono (fun e w' h => by rw [hb2.out] at h; exact RetQ.quiet h)
          go_wp2
          go_quiet (first | (go_at_call 12; exact hC _))
          go_wp2
          go_ret
          exact RetQ.mk (show Value.bool false = _ from (by rw [hX.out])) rfl (n + nq) (by rw [hW.out]; simp)
      · obtain rfl : k = l.length := by omega
        have hX : Hid (decide (l = m) = true) := (by
          apply decide_eq_true
          have h := hE.out
          rw [List.take_length, HL.out, List.take_length] at h
          exact h : decide (l = m) = true)
        go_wp2
        go_ret
        exact RetQ.mk (show Value.bool true = _ from (by rw [hX.out])) rfl (n) (hW.out)
  · have hne : ((l.length : Int) != (m.length : Int)) = true := by simp; omega
    have hX : Hid (decide (l = m) = false) := (by
      apply decide_eq_false
      intro h
      exact hlen (by rw [h]) : decide (l = m) = false)
    clear hlen
    go_wp2
    go_ret
    exact RetQ.mk (show Value.bool false = _ from (by rw [hX.out])) rfl (0) (rfl)
theorem srows_eq (l : List (List Int)) (a b : Option Addr) (c d : Nat) (A B : Nat → Option Addr) (CA CB : Nat → Nat) (w : World) (ha : Mat w.heap a l A CA) (hb : Mat w.heap b l B CB) (hl : l.length ≤ 9223372036854775807) :
    Calls Try.prog 21 #[.slice a l.length c, .slice b l.length d] w (RetQ w (.bool true)) := by
  have := srows_any l l a b c d A B CA CB w ha hb hl hl
  rwa [decide_eq_true rfl] at this
end Go.Proofs.Ytlmoaompmiobjaa
