import Derived.Test.YtfjempfffdeklaaDoorRowsSame
import Derived.Test.YtfjempfffdeklaaDoorIntsOwn
import Derived.Test.YtfjempfffdeklaaDoorMatB
namespace Go.Proofs.YtfjempfffdeklaaDoor
open Go.RowKit

def RetM (w : World) (rs : List (List Int)) (e : Ending) (w' : World) : Prop :=
  ∃ a c ob G C, e = .returned (.slice a rs.length c) ∧ OMat w'.heap w.heap.size 38 3 a c ob rs G C ∧ Fr (fun _ => False) w w'
theorem ownAddr {H : Array Obj} {E : TypeId} {sz : Nat} {a : Option Addr} {n cap g : Nat} {xs : List Value} (h : Ownd H E sz a n cap xs (some g)) : a = some ⟨g, 0, none⟩ := by
  rcases h.is with ⟨_, _, _, h1⟩ | ⟨g', cur, h0, h1, _⟩
  · cases h1
  · cases h1; exact h0

/-- A copy, in a block of its own. -/
def RetCopy (w : World) (n : Nat) (l : List Int) (e : Ending) (w' : World) : Prop :=
  ∃ g c, e = .returned (.slice (some ⟨g, 0, none⟩) n c) ∧ Ownd w'.heap 3 1 (some ⟨g, 0, none⟩) n c (ivals .i64 l) (some g) ∧ Fr (fun _ => False) w w' ∧ w.heap.size ≤ g

set_option maxRecDepth 100000 in
set_option maxHeartbeats 1000000 in
theorem copy_any {n : Nat} (a : Option Addr) (l : List Int) (c : Nat) (w : World) (hn : n = l.length) (hl : l.length * 8 ≤ 140737488351232) (hr : Ints w.heap a l) :
    Calls Tryd.prog 18 #[.slice a n c] w (RetCopy w n l) := by
  subst hn
  go_enter Tryd.func18, Tryd.ntmps18
  go_wp2_with (at_builtin; refine wpList_app rfl _ _ 38 rfl Tryd.underlying38 infoInt rfl (by decide) rfl rfl (Ownd.made w 3 1 0 [] rfl (by decide)) (hr.fr (S := fun _ => False) ((Fr.refl _ _).alloc _) (fun _ _ _ h => h)) (ivals_one _ _) (by omega) (by omega) ?_)
  intro a' c' w' ob' h1 h2 h3
  have h3' : ∃ g, ob' = some g ∧ w.heap.size ≤ g := by
    rcases h3 with h3 | ⟨g', h3, h4⟩
    · exact ⟨_, h3, Nat.le_refl _⟩
    · exact ⟨g', h3, Nat.le_trans (by simp) h4⟩
  clear h3
  obtain ⟨g, rfl, hg⟩ := h3'
  obtain rfl := ownAddr h1
  go_wp2
  go_ret
  refine ⟨g, c', by simp, by simpa using h1, ?_, hg⟩
  exact ((Fr.refl _ _).alloc _).trans' h2 (fun i hi h => by omega)

set_option maxRecDepth 100000 in
set_option maxHeartbeats 2000000 in
theorem rows_any (rs : List (List Int)) (a : Option Addr) (c : Nat) (A : Nat → Option Addr) (C : Nat → Nat) (w : World) (hM : Mat w.heap a rs A C) (hn : rs.length * 24 ≤ 140737488351232) (hr : ∀ i, i < rs.length → (nth rs i).length * 8 ≤ 140737488351232) :
    Calls Tryd.prog 65 #[.slice a rs.length c] w (RetM w rs) := by
  go_enter Tryd.func65, Tryd.ntmps65
  go_wp2
  go_loopw [4, 3] (fun s4 s3 wr => ∃ (i : Nat) (ao : Option Addr) (co : Nat) (ob : Option Nat) (G C : Nat → Nat), i ≤ rs.length ∧ s4 = .int .i64 i ∧ s3 = .slice ao i co ∧ OMat wr.heap w.heap.size 38 3 ao co ob (rs.take i) G C ∧ Fr (fun _ => False) w wr) (fun s _ _ => rs.length - (intOf s).toNat)
  case atStart => exact ⟨0, none, 0, none, fun _ => 0, fun _ => 0, by omega, rfl, rfl, OMat.nil _ _ _ _ _ _, Fr.refl _ _⟩
  case round =>
    obtain ⟨i, ao, co, ob, G, C', hi, rfl, rfl, hO, hF⟩ := hrel
    by_cases hlt : i < rs.length
    · have hMr := hM.fr hF (fun _ _ h => h)
      have hrow := hMr.row i hlt
      have hri := hr i hlt
      have hll := hM.lens i hlt
      obtain ⟨b, off, rfl, -, hc⟩ := hMr.pos (by omega)
      have hck := hc wr rfl i hlt
      clear hc
      go_wp2_with (go_at_call 18; refine (copy_any (A i) (nth rs i) _ _ rfl hri hrow).mono ?_)
      intro e1 w1 R1
      obtain ⟨g, c1, rfl, hO1, hF1, hg⟩ := R1
      have hFw := hF.trans hF1
      have hlen : (rs.take i).length = i := by simp; omega
      have hob : ob ≠ some g := fun h => by have := (hO.top.lt g h); omega
      have hGg : ∀ q, q < i → G q ≠ g := fun q hq h => by have := (hO.row q (by rw [hlen]; exact hq)).lt _ rfl; omega
      have hgw : w.heap.size ≤ g := by have := hF.size; omega
      have hM4 := hO.fr hF1 (fun _ _ _ h => h)
      have htop := (hM4.alloc (.cells #[.slice (some ⟨g, 0, none⟩) (nth rs i).length c1] 38)).top
      rw [hlen] at htop
      have hrd := (Ownd.made w1 38 1 1 [.slice (some ⟨g, 0, none⟩) (nth rs i).length c1] rfl (by decide)).rd
      go_wp2_with (at_builtin; refine wpList_app rfl _ _ 115 rfl Tryd.underlying115 infoInts rfl (by decide) rfl rfl htop hrd (by simp [Value.oneCell']) (by omega) (by omega) ?_)
      intro a' c' w6 ob' z1 z2 z3
      go_wp2
      have hP := OMat.push (r := nth rs i) (cr := c1) (hM4.alloc (.cells #[.slice (some ⟨g, 0, none⟩) (nth rs i).length c1] 38)) (hO1.alloc _) hgw hob (fun q hq => hGg q (by rw [hlen] at hq; exact hq)) (by have := (hFw.alloc (.cells #[.slice (some ⟨g, 0, none⟩) (nth rs i).length c1] 38)).size; exact this) (by rw [hlen]) (by rw [hlen]; exact z1) z2 (by simpa using z3)
      have hF6 := Fr.app (hFw.alloc _) z2 (fun k hk => (hM4.obn k hk).1)
      rw [← take_succ_nth rs i hlt] at hP
      clear htop hrd hO1 z1 z2 z3 hM4 hO
      go_roundw
      case rel => exact ⟨i + 1, a', c', ob', _, _, by omega, by go_num, rfl, hP, hF6⟩
      case measure => simp [intOf]; omega
    · obtain rfl : i = rs.length := by omega
      rw [List.take_length] at hO
      go_wp2
      go_ret
      exact ⟨ao, co, ob, G, C', rfl, hO, hF⟩
end Go.Proofs.YtfjempfffdeklaaDoor
