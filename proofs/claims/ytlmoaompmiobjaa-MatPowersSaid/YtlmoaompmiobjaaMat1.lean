import Derived.Test.YtlmoaompmiobjaaSl
import Derived.Test.YtlmoaompmiobjaaOMat
namespace Go.Proofs.Ytlmoaompmiobjaa
open Go.RowKit

theorem infoInts : (Try.prog.info? 28).map (fun i => (i.zero, i.size, i.bytes)) = some (some (.slice none 0 0), 1, 24) := by kernel_rfl

def distV (d : Int) : Value := if d < 0 ∨ 16 < d then errv 1 else .nilIface
set_option maxRecDepth 100000 in
theorem dist_any (d : Int) (w : World) : Calls Try.prog 28 #[.int .i64 d] w (RetV w (distV d)) := by
  go_enter Try.func28, Try.ntmps28
  by_cases hb : d < 0 ∨ 16 < d
  · have hX := Lib.hid (show distV d = errv 1 from if_pos hb)
    go_wp2
    all_goals go_ret
    all_goals rw [hX.out]; exact RetV.mk rfl rfl (Fr.refl _ _)
  · have hX := Lib.hid (show distV d = Value.nilIface from if_neg hb)
    have h1 : ¬ d < 0 := by omega
    have h2 : ¬ 16 < d := by omega
    clear hb
    go_wp2
    go_ret
    rw [hX.out]; exact RetV.mk rfl rfl (Fr.refl _ _)

/-- A table, or an error. -/
def RetMat (w : World) (r : Except Int (List (List Int))) (e : Ending) (w' : World) : Prop :=
  match r with
  | .error k => RetV w (.tuple #[.slice none 0 0, errv k]) e w'
  | .ok rs => ∃ a c ob G C, e = .returned (.tuple #[.slice a rs.length c, .nilIface]) ∧ OMat w'.heap w.heap.size 28 3 a c ob rs G C ∧ Fr (fun _ => False) w w'
theorem RetMat.err {w w' : World} {r : Except Int (List (List Int))} {k : Int} {e : Ending} (h : r = .error k) (h1 : e = .returned (.tuple #[.slice none 0 0, errv k])) (h2 : Fr (fun _ => False) w w') : RetMat w r e w' := by
  subst h; exact ⟨h1, h2⟩
theorem RetMat.ok {w w' : World} {r : Except Int (List (List Int))} {rs : List (List Int)} {e : Ending} {a : Option Addr} {c : Nat} {ob : Option Nat} {G C : Nat → Nat} (h : r = .ok rs) (h1 : e = .returned (.tuple #[.slice a rs.length c, .nilIface]))
    (h2 : OMat w'.heap w.heap.size 28 3 a c ob rs G C) (h3 : Fr (fun _ => False) w w') : RetMat w r e w' := by
  subst h; exact ⟨a, c, ob, G, C, h1, h2, h3⟩

/-- One's row i. -/
def oneRow (n i : Nat) : List Int := (List.replicate n (16 : Int)).set i 0
def oneM (n : Int) : Except Int (List (List Int)) := if n < 1 ∨ 8 < n then .error 1 else .ok ((List.range n.toNat).map (oneRow n.toNat))

set_option maxRecDepth 100000 in
set_option maxHeartbeats 1000000 in
theorem one_any (n : Int) (w : World) : Calls Try.prog 16 #[.int .i64 n] w (RetMat w (oneM n)) := by
  go_enter Try.func16, Try.ntmps16
  by_cases hb : n < 1 ∨ 8 < n
  · have hX := Lib.hid (show oneM n = .error 1 from if_pos hb)
    go_wp2
    all_goals go_ret2
    all_goals exact RetMat.err hX.out rfl (Fr.refl _ _)
  · have hX := Lib.hid (show oneM n = .ok ((List.range n.toNat).map (oneRow n.toNat)) from if_neg hb)
    have h1 : ¬ n < 1 := by omega
    have h2 : ¬ 8 < n := by omega
    clear hb
    obtain ⟨n, rfl⟩ := Int.eq_ofNat_of_zero_le (show 0 ≤ n by omega)
    rw [Int.toNat_natCast] at hX
    go_wp2
    go_loopw [15, 4] (fun s15 s4 wr => ∃ (i : Nat) (a : Option Addr) (c : Nat) (ob : Option Nat) (G C : Nat → Nat), i ≤ n ∧ s15 = .int .i64 i ∧ s4 = .slice a i c ∧ OMat wr.heap w.heap.size 28 3 a c ob ((List.range i).map (oneRow n)) G C ∧ Fr (fun _ => False) w wr) (fun s15 _ _ => n - (intOf s15).toNat)
    case atStart => exact ⟨0, none, 0, none, fun _ => 0, fun _ => 0, by omega, rfl, rfl, OMat.nil _ _ _ _ _ _, Fr.refl _ _⟩
    case round =>
      obtain ⟨i, a, c, ob, G, C, hi, rfl, rfl, hM, hF⟩ := hrel
      by_cases hlt : i < n
      · have hlit := (Own.made wr 3 1 1 [.int .i64 16] rfl (by decide)).rd
        go_wp2_with (go_at_call 26; refine (repeat_int 16 _ 1 n _ hlit (by omega) (by omega)).mono ?_)
        intro e1 w1 R1
        obtain ⟨a1, c1, ob1, rfl, hO1, hF1, hN1⟩ := R1
        have hFw1 : Fr (fun _ => False) w w1 := (hF.alloc _).trans hF1
        have hM1 := hM.fr ((Fr.refl _ wr).alloc (.cells #[.int .i64 16] 3) |>.trans hF1) (fun _ _ _ h => h)
        obtain ⟨g, rfl, rfl, hg, hc, hfz⟩ := hO1.pos (by omega)
        have hgn : wr.heap.size < g := by have := hN1 g rfl; simp at this; omega
        have hci := (hc i (by omega)).trans (ivals_get .i64 (List.replicate n (16 : Int)) i (by simpa using hlt))
        have hfi := hfz i
        have hO2 : Own (w1.setCell ⟨g, i, none⟩ (.int .i64 0)).heap 3 1 (some ⟨g, 0, none⟩) n c1 (ivals .i64 (oneRow n i)) (some g) := by
          have := hO1.set rfl i (.int .i64 0)
          have e : (ivals .i64 (List.replicate n (16 : Int))).set i (.int .i64 0) = ivals .i64 (oneRow n i) := by simp [ivals, oneRow, List.map_set]
          rw [e] at this
          exact this
        have hrl : (oneRow n i).length = n := by simp [oneRow]
        have hob : ob ≠ some g := fun h => by have := (hM.top.lt g h); omega
        have hGg : ∀ j, j < i → G j ≠ g := fun j hj h => by have := (hM.row j (by simpa using hj)).lt _ rfl; omega
        have hlen : ((List.range i).map (oneRow n)).length = i := by simp
        have hM2 := hM1.fr' (w' := w1.setCell ⟨g, i, none⟩ (.int .i64 0)) (S := fun k => k = g) ((Fr.refl _ _).at1 i _) (fun k hk => by subst hk; exact ⟨fun j hj => hGg j (by rw [hlen] at hj; exact hj), hob⟩)
        have htop := (hM2.alloc (.cells #[.slice (some ⟨g, 0, none⟩) n c1] 28)).top
        rw [hlen] at htop
        have hFw2 : Fr (fun _ => False) w (w1.setCell ⟨g, i, none⟩ (.int .i64 0)) := hFw1.setCell (fun h => by have := hF.size; simp only at h; omega) _
        have hrd := (Own.made (w1.setCell ⟨g, i, none⟩ (.int .i64 0)) 28 1 1 [.slice (some ⟨g, 0, none⟩) n c1] rfl (by decide)).rd
        rw [World.size_setCell] at hrd
        clear hc hfz hO1 hM1
        go_wp2_with (at_builtin; refine wpList_app rfl _ _ 27 rfl Try.underlying27 infoInts rfl (by decide) rfl rfl htop hrd (by simp [Value.oneCell']) (by omega) (by omega) ?_)
        intro a' c' w3 ob' z1 z2 z3
        go_wp2
        have hP := OMat.push (r := oneRow n i) (cr := c1) (hM2.alloc (.cells #[.slice (some ⟨g, 0, none⟩) n c1] 28)) (by rw [hrl]; exact hO2.alloc _) (by have := hF.size; omega) hob (fun j hj => hGg j (by rw [hlen] at hj; exact hj)) (by have := (hFw2.alloc (.cells #[.slice (some ⟨g, 0, none⟩) n c1] 28)).size; exact this) (by rw [hlen, hrl]) (by rw [hlen]; exact z1) z2 (by simpa using z3)
        have hF3 := Fr.app (hFw2.alloc _) z2 (fun k hk => (hM2.obn k hk).1)
        have e : (List.range i).map (oneRow n) ++ [oneRow n i] = (List.range (i + 1)).map (oneRow n) := by simp [List.range_succ]
        rw [e] at hP
        clear e htop hrd hO2 z1 z2 z3 hM2 hM
        go_roundw
        case rel => exact ⟨i + 1, a', c', ob', _, _, by omega, by go_num, rfl, hP, hF3⟩
        case measure => simp [intOf]; omega
      · obtain rfl : i = n := by omega
        go_wp2
        go_ret2
        exact RetMat.ok hX.out (by simp) hM hF
end Go.Proofs.Ytlmoaompmiobjaa
