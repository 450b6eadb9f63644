import Derived.Test.YtbmeeglehbaggaaDoorWhF
import Derived.Shelf.SlIterI.Collect
import Derived.Ground.GgzProg
namespace Go.Proofs
open Go.Shelf
def Tryd.wkeys_ren : Go.Shelf.Ren := ⟨fun | 7 => 50 | 10 => 71 | n => n, fun | 23 => 93 | 26 => 3 | 3 => 3 | 28 => 90 | 0 => 0 | 27 => 89 | 33 => 129 | 4 => 4 | n => n, fun | n => n⟩
theorem Tryd.wkeys : Go.Proofs.SlLaysZI.n7 Tryd.prog Tryd.wkeys_ren := {
  mixed := by kernel_rfl
  f7 := ⟨Tryd.f50.name, by decide, Tryd.func50.trans (congrArg some (by kernel_rfl))⟩
  f10 := ⟨Tryd.f71.name, by decide, Tryd.func71.trans (congrArg some (by kernel_rfl))⟩
  t0 := Tryd.underlying0
  a0 := Tryd.isAgg0
  z0 := Tryd.sizeOf0
  v0 := Tryd.zeroValue0
  t4 := Tryd.underlying4
  a4 := Tryd.isAgg4
  z4 := Tryd.sizeOf4
  v4 := Tryd.zeroValue4
  t23 := Tryd.underlying93
  a23 := Tryd.isAgg93
  z23 := Tryd.sizeOf93
  v23 := Tryd.zeroValue93
  t26 := Tryd.underlying3
  a26 := Tryd.isAgg3
  z26 := Tryd.sizeOf3
  v26 := Tryd.zeroValue3
  t27 := Tryd.underlying89
  a27 := Tryd.isAgg89
  z27 := Tryd.sizeOf89
  v27 := Tryd.zeroValue89
  t28 := Tryd.underlying90
  a28 := Tryd.isAgg90
  z28 := Tryd.sizeOf90
  v28 := Tryd.zeroValue90
  t33 := Tryd.underlying129
  a33 := Tryd.isAgg129
  z33 := Tryd.sizeOf129
  v33 := Tryd.zeroValue129
  }

def Tryd.wcoll_ren : Go.Shelf.Ren := ⟨fun | 8 => 49 | 11 => 70 | n => n, fun | 26 => 3 | 28 => 90 | 24 => 30 | 0 => 0 | 33 => 129 | 4 => 4 | n => n, fun | n => n⟩
theorem Tryd.wcoll : Go.Proofs.SlLaysZI.n8 Tryd.prog Tryd.wcoll_ren := {
  mixed := by kernel_rfl
  f8 := ⟨Tryd.f49.name, by decide, Tryd.func49.trans (congrArg some (by kernel_rfl))⟩
  f11 := ⟨Tryd.f70.name, by decide, Tryd.func70.trans (congrArg some (by kernel_rfl))⟩
  t0 := Tryd.underlying0
  a0 := Tryd.isAgg0
  z0 := Tryd.sizeOf0
  v0 := Tryd.zeroValue0
  t24 := Tryd.underlying30
  a24 := Tryd.isAgg30
  z24 := Tryd.sizeOf30
  v24 := Tryd.zeroValue30
  t26 := Tryd.underlying3
  a26 := Tryd.isAgg3
  z26 := Tryd.sizeOf3
  v26 := Tryd.zeroValue3
  t28 := Tryd.underlying90
  a28 := Tryd.isAgg90
  z28 := Tryd.sizeOf90
  v28 := Tryd.zeroValue90
  i26 := by kernel_rfl
  }

end Go.Proofs
namespace Go.Proofs.YtbmeeglehbaggaaDoor
open Go.RowKit Go.Maps Go.Shelf Go.Sort

theorem wkeys_any (mb : Option Nat) (w : World) : Calls Tryd.prog 50 #[.map mb] w (fun e w' => e = .returned (.func (.func 71) #[] #[.pointer (some ⟨w.heap.size, 0, none⟩)]) ∧ w' = w.alloc (.cells #[.map mb] 93)) :=
  callsIn_wide.1 (AnyZI.keys_in Tryd.wkeys Fence.wide 5 trivial rfl mb w)
theorem wcoll_any (Bm b : Nat) (L : List (Int × Value)) (w : World) (hBm : Bm < w.heap.size) (hm : w.cell? ⟨Bm, 0, none⟩ = some (.map (some b))) (hM : MapL w Tryd.prog 3 wli b L) (hl : L.length ≤ 64) :
    Calls Tryd.prog 49 #[.func (.func 71) #[] #[.pointer (some ⟨Bm, 0, none⟩)]] w (fun e w' => ∃ a c ob, e = .returned (.slice a L.length c) ∧ (∃ xs, Ownd w'.heap 3 1 a L.length c xs ob) ∧ Fr (fun _ => False) w w') := by
  obtain ⟨es, hown, hpe⟩ := hM
  have hel : es.length = L.length := by rw [hpe.length_eq]; simp
  have hsz : Maps.size (.map es : DataW Value) = L.length := by rw [Maps.size_eq, hel]
  have hmx : maxLen = 9223372036854775807 := rfl
  have hseq : SeqGives Fence.wide 3 Tryd.prog 71 #[.pointer (some ⟨Bm, 0, none⟩)] encZ (fun ss => ss.Perm (intKeys (.map es))) (Maps.size (.map es : DataW Value)) w :=
    AnyZI.keys_gives (ρ := Tryd.wkeys_ren) { Tryd.wkeys with } Fence.wide _ trivial rfl (by omega) Bm b es.length (.map es) _ hBm hm hown
  have cS := AnyZI.collect_in Tryd.wcoll Fence.wide 5 trivial trivial rfl (by omega) 71 #[.pointer (some ⟨Bm, 0, none⟩)] trivial (enters_of Tryd.func71 (by kernel_rfl) rfl) _ _ (by omega) (by omega) _ hseq
  refine (callsIn_wide.1 cS).mono ?_
  rintro e w' ⟨v, ss, rfl, hp, hrow, -, hB⟩
  obtain ⟨a, c, ob, rfl, hO, -⟩ := Ownd.of_owns hrow
  have hsl : ss.length = L.length := by
    rw [hp.length_eq]
    simp [intKeys, hel]
  rw [hsl] at hO
  exact ⟨a, c, ob, by rw [hsl], ⟨_, hO⟩, ⟨hB.os, hB.tape, hB.output, hB.size, fun k hk _ => hB.block k hk⟩⟩
def RetLen (w : World) (E : Tms) (e : Ending) (w' : World) : Prop := ∃ n : Nat, e = .returned (.int .i64 n) ∧ Counts E n ∧ Fr (fun _ => False) w w'
set_option maxRecDepth 100000 in
set_option maxHeartbeats 1000000 in
theorem wlen_any {base bw : Nat} {now : Int} {E : Tms} {T : Nat → Prop} (w : World) (h : WhAt w base bw now E T) : Calls Tryd.prog 23 #[.pointer (some ⟨bw, 0, none⟩)] w (RetLen w E) := by
  obtain ⟨ab, A, sb, S, h, -⟩ := h
  obtain ⟨-, c65, -, bl⟩ := h.cells
  have hM := h.am
  have hC := Lib.hid h.counts
  have hl := h.keys.2.2
  have hM1 := hM.fr (S := fun _ => False) ((Fr.refl (fun _ => False) w).alloc (.cells #[.map (some ab)] 93)) (fun h => h)
  have hB := Blk.made w 93 [.map (some ab)]
  have hcol := wcoll_any w.heap.size ab A _ hB.lt (hB.cell 0) hM1 hl
  have hF0 := (Fr.refl (fun _ => False) w).alloc (.cells #[.map (some ab)] 93)
  clear h hM hM1 hB
  go_enter Tryd.func23, Tryd.ntmps23
  go_wp2_with (fail)
  refine (wkeys_any (some ab) w).mono ?_
  rintro e1 w1 ⟨rfl, rfl⟩
  go_wp2_with (fail)
  refine hcol.mono ?_
  rintro e2 w2 ⟨a, c, ob, rfl, -, hF⟩
  have hF2 := hF0.trans hF
  clear hcol hF
  go_wp2
  go_ret
  exact ⟨A.length, rfl, hC.out, hF2⟩
end Go.Proofs.YtbmeeglehbaggaaDoor
