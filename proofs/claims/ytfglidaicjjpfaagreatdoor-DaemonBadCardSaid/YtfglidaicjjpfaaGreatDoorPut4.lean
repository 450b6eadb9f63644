import Derived.Test.YtfglidaicjjpfaaGreatDoorBase
namespace Go
theorem put4 {w : World} {g : Nat} {E : TypeId} {c0 c1 c2 c3 : Value} (h : Blk w.heap g E [c0, c1, c2, c3]) (u0 u1 u2 u3 : Value) :
    Blk ((((w.setCell ⟨g, 0, none⟩ u0).setCell ⟨g, 1, none⟩ u1).setCell ⟨g, 2, none⟩ u2).setCell ⟨g, 3, none⟩ u3).heap g E [u0, u1, u2, u3] ∧ Fr (fun k => k = g) w ((((w.setCell ⟨g, 0, none⟩ u0).setCell ⟨g, 1, none⟩ u1).setCell ⟨g, 2, none⟩ u2).setCell ⟨g, 3, none⟩ u3) :=
  ⟨(((h.set 0 u0).set 1 u1).set 2 u2).set 3 u3, ((((Fr.refl (fun k => k = g) w).setCell (p := ⟨g, 0, none⟩) (fun _ => rfl) u0).setCell (p := ⟨g, 1, none⟩) (fun _ => rfl) u1).setCell (p := ⟨g, 2, none⟩) (fun _ => rfl) u2).setCell (p := ⟨g, 3, none⟩) (fun _ => rfl) u3⟩
end Go
