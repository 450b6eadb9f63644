import Derived.Test.YtfjempfffdeklaaDoorRowA
import Derived.Test.YtfjempfffdeklaaDoorTie
import Derived.Test.YtfjempfffdeklaaDoorCards
import Derived.Test.YtfjempfffdeklaaDoorLineNew
import Derived.WalkKit
import Derived.LaidEql
import Derived.Stop.Asserts
import Derived.RowKitTokens
import Derived.ChangeSame
import Derived.ChangeVars
import Derived.JoinedOf
import Derived.LaidLaws
import Derived.LaidHandle
import Derived.Stop.Joined
import Derived.SevenTiedAt
import Derived.FnData
namespace Go.Proofs.YtfjempfffdeklaaDoor
open Go.ChangeShapes Go.WideShapes Go.ChangeAt Go.RowKit Go.Deep Go.Extern.Stop Go.Stop Go.Extern

theorem nobodyVar : Tryd.prog.globalNamed "waywarden/line.nobody" = some 0 := by kernel_rfl
theorem nobodyType : (Tryd.prog.globals[0]?).map (·.type) = some 154 := by kernel_rfl
abbrev laidN : List (String × DataW Unit) := [("waywarden/line.nobody", Rows.laid_waywarden_line_nobody)]
theorem nobody_of_met {W : World} (h : laidMet Tryd.prog laidN W) : Nb W := by
  obtain ⟨ps, hv, -, -⟩ := h
  obtain ⟨g, t, cs, fuel, p, q, hg, ht, hcs, htr, -, -⟩ := hv
  obtain rfl := Option.some.inj (hg.symm.trans nobodyVar)
  obtain rfl := Option.some.inj (ht.symm.trans nobodyType)
  obtain ⟨y0, y1, n, e, hl, g0, g1⟩ := trod_struct2 Tryd.underlying154 htr
  have c2 : Tryd.prog.cellsOf 154 = 2 := by kernel_rfl
  have c1 : Tryd.prog.cellsOf 3 = 1 := by kernel_rfl
  rw [c2] at hl
  have hx := World.var?_cell nobodyVar hcs
  match hcl : cs.toList, hl with
  | [v0, v1], _ =>
    rw [hcl] at g0 g1
    simp [c1] at g0 g1
    obtain ⟨x0, q0, z0, _⟩ := DataW.trod_int Tryd.underlying3 g0
    obtain ⟨x1, q1, z1, _⟩ := DataW.trod_int Tryd.underlying3 g1
    simp at q0 q1
    subst q0 q1
    have e' : (DataW.agg [DataW.lit (Lit.int .i64 16), DataW.lit (Lit.int .i64 (-1))] : DataW Unit) = .agg [y0.1, y1.1] := congrArg Prod.fst e
    rw [z0, z1] at e'
    simp at e'
    obtain ⟨rfl, rfl⟩ := e'
    have d0 := hx 0
    have d1 := hx 1
    rw [← Array.getElem?_toList, hcl] at d0 d1
    exact ⟨by simpa using d0, by simpa using d1, World.block_lt_of_cell? _ _ (by simpa using d0)⟩
/-- A world that meets the condition. -/
noncomputable def laidWorldN (os : Os) : World :=
  let w0 := World.holding Tryd.prog os ⟨#[], #[], []⟩
  { w0 with heap := w0.heap.modify 0 fun
      | .cells _ t frozen => .cells #[.int .i64 16, .int .i64 (-1)] t frozen
      | o => o }
theorem laidWorldN_met (os : Os) (args : Array Value) : laidMetH Tryd.prog laidN ((laidWorldN os).forCall (fun _ _ => 0) ⟨#[], args, []⟩).memory :=
  laidMet_of_run' 8 (by kernel_rfl) (by kernel_rfl)
end Go.Proofs.YtfjempfffdeklaaDoor
