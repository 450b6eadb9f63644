/-
  NARROWER THAN 'FOR EVERY INPUT', by the rows' own cells (each row's printed sentence says how): LineOwn: laid · PlanOwn: laid · PickOwn: laid · WheelClears: laid · WireOwn: laid.
  DERIVED. THE GIVEN ROWS OF THIS SEAT. 5 by the template 'for every input the law returns true; each argument reads behind the call as it read before'; 0 by the template 'total and deterministic' (their statements: YtbmeeglehbaggaaDoorTotals.lean).
  GIVEN WITH THE SEED: the statements are not yours to turn. If you find one false, say at which input.
  Laid BY PROGRAM, IN A SANDBOX (cutbox-rows.mjs): the forced cells as the released guide's own fill.sh prints them over the translation fd61076fb2018cf5… (all of the seat's roots in one cut). By AI agents, Wed Nov 11 2026. No macro, syntax, notation, axiom, sorry.
-/
import Derived.Test.YtbmeeglehbaggaaDoorChecked
import GoSem.Claim
import GoSem.ClaimJoined
import GoSem.ClaimMapViews
import Derived.JoinedTies
import Derived.KernelRfl
namespace Go.Proofs.YtbmeeglehbaggaaDoor
/- THE CELL 'sum', in the pinned program and in every row, IS THE sha256 OF THE DUMP (.gsa) THAT YtbmeeglehbaggaaDoorProg.lean LOADS. Nothing in Lean hashes anything: it is a label: what it is worth is what the hold of that sum in a sandbox is worth. -/
noncomputable def Tryd.pinned : Pinned := { name := "ytbmeeglehbaggaadoor", sum := "fd61076fb2018cf54df9c64451f4ef8256f735c47694420a19e8f7710d79b60d", checked := Tryd.checked }
namespace Rows
def none {H : Type} : Left H := { results := [], args := [] }

/- WHAT THE LISTED PACKAGE-LEVEL VARIABLES READ AS WHEN THE CALL BEGINS. Each datum BY PROGRAM (the guide's laid-datum.mjs) off the statement by which the dump's own 'gosem.cut.vars' lays the variable. In a bare row this is a premise. The card (YtbmeeglehbaggaaDoorCards.lean) ties it to the program's text. -/
def laid_waywarden_line_nobody {H : Type} : DataW H := .agg [.lit (.int .i64 16), .lit (.int .i64 (-1))]
def laid_errors_errorType {H : Type} : DataW H := .iface "internal/reflectlite.rtype" (.agg [.ptr (.lit (.string [101, 114, 114, 111, 114]))])

/-- 'waywardenlaw7.LineOwn': WHATEVER THE INPUT: true; the input reads as it did. -/
def lineOwnSpec : ChangeSpec := { name := "lineOwn", fn := fun _ => fun
  | [d1, d2, d3] => { results := [.lit (.bool true)], args := [d1, d2, d3] }
  | _ => none }
def lineOwnRow : OpenClaim := { program := "ytbmeeglehbaggaadoor", sum := "fd61076fb2018cf54df9c64451f4ef8256f735c47694420a19e8f7710d79b60d", func := "waywarden/waywardenlaw7.LineOwn", spec := "lineOwn", unfollowed := true, recurses := true, named := ["waywarden/line.nobody"], plainKeys := false, apart := false, laid := [("waywarden/line.nobody", laid_waywarden_line_nobody)] }
def LineOwnSaid : Prop := lineOwnRow.holds Tryd.pinned (OpenSpec.ofChange lineOwnSpec)

/-- ITS FALSE NEIGHBOUR: 'it returns false'. Refute it at one input. -/
def lineOwnWrong : ChangeSpec := { name := "lineOwn", fn := fun _ => fun
  | [d1, d2, d3] => { results := [.lit (.bool false)], args := [d1, d2, d3] }
  | _ => none }
def LineOwnWrongFalsely : Prop := lineOwnRow.holds Tryd.pinned (OpenSpec.ofChange lineOwnWrong)

/-- 'waywardenlaw7.PlanOwn': WHATEVER THE INPUT: true; the input reads as it did. -/
def planOwnSpec : ChangeSpec := { name := "planOwn", fn := fun _ => fun
  | [d1, d2, d3] => { results := [.lit (.bool true)], args := [d1, d2, d3] }
  | _ => none }
def planOwnRow : OpenClaim := { program := "ytbmeeglehbaggaadoor", sum := "fd61076fb2018cf54df9c64451f4ef8256f735c47694420a19e8f7710d79b60d", func := "waywarden/waywardenlaw7.PlanOwn", spec := "planOwn", inPlace := ["internal/reflectlite.ValueOf", "(internal/reflectlite.Value).Type", "(internal/reflectlite.Value).IsNil", "internal/reflectlite.TypeOf", "(internal/reflectlite.Value).Elem", "(internal/reflectlite.Value).Set"], unfollowed := true, recurses := true, named := ["errors.errorType"], plainKeys := false, apart := false, laid := [("errors.errorType", laid_errors_errorType)] }
def PlanOwnSaid : Prop := planOwnRow.holds Tryd.pinned (OpenSpec.ofChange planOwnSpec)

/-- ITS FALSE NEIGHBOUR: 'it returns false'. Refute it at one input. -/
def planOwnWrong : ChangeSpec := { name := "planOwn", fn := fun _ => fun
  | [d1, d2, d3] => { results := [.lit (.bool false)], args := [d1, d2, d3] }
  | _ => none }
def PlanOwnWrongFalsely : Prop := planOwnRow.holds Tryd.pinned (OpenSpec.ofChange planOwnWrong)

/-- 'waywardenlaw7.PickOwn': WHATEVER THE INPUT: true; the input reads as it did. -/
def pickOwnSpec : ChangeSpec := { name := "pickOwn", fn := fun _ => fun
  | [d1, d2, d3] => { results := [.lit (.bool true)], args := [d1, d2, d3] }
  | _ => none }
def pickOwnRow : OpenClaim := { program := "ytbmeeglehbaggaadoor", sum := "fd61076fb2018cf54df9c64451f4ef8256f735c47694420a19e8f7710d79b60d", func := "waywarden/waywardenlaw7.PickOwn", spec := "pickOwn", inPlace := ["internal/reflectlite.ValueOf", "(internal/reflectlite.Value).Type", "(internal/reflectlite.Value).IsNil", "internal/reflectlite.TypeOf", "(internal/reflectlite.Value).Elem", "(internal/reflectlite.Value).Set"], unfollowed := true, recurses := true, named := ["errors.errorType"], plainKeys := false, apart := false, laid := [("errors.errorType", laid_errors_errorType)] }
def PickOwnSaid : Prop := pickOwnRow.holds Tryd.pinned (OpenSpec.ofChange pickOwnSpec)

/-- ITS FALSE NEIGHBOUR: 'it returns false'. Refute it at one input. -/
def pickOwnWrong : ChangeSpec := { name := "pickOwn", fn := fun _ => fun
  | [d1, d2, d3] => { results := [.lit (.bool false)], args := [d1, d2, d3] }
  | _ => none }
def PickOwnWrongFalsely : Prop := pickOwnRow.holds Tryd.pinned (OpenSpec.ofChange pickOwnWrong)

/-- 'waywardenlaw6.WheelClears': WHATEVER THE INPUT: true; the input reads as it did. -/
def wheelClearsSpec : ChangeSpec := { name := "wheelClears", fn := fun _ => fun
  | [d1, d2, d3, d4, d5] => { results := [.lit (.bool true)], args := [d1, d2, d3, d4, d5] }
  | _ => none }
def wheelClearsRow : OpenClaim := { program := "ytbmeeglehbaggaadoor", sum := "fd61076fb2018cf54df9c64451f4ef8256f735c47694420a19e8f7710d79b60d", func := "waywarden/waywardenlaw6.WheelClears", spec := "wheelClears", inPlace := ["internal/reflectlite.ValueOf", "(internal/reflectlite.Value).Type", "(internal/reflectlite.Value).IsNil", "internal/reflectlite.TypeOf", "(internal/reflectlite.Value).Elem", "(internal/reflectlite.Value).Set"], unfollowed := true, recurses := true, named := ["errors.errorType"], plainKeys := false, apart := false, laid := [("errors.errorType", laid_errors_errorType)] }
def WheelClearsSaid : Prop := wheelClearsRow.holds Tryd.pinned (OpenSpec.ofChange wheelClearsSpec)

/-- ITS FALSE NEIGHBOUR: 'it returns false'. Refute it at one input. -/
def wheelClearsWrong : ChangeSpec := { name := "wheelClears", fn := fun _ => fun
  | [d1, d2, d3, d4, d5] => { results := [.lit (.bool false)], args := [d1, d2, d3, d4, d5] }
  | _ => none }
def WheelClearsWrongFalsely : Prop := wheelClearsRow.holds Tryd.pinned (OpenSpec.ofChange wheelClearsWrong)

/-- 'waywardenlaw7.WireOwn': WHATEVER THE INPUT: true; the input reads as it did. -/
def wireOwnSpec : ChangeSpec := { name := "wireOwn", fn := fun _ => fun
  | [d1, d2, d3] => { results := [.lit (.bool true)], args := [d1, d2, d3] }
  | _ => none }
def wireOwnRow : OpenClaim := { program := "ytbmeeglehbaggaadoor", sum := "fd61076fb2018cf54df9c64451f4ef8256f735c47694420a19e8f7710d79b60d", func := "waywarden/waywardenlaw7.WireOwn", spec := "wireOwn", inPlace := ["internal/reflectlite.ValueOf", "(internal/reflectlite.Value).Type", "(internal/reflectlite.Value).IsNil", "internal/reflectlite.TypeOf", "(internal/reflectlite.Value).Elem", "(internal/reflectlite.Value).Set"], unfollowed := true, recurses := true, named := ["errors.errorType"], plainKeys := false, apart := false, laid := [("errors.errorType", laid_errors_errorType)] }
def WireOwnSaid : Prop := wireOwnRow.holds Tryd.pinned (OpenSpec.ofChange wireOwnSpec)

/-- ITS FALSE NEIGHBOUR: 'it returns false'. Refute it at one input. -/
def wireOwnWrong : ChangeSpec := { name := "wireOwn", fn := fun _ => fun
  | [d1, d2, d3] => { results := [.lit (.bool false)], args := [d1, d2, d3] }
  | _ => none }
def WireOwnWrongFalsely : Prop := wireOwnRow.holds Tryd.pinned (OpenSpec.ofChange wireOwnWrong)

/- THE SECOND FORM. 'bulk': how many values and letters a reading holds, each counted each time it is reached (what is shared counts as often as it is met; a slice's spare places count too). A statement '..UptoSaid' is the law's where the arguments, and the package variables that the reading takes, are together of bulk at most 1048576: NARROWER than '..Said'. Prove '..Said' where nothing that the law and all that it calls make is longer than what came in: it says more and counts as full. Else prove '..UptoSaid'. A law counts once. -/
mutual
def uptoBulk {H : Type} : DataW H → Nat
  | .lit (.string bytes) => bytes.length + 1
  | .lit _ => 1
  | .nil => 1
  | .ptr d => uptoBulk d + 1
  | .slice elems spare => uptoBulkAll elems + uptoBulkAll spare + 1
  | .agg parts => uptoBulkAll parts + 1
  | .iface _ d => uptoBulk d + 1
  | .map entries => uptoBulkEntries entries + 1
  | .held _ => 1
def uptoBulkAll {H : Type} : List (DataW H) → Nat
  | [] => 0
  | d :: r => uptoBulk d + uptoBulkAll r
def uptoBulkEntries {H : Type} : List (Lit × DataW H) → Nat
  | [] => 0
  | x :: r => uptoBulkEntry x + uptoBulkEntries r
def uptoBulkEntry {H : Type} : Lit × DataW H → Nat
  | (.string bytes, d) => bytes.length + uptoBulk d + 1
  | (_, d) => uptoBulk d + 1
 end
def uptoSmall : (H : Type) → List (DataW H) → Bool := fun _ ds => decide (uptoBulkAll ds ≤ 1048576)
def OpenSpec.upto (s : _root_.Go.ChangeSpec) : _root_.Go.OpenSpec := { _root_.Go.OpenSpec.ofChange s with cond := some uptoSmall }

/-- 'waywardenlaw7.LineOwn', WHERE WHAT IT READS IS OF BULK AT MOST 1048576: true; the input reads as it did. -/
def lineOwnUptoRow : OpenClaim := { program := "ytbmeeglehbaggaadoor", sum := "fd61076fb2018cf54df9c64451f4ef8256f735c47694420a19e8f7710d79b60d", func := "waywarden/waywardenlaw7.LineOwn", spec := "lineOwn", unfollowed := true, recurses := true, named := ["waywarden/line.nobody"], plainKeys := false, apart := false, laid := [("waywarden/line.nobody", laid_waywarden_line_nobody)], narrowed := true }
def LineOwnUptoSaid : Prop := lineOwnUptoRow.holds Tryd.pinned (OpenSpec.upto lineOwnSpec)

/-- 'waywardenlaw7.PlanOwn', WHERE WHAT IT READS IS OF BULK AT MOST 1048576: true; the input reads as it did. -/
def planOwnUptoRow : OpenClaim := { program := "ytbmeeglehbaggaadoor", sum := "fd61076fb2018cf54df9c64451f4ef8256f735c47694420a19e8f7710d79b60d", func := "waywarden/waywardenlaw7.PlanOwn", spec := "planOwn", inPlace := ["internal/reflectlite.ValueOf", "(internal/reflectlite.Value).Type", "(internal/reflectlite.Value).IsNil", "internal/reflectlite.TypeOf", "(internal/reflectlite.Value).Elem", "(internal/reflectlite.Value).Set"], unfollowed := true, recurses := true, named := ["errors.errorType"], plainKeys := false, apart := false, laid := [("errors.errorType", laid_errors_errorType)], narrowed := true }
def PlanOwnUptoSaid : Prop := planOwnUptoRow.holds Tryd.pinned (OpenSpec.upto planOwnSpec)

/-- 'waywardenlaw7.PickOwn', WHERE WHAT IT READS IS OF BULK AT MOST 1048576: true; the input reads as it did. -/
def pickOwnUptoRow : OpenClaim := { program := "ytbmeeglehbaggaadoor", sum := "fd61076fb2018cf54df9c64451f4ef8256f735c47694420a19e8f7710d79b60d", func := "waywarden/waywardenlaw7.PickOwn", spec := "pickOwn", inPlace := ["internal/reflectlite.ValueOf", "(internal/reflectlite.Value).Type", "(internal/reflectlite.Value).IsNil", "internal/reflectlite.TypeOf", "(internal/reflectlite.Value).Elem", "(internal/reflectlite.Value).Set"], unfollowed := true, recurses := true, named := ["errors.errorType"], plainKeys := false, apart := false, laid := [("errors.errorType", laid_errors_errorType)], narrowed := true }
def PickOwnUptoSaid : Prop := pickOwnUptoRow.holds Tryd.pinned (OpenSpec.upto pickOwnSpec)

/-- 'waywardenlaw6.WheelClears', WHERE WHAT IT READS IS OF BULK AT MOST 1048576: true; the input reads as it did. -/
def wheelClearsUptoRow : OpenClaim := { program := "ytbmeeglehbaggaadoor", sum := "fd61076fb2018cf54df9c64451f4ef8256f735c47694420a19e8f7710d79b60d", func := "waywarden/waywardenlaw6.WheelClears", spec := "wheelClears", inPlace := ["internal/reflectlite.ValueOf", "(internal/reflectlite.Value).Type", "(internal/reflectlite.Value).IsNil", "internal/reflectlite.TypeOf", "(internal/reflectlite.Value).Elem", "(internal/reflectlite.Value).Set"], unfollowed := true, recurses := true, named := ["errors.errorType"], plainKeys := false, apart := false, laid := [("errors.errorType", laid_errors_errorType)], narrowed := true }
def WheelClearsUptoSaid : Prop := wheelClearsUptoRow.holds Tryd.pinned (OpenSpec.upto wheelClearsSpec)

/-- 'waywardenlaw7.WireOwn', WHERE WHAT IT READS IS OF BULK AT MOST 1048576: true; the input reads as it did. -/
def wireOwnUptoRow : OpenClaim := { program := "ytbmeeglehbaggaadoor", sum := "fd61076fb2018cf54df9c64451f4ef8256f735c47694420a19e8f7710d79b60d", func := "waywarden/waywardenlaw7.WireOwn", spec := "wireOwn", inPlace := ["internal/reflectlite.ValueOf", "(internal/reflectlite.Value).Type", "(internal/reflectlite.Value).IsNil", "internal/reflectlite.TypeOf", "(internal/reflectlite.Value).Elem", "(internal/reflectlite.Value).Set"], unfollowed := true, recurses := true, named := ["errors.errorType"], plainKeys := false, apart := false, laid := [("errors.errorType", laid_errors_errorType)], narrowed := true }
def WireOwnUptoSaid : Prop := wireOwnUptoRow.holds Tryd.pinned (OpenSpec.upto wireOwnSpec)

end Rows
end Go.Proofs.YtbmeeglehbaggaaDoor
