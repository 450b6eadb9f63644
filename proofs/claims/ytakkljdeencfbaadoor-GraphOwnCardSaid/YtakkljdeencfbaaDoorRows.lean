/-
  NARROWER THAN 'FOR EVERY INPUT', by the rows' own cells (each row's printed sentence says how): GraphOwn: laid · BellOwn: laid · SpanOwn: laid · SpfOwn: laid · WaysOwn: laid.
  DERIVED. THE GIVEN ROWS OF THIS SEAT. 5 by the template 'for every input the law returns true; each argument reads behind the call as it read before'; 0 by the template 'total and deterministic' (their statements: YtakkljdeencfbaaDoorTotals.lean).
  GIVEN WITH THE SEED: the statements are not yours to turn. If you find one false, say at which input.
  Laid BY PROGRAM, IN A SANDBOX (cutbox-rows.mjs): the forced cells as the released guide's own fill.sh prints them over the translation 7455db2840a6f966… (all of the seat's roots in one cut). By AI agents, Wed Nov 11 2026. No macro, syntax, notation, axiom, sorry.
-/
import Derived.Test.YtakkljdeencfbaaDoorChecked
import GoSem.Claim
import GoSem.ClaimJoined
import GoSem.ClaimMapViews
import Derived.JoinedTies
import Derived.KernelRfl
namespace Go.Proofs.YtakkljdeencfbaaDoor
/- THE CELL 'sum', in the pinned program and in every row, IS THE sha256 OF THE DUMP (.gsa) THAT YtakkljdeencfbaaDoorProg.lean LOADS. Nothing in Lean hashes anything: it is a label: what it is worth is what the hold of that sum in a sandbox is worth. -/
noncomputable def Tryd.pinned : Pinned := { name := "ytakkljdeencfbaadoor", sum := "7455db2840a6f966e557ce6e95b33f3177facc970eeb9b8d08a407f25c890679", checked := Tryd.checked }
namespace Rows
def none {H : Type} : Left H := { results := [], args := [] }

/- WHAT THE LISTED PACKAGE-LEVEL VARIABLES READ AS WHEN THE CALL BEGINS. Each datum BY PROGRAM (the guide's laid-datum.mjs) off the statement by which the dump's own 'gosem.cut.vars' lays the variable. In a bare row this is a premise. The card (YtakkljdeencfbaaDoorCards.lean) ties it to the program's text. -/
def laid_errors_errorType {H : Type} : DataW H := .iface "internal/reflectlite.rtype" (.agg [.ptr (.lit (.string [101, 114, 114, 111, 114]))])

/-- 'waywardenlaw6.GraphOwn': WHATEVER THE INPUT: true; the input reads as it did. -/
def graphOwnSpec : ChangeSpec := { name := "graphOwn", fn := fun _ => fun
  | [d1, d2, d3, d4, d5] => { results := [.lit (.bool true)], args := [d1, d2, d3, d4, d5] }
  | _ => none }
def graphOwnRow : OpenClaim := { program := "ytakkljdeencfbaadoor", sum := "7455db2840a6f966e557ce6e95b33f3177facc970eeb9b8d08a407f25c890679", func := "waywarden/waywardenlaw6.GraphOwn", spec := "graphOwn", inPlace := ["internal/reflectlite.ValueOf", "(internal/reflectlite.Value).Type", "(internal/reflectlite.Value).IsNil", "internal/reflectlite.TypeOf", "(internal/reflectlite.Value).Elem", "(internal/reflectlite.Value).Set"], unfollowed := true, recurses := true, named := ["errors.errorType"], plainKeys := false, apart := false, laid := [("errors.errorType", laid_errors_errorType)] }
def GraphOwnSaid : Prop := graphOwnRow.holds Tryd.pinned (OpenSpec.ofChange graphOwnSpec)

/-- ITS FALSE NEIGHBOUR: 'it returns false'. Refute it at one input. -/
def graphOwnWrong : ChangeSpec := { name := "graphOwn", fn := fun _ => fun
  | [d1, d2, d3, d4, d5] => { results := [.lit (.bool false)], args := [d1, d2, d3, d4, d5] }
  | _ => none }
def GraphOwnWrongFalsely : Prop := graphOwnRow.holds Tryd.pinned (OpenSpec.ofChange graphOwnWrong)

/-- 'waywardenlaw7.BellOwn': WHATEVER THE INPUT: true; the input reads as it did. -/
def bellOwnSpec : ChangeSpec := { name := "bellOwn", fn := fun _ => fun
  | [d1, d2, d3, d4, d5] => { results := [.lit (.bool true)], args := [d1, d2, d3, d4, d5] }
  | _ => none }
def bellOwnRow : OpenClaim := { program := "ytakkljdeencfbaadoor", sum := "7455db2840a6f966e557ce6e95b33f3177facc970eeb9b8d08a407f25c890679", func := "waywarden/waywardenlaw7.BellOwn", spec := "bellOwn", inPlace := ["internal/reflectlite.ValueOf", "(internal/reflectlite.Value).Type", "(internal/reflectlite.Value).IsNil", "internal/reflectlite.TypeOf", "(internal/reflectlite.Value).Elem", "(internal/reflectlite.Value).Set"], unfollowed := true, recurses := true, named := ["errors.errorType"], plainKeys := false, apart := false, laid := [("errors.errorType", laid_errors_errorType)] }
def BellOwnSaid : Prop := bellOwnRow.holds Tryd.pinned (OpenSpec.ofChange bellOwnSpec)

/-- ITS FALSE NEIGHBOUR: 'it returns false'. Refute it at one input. -/
def bellOwnWrong : ChangeSpec := { name := "bellOwn", fn := fun _ => fun
  | [d1, d2, d3, d4, d5] => { results := [.lit (.bool false)], args := [d1, d2, d3, d4, d5] }
  | _ => none }
def BellOwnWrongFalsely : Prop := bellOwnRow.holds Tryd.pinned (OpenSpec.ofChange bellOwnWrong)

/-- 'waywardenlaw7.SpanOwn': WHATEVER THE INPUT: true; the input reads as it did. -/
def spanOwnSpec : ChangeSpec := { name := "spanOwn", fn := fun _ => fun
  | [d1, d2, d3] => { results := [.lit (.bool true)], args := [d1, d2, d3] }
  | _ => none }
def spanOwnRow : OpenClaim := { program := "ytakkljdeencfbaadoor", sum := "7455db2840a6f966e557ce6e95b33f3177facc970eeb9b8d08a407f25c890679", func := "waywarden/waywardenlaw7.SpanOwn", spec := "spanOwn", inPlace := ["internal/reflectlite.ValueOf", "(internal/reflectlite.Value).Type", "(internal/reflectlite.Value).IsNil", "internal/reflectlite.TypeOf", "(internal/reflectlite.Value).Elem", "(internal/reflectlite.Value).Set"], unfollowed := true, recurses := true, named := ["errors.errorType"], plainKeys := false, apart := false, laid := [("errors.errorType", laid_errors_errorType)] }
def SpanOwnSaid : Prop := spanOwnRow.holds Tryd.pinned (OpenSpec.ofChange spanOwnSpec)

/-- ITS FALSE NEIGHBOUR: 'it returns false'. Refute it at one input. -/
def spanOwnWrong : ChangeSpec := { name := "spanOwn", fn := fun _ => fun
  | [d1, d2, d3] => { results := [.lit (.bool false)], args := [d1, d2, d3] }
  | _ => none }
def SpanOwnWrongFalsely : Prop := spanOwnRow.holds Tryd.pinned (OpenSpec.ofChange spanOwnWrong)

/-- 'waywardenlaw7.SpfOwn': WHATEVER THE INPUT: true; the input reads as it did. -/
def spfOwnSpec : ChangeSpec := { name := "spfOwn", fn := fun _ => fun
  | [d1, d2, d3, d4] => { results := [.lit (.bool true)], args := [d1, d2, d3, d4] }
  | _ => none }
def spfOwnRow : OpenClaim := { program := "ytakkljdeencfbaadoor", sum := "7455db2840a6f966e557ce6e95b33f3177facc970eeb9b8d08a407f25c890679", func := "waywarden/waywardenlaw7.SpfOwn", spec := "spfOwn", inPlace := ["internal/reflectlite.ValueOf", "(internal/reflectlite.Value).Type", "(internal/reflectlite.Value).IsNil", "internal/reflectlite.TypeOf", "(internal/reflectlite.Value).Elem", "(internal/reflectlite.Value).Set"], unfollowed := true, recurses := true, named := ["errors.errorType"], plainKeys := false, apart := false, laid := [("errors.errorType", laid_errors_errorType)] }
def SpfOwnSaid : Prop := spfOwnRow.holds Tryd.pinned (OpenSpec.ofChange spfOwnSpec)

/-- ITS FALSE NEIGHBOUR: 'it returns false'. Refute it at one input. -/
def spfOwnWrong : ChangeSpec := { name := "spfOwn", fn := fun _ => fun
  | [d1, d2, d3, d4] => { results := [.lit (.bool false)], args := [d1, d2, d3, d4] }
  | _ => none }
def SpfOwnWrongFalsely : Prop := spfOwnRow.holds Tryd.pinned (OpenSpec.ofChange spfOwnWrong)

/-- 'waywardenlaw7.WaysOwn': WHATEVER THE INPUT: true; the input reads as it did. -/
def waysOwnSpec : ChangeSpec := { name := "waysOwn", fn := fun _ => fun
  | [d1, d2, d3, d4, d5, d6] => { results := [.lit (.bool true)], args := [d1, d2, d3, d4, d5, d6] }
  | _ => none }
def waysOwnRow : OpenClaim := { program := "ytakkljdeencfbaadoor", sum := "7455db2840a6f966e557ce6e95b33f3177facc970eeb9b8d08a407f25c890679", func := "waywarden/waywardenlaw7.WaysOwn", spec := "waysOwn", inPlace := ["internal/reflectlite.ValueOf", "(internal/reflectlite.Value).Type", "(internal/reflectlite.Value).IsNil", "internal/reflectlite.TypeOf", "(internal/reflectlite.Value).Elem", "(internal/reflectlite.Value).Set"], unfollowed := true, recurses := true, named := ["errors.errorType"], plainKeys := false, apart := false, laid := [("errors.errorType", laid_errors_errorType)] }
def WaysOwnSaid : Prop := waysOwnRow.holds Tryd.pinned (OpenSpec.ofChange waysOwnSpec)

/-- ITS FALSE NEIGHBOUR: 'it returns false'. Refute it at one input. -/
def waysOwnWrong : ChangeSpec := { name := "waysOwn", fn := fun _ => fun
  | [d1, d2, d3, d4, d5, d6] => { results := [.lit (.bool false)], args := [d1, d2, d3, d4, d5, d6] }
  | _ => none }
def WaysOwnWrongFalsely : Prop := waysOwnRow.holds Tryd.pinned (OpenSpec.ofChange waysOwnWrong)

/- THE SECOND FORM. 'bulk': how many values and letters a reading holds, each counted each time it is reached (what is shared counts as often as it is met; a slice's spare places count too). A statement '..UptoSaid' is the law's where the arguments, and the package variables that the reading takes, are together of bulk at most 1048576: NARROWER than '..Said'. Prove '..Said' where nothing that the law and all that it calls make is longer than what came in: it says more and counts as full. Else prove '..UptoSaid'. A law counts once. -/
mutual
def uptoBulk {H : Type} : DataW H → Nat
  | .lit (.string bytes) => bytes.length + 1
  | .lit _ => 1
  | .nil => 1
  | .ptr d => uptoBulk d + 1
  | .slice elems spare => uptoBulkAll elems + uptoBulkAll spare + 1
  | .agg parts => uptoBulkAll parts + 1
  | .iface _ d => uptoBulk d + 1
  | .map entries => uptoBulkEntries entries + 1
  | .held _ => 1
def uptoBulkAll {H : Type} : List (DataW H) → Nat
  | [] => 0
  | d :: r => uptoBulk d + uptoBulkAll r
def uptoBulkEntries {H : Type} : List (Lit × DataW H) → Nat
  | [] => 0
  | x :: r => uptoBulkEntry x + uptoBulkEntries r
def uptoBulkEntry {H : Type} : Lit × DataW H → Nat
  | (.string bytes, d) => bytes.length + uptoBulk d + 1
  | (_, d) => uptoBulk d + 1
 end
def uptoSmall : (H : Type) → List (DataW H) → Bool := fun _ ds => decide (uptoBulkAll ds ≤ 1048576)
def OpenSpec.upto (s : _root_.Go.ChangeSpec) : _root_.Go.OpenSpec := { _root_.Go.OpenSpec.ofChange s with cond := some uptoSmall }

/-- 'waywardenlaw6.GraphOwn', WHERE WHAT IT READS IS OF BULK AT MOST 1048576: true; the input reads as it did. -/
def graphOwnUptoRow : OpenClaim := { program := "ytakkljdeencfbaadoor", sum := "7455db2840a6f966e557ce6e95b33f3177facc970eeb9b8d08a407f25c890679", func := "waywarden/waywardenlaw6.GraphOwn", spec := "graphOwn", inPlace := ["internal/reflectlite.ValueOf", "(internal/reflectlite.Value).Type", "(internal/reflectlite.Value).IsNil", "internal/reflectlite.TypeOf", "(internal/reflectlite.Value).Elem", "(internal/reflectlite.Value).Set"], unfollowed := true, recurses := true, named := ["errors.errorType"], plainKeys := false, apart := false, laid := [("errors.errorType", laid_errors_errorType)], narrowed := true }
def GraphOwnUptoSaid : Prop := graphOwnUptoRow.holds Tryd.pinned (OpenSpec.upto graphOwnSpec)

/-- 'waywardenlaw7.BellOwn', WHERE WHAT IT READS IS OF BULK AT MOST 1048576: true; the input reads as it did. -/
def bellOwnUptoRow : OpenClaim := { program := "ytakkljdeencfbaadoor", sum := "7455db2840a6f966e557ce6e95b33f3177facc970eeb9b8d08a407f25c890679", func := "waywarden/waywardenlaw7.BellOwn", spec := "bellOwn", inPlace := ["internal/reflectlite.ValueOf", "(internal/reflectlite.Value).Type", "(internal/reflectlite.Value).IsNil", "internal/reflectlite.TypeOf", "(internal/reflectlite.Value).Elem", "(internal/reflectlite.Value).Set"], unfollowed := true, recurses := true, named := ["errors.errorType"], plainKeys := false, apart := false, laid := [("errors.errorType", laid_errors_errorType)], narrowed := true }
def BellOwnUptoSaid : Prop := bellOwnUptoRow.holds Tryd.pinned (OpenSpec.upto bellOwnSpec)

/-- 'waywardenlaw7.SpanOwn', WHERE WHAT IT READS IS OF BULK AT MOST 1048576: true; the input reads as it did. -/
def spanOwnUptoRow : OpenClaim := { program := "ytakkljdeencfbaadoor", sum := "7455db2840a6f966e557ce6e95b33f3177facc970eeb9b8d08a407f25c890679", func := "waywarden/waywardenlaw7.SpanOwn", spec := "spanOwn", inPlace := ["internal/reflectlite.ValueOf", "(internal/reflectlite.Value).Type", "(internal/reflectlite.Value).IsNil", "internal/reflectlite.TypeOf", "(internal/reflectlite.Value).Elem", "(internal/reflectlite.Value).Set"], unfollowed := true, recurses := true, named := ["errors.errorType"], plainKeys := false, apart := false, laid := [("errors.errorType", laid_errors_errorType)], narrowed := true }
def SpanOwnUptoSaid : Prop := spanOwnUptoRow.holds Tryd.pinned (OpenSpec.upto spanOwnSpec)

/-- 'waywardenlaw7.SpfOwn', WHERE WHAT IT READS IS OF BULK AT MOST 1048576: true; the input reads as it did. -/
def spfOwnUptoRow : OpenClaim := { program := "ytakkljdeencfbaadoor", sum := "7455db2840a6f966e557ce6e95b33f3177facc970eeb9b8d08a407f25c890679", func := "waywarden/waywardenlaw7.SpfOwn", spec := "spfOwn", inPlace := ["internal/reflectlite.ValueOf", "(internal/reflectlite.Value).Type", "(internal/reflectlite.Value).IsNil", "internal/reflectlite.TypeOf", "(internal/reflectlite.Value).Elem", "(internal/reflectlite.Value).Set"], unfollowed := true, recurses := true, named := ["errors.errorType"], plainKeys := false, apart := false, laid := [("errors.errorType", laid_errors_errorType)], narrowed := true }
def SpfOwnUptoSaid : Prop := spfOwnUptoRow.holds Tryd.pinned (OpenSpec.upto spfOwnSpec)

/-- 'waywardenlaw7.WaysOwn', WHERE WHAT IT READS IS OF BULK AT MOST 1048576: true; the input reads as it did. -/
def waysOwnUptoRow : OpenClaim := { program := "ytakkljdeencfbaadoor", sum := "7455db2840a6f966e557ce6e95b33f3177facc970eeb9b8d08a407f25c890679", func := "waywarden/waywardenlaw7.WaysOwn", spec := "waysOwn", inPlace := ["internal/reflectlite.ValueOf", "(internal/reflectlite.Value).Type", "(internal/reflectlite.Value).IsNil", "internal/reflectlite.TypeOf", "(internal/reflectlite.Value).Elem", "(internal/reflectlite.Value).Set"], unfollowed := true, recurses := true, named := ["errors.errorType"], plainKeys := false, apart := false, laid := [("errors.errorType", laid_errors_errorType)], narrowed := true }
def WaysOwnUptoSaid : Prop := waysOwnUptoRow.holds Tryd.pinned (OpenSpec.upto waysOwnSpec)

end Rows
end Go.Proofs.YtakkljdeencfbaaDoor
