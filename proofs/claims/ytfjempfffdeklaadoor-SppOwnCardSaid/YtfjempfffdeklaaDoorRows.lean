/-
  NARROWER THAN 'FOR EVERY INPUT', by the rows' own cells (each row's printed sentence says how): ViewTells: laid · ViewOwn: laid · BestTells: laid · BestWhole: laid · BestEngine: laid · LineSame: laid · RibTells: laid · TrigTells: laid · TrieOrder: laid · SppOwn: laid.
  DERIVED. THE GIVEN ROWS OF THIS SEAT. 10 by the template 'for every input the law returns true; each argument reads behind the call as it read before'; 0 by the template 'total and deterministic' (their statements: YtfjempfffdeklaaDoorTotals.lean).
  GIVEN WITH THE SEED: the statements are not yours to turn. If you find one false, say at which input.
  Laid BY PROGRAM, IN A SANDBOX (cutbox-rows.mjs): the forced cells as the released guide's own fill.sh prints them over the translation 598ee117b9669c7e… (all of the seat's roots in one cut). By AI agents, Wed Nov 11 2026. No macro, syntax, notation, axiom, sorry.
-/
import Derived.Test.YtfjempfffdeklaaDoorChecked
import GoSem.Claim
import GoSem.ClaimJoined
import GoSem.ClaimMapViews
import Derived.JoinedTies
import Derived.KernelRfl
namespace Go.Proofs.YtfjempfffdeklaaDoor
/- THE CELL 'sum', in the pinned program and in every row, IS THE sha256 OF THE DUMP (.gsa) THAT YtfjempfffdeklaaDoorProg.lean LOADS. Nothing in Lean hashes anything: it is a label: what it is worth is what the hold of that sum in a sandbox is worth. -/
noncomputable def Tryd.pinned : Pinned := { name := "ytfjempfffdeklaadoor", sum := "598ee117b9669c7eebbde1e2556f1f0c1ce36a15a855524428d6c31d36e1e219", checked := Tryd.checked }
namespace Rows
def none {H : Type} : Left H := { results := [], args := [] }

/- WHAT THE LISTED PACKAGE-LEVEL VARIABLES READ AS WHEN THE CALL BEGINS. Each datum BY PROGRAM (the guide's laid-datum.mjs) off the statement by which the dump's own 'gosem.cut.vars' lays the variable. In a bare row this is a premise. The card (YtfjempfffdeklaaDoorCards.lean) ties it to the program's text. -/
def laid_errors_errorType {H : Type} : DataW H := .iface "internal/reflectlite.rtype" (.agg [.ptr (.lit (.string [101, 114, 114, 111, 114]))])
def laid_waywarden_line_nobody {H : Type} : DataW H := .agg [.lit (.int .i64 16), .lit (.int .i64 (-1))]

/-- 'waywardenlaw3.ViewTells': WHATEVER THE INPUT: true; the input reads as it did. -/
def viewTellsSpec : ChangeSpec := { name := "viewTells", fn := fun _ => fun
  | [d1, d2, d3] => { results := [.lit (.bool true)], args := [d1, d2, d3] }
  | _ => none }
def viewTellsRow : OpenClaim := { program := "ytfjempfffdeklaadoor", sum := "598ee117b9669c7eebbde1e2556f1f0c1ce36a15a855524428d6c31d36e1e219", func := "waywarden/waywardenlaw3.ViewTells", spec := "viewTells", inPlace := ["internal/reflectlite.ValueOf", "(internal/reflectlite.Value).Type", "(internal/reflectlite.Value).IsNil", "internal/reflectlite.TypeOf", "(internal/reflectlite.Value).Elem", "(internal/reflectlite.Value).Set"], unfollowed := true, recurses := true, named := ["errors.errorType"], plainKeys := false, apart := false, laid := [("errors.errorType", laid_errors_errorType)] }
def ViewTellsSaid : Prop := viewTellsRow.holds Tryd.pinned (OpenSpec.ofChange viewTellsSpec)

/-- ITS FALSE NEIGHBOUR: 'it returns false'. Refute it at one input. -/
def viewTellsWrong : ChangeSpec := { name := "viewTells", fn := fun _ => fun
  | [d1, d2, d3] => { results := [.lit (.bool false)], args := [d1, d2, d3] }
  | _ => none }
def ViewTellsWrongFalsely : Prop := viewTellsRow.holds Tryd.pinned (OpenSpec.ofChange viewTellsWrong)

/-- 'waywardenlaw7.ViewOwn': WHATEVER THE INPUT: true; the input reads as it did. -/
def viewOwnSpec : ChangeSpec := { name := "viewOwn", fn := fun _ => fun
  | [d1, d2, d3, d4] => { results := [.lit (.bool true)], args := [d1, d2, d3, d4] }
  | _ => none }
def viewOwnRow : OpenClaim := { program := "ytfjempfffdeklaadoor", sum := "598ee117b9669c7eebbde1e2556f1f0c1ce36a15a855524428d6c31d36e1e219", func := "waywarden/waywardenlaw7.ViewOwn", spec := "viewOwn", inPlace := ["internal/reflectlite.ValueOf", "(internal/reflectlite.Value).Type", "(internal/reflectlite.Value).IsNil", "internal/reflectlite.TypeOf", "(internal/reflectlite.Value).Elem", "(internal/reflectlite.Value).Set"], unfollowed := true, recurses := true, named := ["errors.errorType"], plainKeys := false, apart := false, laid := [("errors.errorType", laid_errors_errorType)] }
def ViewOwnSaid : Prop := viewOwnRow.holds Tryd.pinned (OpenSpec.ofChange viewOwnSpec)

/-- ITS FALSE NEIGHBOUR: 'it returns false'. Refute it at one input. -/
def viewOwnWrong : ChangeSpec := { name := "viewOwn", fn := fun _ => fun
  | [d1, d2, d3, d4] => { results := [.lit (.bool false)], args := [d1, d2, d3, d4] }
  | _ => none }
def ViewOwnWrongFalsely : Prop := viewOwnRow.holds Tryd.pinned (OpenSpec.ofChange viewOwnWrong)

/-- 'waywardenlaw3.BestTells': WHATEVER THE INPUT: true; the input reads as it did. -/
def bestTellsSpec : ChangeSpec := { name := "bestTells", fn := fun _ => fun
  | [d1, d2, d3] => { results := [.lit (.bool true)], args := [d1, d2, d3] }
  | _ => none }
def bestTellsRow : OpenClaim := { program := "ytfjempfffdeklaadoor", sum := "598ee117b9669c7eebbde1e2556f1f0c1ce36a15a855524428d6c31d36e1e219", func := "waywarden/waywardenlaw3.BestTells", spec := "bestTells", inPlace := ["internal/reflectlite.ValueOf", "(internal/reflectlite.Value).Type", "(internal/reflectlite.Value).IsNil", "internal/reflectlite.TypeOf", "(internal/reflectlite.Value).Elem", "(internal/reflectlite.Value).Set"], unfollowed := true, recurses := true, named := ["errors.errorType"], plainKeys := false, apart := false, laid := [("errors.errorType", laid_errors_errorType)] }
def BestTellsSaid : Prop := bestTellsRow.holds Tryd.pinned (OpenSpec.ofChange bestTellsSpec)

/-- ITS FALSE NEIGHBOUR: 'it returns false'. Refute it at one input. -/
def bestTellsWrong : ChangeSpec := { name := "bestTells", fn := fun _ => fun
  | [d1, d2, d3] => { results := [.lit (.bool false)], args := [d1, d2, d3] }
  | _ => none }
def BestTellsWrongFalsely : Prop := bestTellsRow.holds Tryd.pinned (OpenSpec.ofChange bestTellsWrong)

/-- 'waywardenlaw3.BestWhole': WHATEVER THE INPUT: true; the input reads as it did. -/
def bestWholeSpec : ChangeSpec := { name := "bestWhole", fn := fun _ => fun
  | [d1, d2, d3] => { results := [.lit (.bool true)], args := [d1, d2, d3] }
  | _ => none }
def bestWholeRow : OpenClaim := { program := "ytfjempfffdeklaadoor", sum := "598ee117b9669c7eebbde1e2556f1f0c1ce36a15a855524428d6c31d36e1e219", func := "waywarden/waywardenlaw3.BestWhole", spec := "bestWhole", inPlace := ["internal/reflectlite.ValueOf", "(internal/reflectlite.Value).Type", "(internal/reflectlite.Value).IsNil", "internal/reflectlite.TypeOf", "(internal/reflectlite.Value).Elem", "(internal/reflectlite.Value).Set"], unfollowed := true, recurses := true, named := ["errors.errorType"], plainKeys := false, apart := false, laid := [("errors.errorType", laid_errors_errorType)] }
def BestWholeSaid : Prop := bestWholeRow.holds Tryd.pinned (OpenSpec.ofChange bestWholeSpec)

/-- ITS FALSE NEIGHBOUR: 'it returns false'. Refute it at one input. -/
def bestWholeWrong : ChangeSpec := { name := "bestWhole", fn := fun _ => fun
  | [d1, d2, d3] => { results := [.lit (.bool false)], args := [d1, d2, d3] }
  | _ => none }
def BestWholeWrongFalsely : Prop := bestWholeRow.holds Tryd.pinned (OpenSpec.ofChange bestWholeWrong)

/-- 'waywardenlaw3.BestEngine': WHATEVER THE INPUT: true; the input reads as it did. -/
def bestEngineSpec : ChangeSpec := { name := "bestEngine", fn := fun _ => fun
  | [d1, d2, d3, d4] => { results := [.lit (.bool true)], args := [d1, d2, d3, d4] }
  | _ => none }
def bestEngineRow : OpenClaim := { program := "ytfjempfffdeklaadoor", sum := "598ee117b9669c7eebbde1e2556f1f0c1ce36a15a855524428d6c31d36e1e219", func := "waywarden/waywardenlaw3.BestEngine", spec := "bestEngine", inPlace := ["internal/reflectlite.ValueOf", "(internal/reflectlite.Value).Type", "(internal/reflectlite.Value).IsNil", "internal/reflectlite.TypeOf", "(internal/reflectlite.Value).Elem", "(internal/reflectlite.Value).Set"], unfollowed := true, recurses := true, named := ["errors.errorType"], plainKeys := false, apart := false, laid := [("errors.errorType", laid_errors_errorType)] }
def BestEngineSaid : Prop := bestEngineRow.holds Tryd.pinned (OpenSpec.ofChange bestEngineSpec)

/-- ITS FALSE NEIGHBOUR: 'it returns false'. Refute it at one input. -/
def bestEngineWrong : ChangeSpec := { name := "bestEngine", fn := fun _ => fun
  | [d1, d2, d3, d4] => { results := [.lit (.bool false)], args := [d1, d2, d3, d4] }
  | _ => none }
def BestEngineWrongFalsely : Prop := bestEngineRow.holds Tryd.pinned (OpenSpec.ofChange bestEngineWrong)

/-- 'waywardenlaw6.LineSame': WHATEVER THE INPUT: true; the input reads as it did. -/
def lineSameSpec : ChangeSpec := { name := "lineSame", fn := fun _ => fun
  | [d1, d2] => { results := [.lit (.bool true)], args := [d1, d2] }
  | _ => none }
def lineSameRow : OpenClaim := { program := "ytfjempfffdeklaadoor", sum := "598ee117b9669c7eebbde1e2556f1f0c1ce36a15a855524428d6c31d36e1e219", func := "waywarden/waywardenlaw6.LineSame", spec := "lineSame", inPlace := ["internal/reflectlite.ValueOf", "(internal/reflectlite.Value).Type", "(internal/reflectlite.Value).IsNil", "internal/reflectlite.TypeOf", "(internal/reflectlite.Value).Elem", "(internal/reflectlite.Value).Set"], unfollowed := true, recurses := true, named := ["waywarden/line.nobody", "errors.errorType"], plainKeys := false, apart := false, laid := [("errors.errorType", laid_errors_errorType), ("waywarden/line.nobody", laid_waywarden_line_nobody)] }
def LineSameSaid : Prop := lineSameRow.holds Tryd.pinned (OpenSpec.ofChange lineSameSpec)

/-- ITS FALSE NEIGHBOUR: 'it returns false'. Refute it at one input. -/
def lineSameWrong : ChangeSpec := { name := "lineSame", fn := fun _ => fun
  | [d1, d2] => { results := [.lit (.bool false)], args := [d1, d2] }
  | _ => none }
def LineSameWrongFalsely : Prop := lineSameRow.holds Tryd.pinned (OpenSpec.ofChange lineSameWrong)

/-- 'waywardenlaw3.RibTells': WHATEVER THE INPUT: true; the input reads as it did. -/
def ribTellsSpec : ChangeSpec := { name := "ribTells", fn := fun _ => fun
  | [d1, d2, d3, d4, d5] => { results := [.lit (.bool true)], args := [d1, d2, d3, d4, d5] }
  | _ => none }
def ribTellsRow : OpenClaim := { program := "ytfjempfffdeklaadoor", sum := "598ee117b9669c7eebbde1e2556f1f0c1ce36a15a855524428d6c31d36e1e219", func := "waywarden/waywardenlaw3.RibTells", spec := "ribTells", inPlace := ["slices.overlaps[waywarden/rib.told]", "internal/reflectlite.ValueOf", "(internal/reflectlite.Value).Type", "(internal/reflectlite.Value).IsNil", "internal/reflectlite.TypeOf", "(internal/reflectlite.Value).Elem", "(internal/reflectlite.Value).Set"], unfollowed := true, recurses := true, named := ["errors.errorType"], plainKeys := false, apart := false, laid := [("errors.errorType", laid_errors_errorType)] }
def RibTellsSaid : Prop := ribTellsRow.holds Tryd.pinned (OpenSpec.ofChange ribTellsSpec)

/-- ITS FALSE NEIGHBOUR: 'it returns false'. Refute it at one input. -/
def ribTellsWrong : ChangeSpec := { name := "ribTells", fn := fun _ => fun
  | [d1, d2, d3, d4, d5] => { results := [.lit (.bool false)], args := [d1, d2, d3, d4, d5] }
  | _ => none }
def RibTellsWrongFalsely : Prop := ribTellsRow.holds Tryd.pinned (OpenSpec.ofChange ribTellsWrong)

/-- 'waywardenlaw3.TrigTells': WHATEVER THE INPUT: true; the input reads as it did. -/
def trigTellsSpec : ChangeSpec := { name := "trigTells", fn := fun _ => fun
  | [d1, d2, d3, d4] => { results := [.lit (.bool true)], args := [d1, d2, d3, d4] }
  | _ => none }
def trigTellsRow : OpenClaim := { program := "ytfjempfffdeklaadoor", sum := "598ee117b9669c7eebbde1e2556f1f0c1ce36a15a855524428d6c31d36e1e219", func := "waywarden/waywardenlaw3.TrigTells", spec := "trigTells", inPlace := ["slices.overlaps[waywarden/api.Net]", "internal/reflectlite.ValueOf", "(internal/reflectlite.Value).Type", "(internal/reflectlite.Value).IsNil", "internal/reflectlite.TypeOf", "(internal/reflectlite.Value).Elem", "(internal/reflectlite.Value).Set"], unfollowed := true, recurses := true, named := ["errors.errorType"], plainKeys := false, apart := false, laid := [("errors.errorType", laid_errors_errorType)] }
def TrigTellsSaid : Prop := trigTellsRow.holds Tryd.pinned (OpenSpec.ofChange trigTellsSpec)

/-- ITS FALSE NEIGHBOUR: 'it returns false'. Refute it at one input. -/
def trigTellsWrong : ChangeSpec := { name := "trigTells", fn := fun _ => fun
  | [d1, d2, d3, d4] => { results := [.lit (.bool false)], args := [d1, d2, d3, d4] }
  | _ => none }
def TrigTellsWrongFalsely : Prop := trigTellsRow.holds Tryd.pinned (OpenSpec.ofChange trigTellsWrong)

/-- 'waywardenlaw6.TrieOrder': WHATEVER THE INPUT: true; the input reads as it did. -/
def trieOrderSpec : ChangeSpec := { name := "trieOrder", fn := fun _ => fun
  | [d1, d2] => { results := [.lit (.bool true)], args := [d1, d2] }
  | _ => none }
def trieOrderRow : OpenClaim := { program := "ytfjempfffdeklaadoor", sum := "598ee117b9669c7eebbde1e2556f1f0c1ce36a15a855524428d6c31d36e1e219", func := "waywarden/waywardenlaw6.TrieOrder", spec := "trieOrder", inPlace := ["internal/reflectlite.ValueOf", "(internal/reflectlite.Value).Type", "(internal/reflectlite.Value).IsNil", "internal/reflectlite.TypeOf", "(internal/reflectlite.Value).Elem", "(internal/reflectlite.Value).Set"], unfollowed := true, recurses := true, named := ["errors.errorType"], plainKeys := false, apart := false, laid := [("errors.errorType", laid_errors_errorType)] }
def TrieOrderSaid : Prop := trieOrderRow.holds Tryd.pinned (OpenSpec.ofChange trieOrderSpec)

/-- ITS FALSE NEIGHBOUR: 'it returns false'. Refute it at one input. -/
def trieOrderWrong : ChangeSpec := { name := "trieOrder", fn := fun _ => fun
  | [d1, d2] => { results := [.lit (.bool false)], args := [d1, d2] }
  | _ => none }
def TrieOrderWrongFalsely : Prop := trieOrderRow.holds Tryd.pinned (OpenSpec.ofChange trieOrderWrong)

/-- 'waywardenlaw7.SppOwn': WHATEVER THE INPUT: true; the input reads as it did. -/
def sppOwnSpec : ChangeSpec := { name := "sppOwn", fn := fun _ => fun
  | [d1, d2, d3] => { results := [.lit (.bool true)], args := [d1, d2, d3] }
  | _ => none }
def sppOwnRow : OpenClaim := { program := "ytfjempfffdeklaadoor", sum := "598ee117b9669c7eebbde1e2556f1f0c1ce36a15a855524428d6c31d36e1e219", func := "waywarden/waywardenlaw7.SppOwn", spec := "sppOwn", inPlace := ["internal/reflectlite.ValueOf", "(internal/reflectlite.Value).Type", "(internal/reflectlite.Value).IsNil", "internal/reflectlite.TypeOf", "(internal/reflectlite.Value).Elem", "(internal/reflectlite.Value).Set"], unfollowed := true, recurses := true, named := ["errors.errorType"], plainKeys := false, apart := false, laid := [("errors.errorType", laid_errors_errorType)] }
def SppOwnSaid : Prop := sppOwnRow.holds Tryd.pinned (OpenSpec.ofChange sppOwnSpec)

/-- ITS FALSE NEIGHBOUR: 'it returns false'. Refute it at one input. -/
def sppOwnWrong : ChangeSpec := { name := "sppOwn", fn := fun _ => fun
  | [d1, d2, d3] => { results := [.lit (.bool false)], args := [d1, d2, d3] }
  | _ => none }
def SppOwnWrongFalsely : Prop := sppOwnRow.holds Tryd.pinned (OpenSpec.ofChange sppOwnWrong)

/- THE SECOND FORM. 'bulk': how many values and letters a reading holds, each counted each time it is reached (what is shared counts as often as it is met; a slice's spare places count too). A statement '..UptoSaid' is the law's where the arguments, and the package variables that the reading takes, are together of bulk at most 1048576: NARROWER than '..Said'. Prove '..Said' where nothing that the law and all that it calls make is longer than what came in: it says more and counts as full. Else prove '..UptoSaid'. A law counts once. -/
mutual
def uptoBulk {H : Type} : DataW H → Nat
  | .lit (.string bytes) => bytes.length + 1
  | .lit _ => 1
  | .nil => 1
  | .ptr d => uptoBulk d + 1
  | .slice elems spare => uptoBulkAll elems + uptoBulkAll spare + 1
  | .agg parts => uptoBulkAll parts + 1
  | .iface _ d => uptoBulk d + 1
  | .map entries => uptoBulkEntries entries + 1
  | .held _ => 1
def uptoBulkAll {H : Type} : List (DataW H) → Nat
  | [] => 0
  | d :: r => uptoBulk d + uptoBulkAll r
def uptoBulkEntries {H : Type} : List (Lit × DataW H) → Nat
  | [] => 0
  | x :: r => uptoBulkEntry x + uptoBulkEntries r
def uptoBulkEntry {H : Type} : Lit × DataW H → Nat
  | (.string bytes, d) => bytes.length + uptoBulk d + 1
  | (_, d) => uptoBulk d + 1
 end
def uptoSmall : (H : Type) → List (DataW H) → Bool := fun _ ds => decide (uptoBulkAll ds ≤ 1048576)
def OpenSpec.upto (s : _root_.Go.ChangeSpec) : _root_.Go.OpenSpec := { _root_.Go.OpenSpec.ofChange s with cond := some uptoSmall }

/-- 'waywardenlaw3.ViewTells', WHERE WHAT IT READS IS OF BULK AT MOST 1048576: true; the input reads as it did. -/
def viewTellsUptoRow : OpenClaim := { program := "ytfjempfffdeklaadoor", sum := "598ee117b9669c7eebbde1e2556f1f0c1ce36a15a855524428d6c31d36e1e219", func := "waywarden/waywardenlaw3.ViewTells", spec := "viewTells", inPlace := ["internal/reflectlite.ValueOf", "(internal/reflectlite.Value).Type", "(internal/reflectlite.Value).IsNil", "internal/reflectlite.TypeOf", "(internal/reflectlite.Value).Elem", "(internal/reflectlite.Value).Set"], unfollowed := true, recurses := true, named := ["errors.errorType"], plainKeys := false, apart := false, laid := [("errors.errorType", laid_errors_errorType)], narrowed := true }
def ViewTellsUptoSaid : Prop := viewTellsUptoRow.holds Tryd.pinned (OpenSpec.upto viewTellsSpec)

/-- 'waywardenlaw7.ViewOwn', WHERE WHAT IT READS IS OF BULK AT MOST 1048576: true; the input reads as it did. -/
def viewOwnUptoRow : OpenClaim := { program := "ytfjempfffdeklaadoor", sum := "598ee117b9669c7eebbde1e2556f1f0c1ce36a15a855524428d6c31d36e1e219", func := "waywarden/waywardenlaw7.ViewOwn", spec := "viewOwn", inPlace := ["internal/reflectlite.ValueOf", "(internal/reflectlite.Value).Type", "(internal/reflectlite.Value).IsNil", "internal/reflectlite.TypeOf", "(internal/reflectlite.Value).Elem", "(internal/reflectlite.Value).Set"], unfollowed := true, recurses := true, named := ["errors.errorType"], plainKeys := false, apart := false, laid := [("errors.errorType", laid_errors_errorType)], narrowed := true }
def ViewOwnUptoSaid : Prop := viewOwnUptoRow.holds Tryd.pinned (OpenSpec.upto viewOwnSpec)

/-- 'waywardenlaw3.BestTells', WHERE WHAT IT READS IS OF BULK AT MOST 1048576: true; the input reads as it did. -/
def bestTellsUptoRow : OpenClaim := { program := "ytfjempfffdeklaadoor", sum := "598ee117b9669c7eebbde1e2556f1f0c1ce36a15a855524428d6c31d36e1e219", func := "waywarden/waywardenlaw3.BestTells", spec := "bestTells", inPlace := ["internal/reflectlite.ValueOf", "(internal/reflectlite.Value).Type", "(internal/reflectlite.Value).IsNil", "internal/reflectlite.TypeOf", "(internal/reflectlite.Value).Elem", "(internal/reflectlite.Value).Set"], unfollowed := true, recurses := true, named := ["errors.errorType"], plainKeys := false, apart := false, laid := [("errors.errorType", laid_errors_errorType)], narrowed := true }
def BestTellsUptoSaid : Prop := bestTellsUptoRow.holds Tryd.pinned (OpenSpec.upto bestTellsSpec)

/-- 'waywardenlaw3.BestWhole', WHERE WHAT IT READS IS OF BULK AT MOST 1048576: true; the input reads as it did. -/
def bestWholeUptoRow : OpenClaim := { program := "ytfjempfffdeklaadoor", sum := "598ee117b9669c7eebbde1e2556f1f0c1ce36a15a855524428d6c31d36e1e219", func := "waywarden/waywardenlaw3.BestWhole", spec := "bestWhole", inPlace := ["internal/reflectlite.ValueOf", "(internal/reflectlite.Value).Type", "(internal/reflectlite.Value).IsNil", "internal/reflectlite.TypeOf", "(internal/reflectlite.Value).Elem", "(internal/reflectlite.Value).Set"], unfollowed := true, recurses := true, named := ["errors.errorType"], plainKeys := false, apart := false, laid := [("errors.errorType", laid_errors_errorType)], narrowed := true }
def BestWholeUptoSaid : Prop := bestWholeUptoRow.holds Tryd.pinned (OpenSpec.upto bestWholeSpec)

/-- 'waywardenlaw3.BestEngine', WHERE WHAT IT READS IS OF BULK AT MOST 1048576: true; the input reads as it did. -/
def bestEngineUptoRow : OpenClaim := { program := "ytfjempfffdeklaadoor", sum := "598ee117b9669c7eebbde1e2556f1f0c1ce36a15a855524428d6c31d36e1e219", func := "waywarden/waywardenlaw3.BestEngine", spec := "bestEngine", inPlace := ["internal/reflectlite.ValueOf", "(internal/reflectlite.Value).Type", "(internal/reflectlite.Value).IsNil", "internal/reflectlite.TypeOf", "(internal/reflectlite.Value).Elem", "(internal/reflectlite.Value).Set"], unfollowed := true, recurses := true, named := ["errors.errorType"], plainKeys := false, apart := false, laid := [("errors.errorType", laid_errors_errorType)], narrowed := true }
def BestEngineUptoSaid : Prop := bestEngineUptoRow.holds Tryd.pinned (OpenSpec.upto bestEngineSpec)

/-- 'waywardenlaw6.LineSame', WHERE WHAT IT READS IS OF BULK AT MOST 1048576: true; the input reads as it did. -/
def lineSameUptoRow : OpenClaim := { program := "ytfjempfffdeklaadoor", sum := "598ee117b9669c7eebbde1e2556f1f0c1ce36a15a855524428d6c31d36e1e219", func := "waywarden/waywardenlaw6.LineSame", spec := "lineSame", inPlace := ["internal/reflectlite.ValueOf", "(internal/reflectlite.Value).Type", "(internal/reflectlite.Value).IsNil", "internal/reflectlite.TypeOf", "(internal/reflectlite.Value).Elem", "(internal/reflectlite.Value).Set"], unfollowed := true, recurses := true, named := ["waywarden/line.nobody", "errors.errorType"], plainKeys := false, apart := false, laid := [("errors.errorType", laid_errors_errorType), ("waywarden/line.nobody", laid_waywarden_line_nobody)], narrowed := true }
def LineSameUptoSaid : Prop := lineSameUptoRow.holds Tryd.pinned (OpenSpec.upto lineSameSpec)

/-- 'waywardenlaw3.RibTells', WHERE WHAT IT READS IS OF BULK AT MOST 1048576: true; the input reads as it did. -/
def ribTellsUptoRow : OpenClaim := { program := "ytfjempfffdeklaadoor", sum := "598ee117b9669c7eebbde1e2556f1f0c1ce36a15a855524428d6c31d36e1e219", func := "waywarden/waywardenlaw3.RibTells", spec := "ribTells", inPlace := ["slices.overlaps[waywarden/rib.told]", "internal/reflectlite.ValueOf", "(internal/reflectlite.Value).Type", "(internal/reflectlite.Value).IsNil", "internal/reflectlite.TypeOf", "(internal/reflectlite.Value).Elem", "(internal/reflectlite.Value).Set"], unfollowed := true, recurses := true, named := ["errors.errorType"], plainKeys := false, apart := false, laid := [("errors.errorType", laid_errors_errorType)], narrowed := true }
def RibTellsUptoSaid : Prop := ribTellsUptoRow.holds Tryd.pinned (OpenSpec.upto ribTellsSpec)

/-- 'waywardenlaw3.TrigTells', WHERE WHAT IT READS IS OF BULK AT MOST 1048576: true; the input reads as it did. -/
def trigTellsUptoRow : OpenClaim := { program := "ytfjempfffdeklaadoor", sum := "598ee117b9669c7eebbde1e2556f1f0c1ce36a15a855524428d6c31d36e1e219", func := "waywarden/waywardenlaw3.TrigTells", spec := "trigTells", inPlace := ["slices.overlaps[waywarden/api.Net]", "internal/reflectlite.ValueOf", "(internal/reflectlite.Value).Type", "(internal/reflectlite.Value).IsNil", "internal/reflectlite.TypeOf", "(internal/reflectlite.Value).Elem", "(internal/reflectlite.Value).Set"], unfollowed := true, recurses := true, named := ["errors.errorType"], plainKeys := false, apart := false, laid := [("errors.errorType", laid_errors_errorType)], narrowed := true }
def TrigTellsUptoSaid : Prop := trigTellsUptoRow.holds Tryd.pinned (OpenSpec.upto trigTellsSpec)

/-- 'waywardenlaw6.TrieOrder', WHERE WHAT IT READS IS OF BULK AT MOST 1048576: true; the input reads as it did. -/
def trieOrderUptoRow : OpenClaim := { program := "ytfjempfffdeklaadoor", sum := "598ee117b9669c7eebbde1e2556f1f0c1ce36a15a855524428d6c31d36e1e219", func := "waywarden/waywardenlaw6.TrieOrder", spec := "trieOrder", inPlace := ["internal/reflectlite.ValueOf", "(internal/reflectlite.Value).Type", "(internal/reflectlite.Value).IsNil", "internal/reflectlite.TypeOf", "(internal/reflectlite.Value).Elem", "(internal/reflectlite.Value).Set"], unfollowed := true, recurses := true, named := ["errors.errorType"], plainKeys := false, apart := false, laid := [("errors.errorType", laid_errors_errorType)], narrowed := true }
def TrieOrderUptoSaid : Prop := trieOrderUptoRow.holds Tryd.pinned (OpenSpec.upto trieOrderSpec)

/-- 'waywardenlaw7.SppOwn', WHERE WHAT IT READS IS OF BULK AT MOST 1048576: true; the input reads as it did. -/
def sppOwnUptoRow : OpenClaim := { program := "ytfjempfffdeklaadoor", sum := "598ee117b9669c7eebbde1e2556f1f0c1ce36a15a855524428d6c31d36e1e219", func := "waywarden/waywardenlaw7.SppOwn", spec := "sppOwn", inPlace := ["internal/reflectlite.ValueOf", "(internal/reflectlite.Value).Type", "(internal/reflectlite.Value).IsNil", "internal/reflectlite.TypeOf", "(internal/reflectlite.Value).Elem", "(internal/reflectlite.Value).Set"], unfollowed := true, recurses := true, named := ["errors.errorType"], plainKeys := false, apart := false, laid := [("errors.errorType", laid_errors_errorType)], narrowed := true }
def SppOwnUptoSaid : Prop := sppOwnUptoRow.holds Tryd.pinned (OpenSpec.upto sppOwnSpec)

end Rows
end Go.Proofs.YtfjempfffdeklaaDoor
