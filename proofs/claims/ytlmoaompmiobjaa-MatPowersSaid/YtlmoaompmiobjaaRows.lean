/-
  No cell of these rows narrows 'for every input' (looked for: loops, veiled, ifaces, maps, wideKeys, modest, calm, conditions, laid).
  DERIVED. THE GIVEN ROWS OF THIS SEAT. 6 by the template 'for every input the law returns true; each argument reads behind the call as it read before'; 0 by the template 'total and deterministic' (their statements: YtlmoaompmiobjaaTotals.lean).
  GIVEN WITH THE SEED: the statements are not yours to turn. If you find one false, say at which input.
  Laid BY PROGRAM, IN A SANDBOX (cutbox-rows.mjs): the forced cells as the released guide's own fill.sh prints them over the translation 955746633ca618d2… (all of the seat's roots in one cut). By AI agents, Wed Nov 11 2026. No macro, syntax, notation, axiom, sorry.
-/
import Derived.Test.YtlmoaompmiobjaaChecked
import GoSem.Claim
import GoSem.ClaimJoined
import GoSem.ClaimMapViews
import Derived.JoinedTies
import Derived.KernelRfl
namespace Go.Proofs.Ytlmoaompmiobjaa
/- THE CELL 'sum', in the pinned program and in every row, IS THE sha256 OF THE DUMP (.gsa) THAT YtlmoaompmiobjaaProg.lean LOADS. Nothing in Lean hashes anything: it is a label: what it is worth is what the hold of that sum in a sandbox is worth. -/
noncomputable def Try.pinned : Pinned := { name := "ytlmoaompmiobjaa", sum := "955746633ca618d25e5b1448704ed590d13867d18c26dddc6446bf16610fa7a4", checked := Try.checked }
namespace Rows
def none {H : Type} : Left H := { results := [], args := [] }

/-- 'waywardenlaw6.SumJoins': WHATEVER THE INPUT: true; the input reads as it did. -/
def sumJoinsSpec : ChangeSpec := { name := "sumJoins", fn := fun _ => fun
  | [d1, d2] => { results := [.lit (.bool true)], args := [d1, d2] }
  | _ => none }
def sumJoinsRow : OpenClaim := { program := "ytlmoaompmiobjaa", sum := "955746633ca618d25e5b1448704ed590d13867d18c26dddc6446bf16610fa7a4", func := "waywarden/waywardenlaw6.SumJoins", spec := "sumJoins", apart := false }
def SumJoinsSaid : Prop := sumJoinsRow.holds Try.pinned (OpenSpec.ofChange sumJoinsSpec)

/-- ITS FALSE NEIGHBOUR: 'it returns false'. Refute it at one input. -/
def sumJoinsWrong : ChangeSpec := { name := "sumJoins", fn := fun _ => fun
  | [d1, d2] => { results := [.lit (.bool false)], args := [d1, d2] }
  | _ => none }
def SumJoinsWrongFalsely : Prop := sumJoinsRow.holds Try.pinned (OpenSpec.ofChange sumJoinsWrong)

/-- 'waywardenlaw6.TraceTails': WHATEVER THE INPUT: true; the input reads as it did. -/
def traceTailsSpec : ChangeSpec := { name := "traceTails", fn := fun _ => fun
  | [d1, d2, d3, d4, d5] => { results := [.lit (.bool true)], args := [d1, d2, d3, d4, d5] }
  | _ => none }
def traceTailsRow : OpenClaim := { program := "ytlmoaompmiobjaa", sum := "955746633ca618d25e5b1448704ed590d13867d18c26dddc6446bf16610fa7a4", func := "waywarden/waywardenlaw6.TraceTails", spec := "traceTails", apart := false }
def TraceTailsSaid : Prop := traceTailsRow.holds Try.pinned (OpenSpec.ofChange traceTailsSpec)

/-- ITS FALSE NEIGHBOUR: 'it returns false'. Refute it at one input. -/
def traceTailsWrong : ChangeSpec := { name := "traceTails", fn := fun _ => fun
  | [d1, d2, d3, d4, d5] => { results := [.lit (.bool false)], args := [d1, d2, d3, d4, d5] }
  | _ => none }
def TraceTailsWrongFalsely : Prop := traceTailsRow.holds Try.pinned (OpenSpec.ofChange traceTailsWrong)

/-- 'waywardenlaw6.DampSteps': WHATEVER THE INPUT: true; the input reads as it did. -/
def dampStepsSpec : ChangeSpec := { name := "dampSteps", fn := fun _ => fun
  | [d1, d2, d3, d4] => { results := [.lit (.bool true)], args := [d1, d2, d3, d4] }
  | _ => none }
def dampStepsRow : OpenClaim := { program := "ytlmoaompmiobjaa", sum := "955746633ca618d25e5b1448704ed590d13867d18c26dddc6446bf16610fa7a4", func := "waywarden/waywardenlaw6.DampSteps", spec := "dampSteps", apart := false }
def DampStepsSaid : Prop := dampStepsRow.holds Try.pinned (OpenSpec.ofChange dampStepsSpec)

/-- ITS FALSE NEIGHBOUR: 'it returns false'. Refute it at one input. -/
def dampStepsWrong : ChangeSpec := { name := "dampSteps", fn := fun _ => fun
  | [d1, d2, d3, d4] => { results := [.lit (.bool false)], args := [d1, d2, d3, d4] }
  | _ => none }
def DampStepsWrongFalsely : Prop := dampStepsRow.holds Try.pinned (OpenSpec.ofChange dampStepsWrong)

/-- 'waywardenlaw6.MatRises': WHATEVER THE INPUT: true; the input reads as it did. -/
def matRisesSpec : ChangeSpec := { name := "matRises", fn := fun _ => fun
  | [d1, d2, d3, d4, d5] => { results := [.lit (.bool true)], args := [d1, d2, d3, d4, d5] }
  | _ => none }
def matRisesRow : OpenClaim := { program := "ytlmoaompmiobjaa", sum := "955746633ca618d25e5b1448704ed590d13867d18c26dddc6446bf16610fa7a4", func := "waywarden/waywardenlaw6.MatRises", spec := "matRises", apart := false }
def MatRisesSaid : Prop := matRisesRow.holds Try.pinned (OpenSpec.ofChange matRisesSpec)

/-- ITS FALSE NEIGHBOUR: 'it returns false'. Refute it at one input. -/
def matRisesWrong : ChangeSpec := { name := "matRises", fn := fun _ => fun
  | [d1, d2, d3, d4, d5] => { results := [.lit (.bool false)], args := [d1, d2, d3, d4, d5] }
  | _ => none }
def MatRisesWrongFalsely : Prop := matRisesRow.holds Try.pinned (OpenSpec.ofChange matRisesWrong)

/-- 'waywardenlaw6.MatPowers': WHATEVER THE INPUT: true; the input reads as it did. -/
def matPowersSpec : ChangeSpec := { name := "matPowers", fn := fun _ => fun
  | [d] => { results := [.lit (.bool true)], args := [d] }
  | _ => none }
def matPowersRow : OpenClaim := { program := "ytlmoaompmiobjaa", sum := "955746633ca618d25e5b1448704ed590d13867d18c26dddc6446bf16610fa7a4", func := "waywarden/waywardenlaw6.MatPowers", spec := "matPowers", apart := false }
def MatPowersSaid : Prop := matPowersRow.holds Try.pinned (OpenSpec.ofChange matPowersSpec)

/-- ITS FALSE NEIGHBOUR: 'it returns false'. Refute it at one input. -/
def matPowersWrong : ChangeSpec := { name := "matPowers", fn := fun _ => fun
  | [d] => { results := [.lit (.bool false)], args := [d] }
  | _ => none }
def MatPowersWrongFalsely : Prop := matPowersRow.holds Try.pinned (OpenSpec.ofChange matPowersWrong)

/-- 'waywardenlaw7.MatOwn': WHATEVER THE INPUT: true; the input reads as it did. -/
def matOwnSpec : ChangeSpec := { name := "matOwn", fn := fun _ => fun
  | [d1, d2, d3] => { results := [.lit (.bool true)], args := [d1, d2, d3] }
  | _ => none }
def matOwnRow : OpenClaim := { program := "ytlmoaompmiobjaa", sum := "955746633ca618d25e5b1448704ed590d13867d18c26dddc6446bf16610fa7a4", func := "waywarden/waywardenlaw7.MatOwn", spec := "matOwn", apart := false }
def MatOwnSaid : Prop := matOwnRow.holds Try.pinned (OpenSpec.ofChange matOwnSpec)

/-- ITS FALSE NEIGHBOUR: 'it returns false'. Refute it at one input. -/
def matOwnWrong : ChangeSpec := { name := "matOwn", fn := fun _ => fun
  | [d1, d2, d3] => { results := [.lit (.bool false)], args := [d1, d2, d3] }
  | _ => none }
def MatOwnWrongFalsely : Prop := matOwnRow.holds Try.pinned (OpenSpec.ofChange matOwnWrong)

/- THE SECOND FORM. 'bulk': how many values and letters a reading holds, each counted each time it is reached (what is shared counts as often as it is met; a slice's spare places count too). A statement '..UptoSaid' is the law's where the arguments, and the package variables that the reading takes, are together of bulk at most 1048576: NARROWER than '..Said'. Prove '..Said' where nothing that the law and all that it calls make is longer than what came in: it says more and counts as full. Else prove '..UptoSaid'. A law counts once. -/
mutual
def uptoBulk {H : Type} : DataW H → Nat
  | .lit (.string bytes) => bytes.length + 1
  | .lit _ => 1
  | .nil => 1
  | .ptr d => uptoBulk d + 1
  | .slice elems spare => uptoBulkAll elems + uptoBulkAll spare + 1
  | .agg parts => uptoBulkAll parts + 1
  | .iface _ d => uptoBulk d + 1
  | .map entries => uptoBulkEntries entries + 1
  | .held _ => 1
def uptoBulkAll {H : Type} : List (DataW H) → Nat
  | [] => 0
  | d :: r => uptoBulk d + uptoBulkAll r
def uptoBulkEntries {H : Type} : List (Lit × DataW H) → Nat
  | [] => 0
  | x :: r => uptoBulkEntry x + uptoBulkEntries r
def uptoBulkEntry {H : Type} : Lit × DataW H → Nat
  | (.string bytes, d) => bytes.length + uptoBulk d + 1
  | (_, d) => uptoBulk d + 1
 end
def uptoSmall : (H : Type) → List (DataW H) → Bool := fun _ ds => decide (uptoBulkAll ds ≤ 1048576)
def OpenSpec.upto (s : _root_.Go.ChangeSpec) : _root_.Go.OpenSpec := { _root_.Go.OpenSpec.ofChange s with cond := some uptoSmall }

/-- 'waywardenlaw6.SumJoins', WHERE WHAT IT READS IS OF BULK AT MOST 1048576: true; the input reads as it did. -/
def sumJoinsUptoRow : OpenClaim := { program := "ytlmoaompmiobjaa", sum := "955746633ca618d25e5b1448704ed590d13867d18c26dddc6446bf16610fa7a4", func := "waywarden/waywardenlaw6.SumJoins", spec := "sumJoins", apart := false, narrowed := true }
def SumJoinsUptoSaid : Prop := sumJoinsUptoRow.holds Try.pinned (OpenSpec.upto sumJoinsSpec)

/-- 'waywardenlaw6.TraceTails', WHERE WHAT IT READS IS OF BULK AT MOST 1048576: true; the input reads as it did. -/
def traceTailsUptoRow : OpenClaim := { program := "ytlmoaompmiobjaa", sum := "955746633ca618d25e5b1448704ed590d13867d18c26dddc6446bf16610fa7a4", func := "waywarden/waywardenlaw6.TraceTails", spec := "traceTails", apart := false, narrowed := true }
def TraceTailsUptoSaid : Prop := traceTailsUptoRow.holds Try.pinned (OpenSpec.upto traceTailsSpec)

/-- 'waywardenlaw6.DampSteps', WHERE WHAT IT READS IS OF BULK AT MOST 1048576: true; the input reads as it did. -/
def dampStepsUptoRow : OpenClaim := { program := "ytlmoaompmiobjaa", sum := "955746633ca618d25e5b1448704ed590d13867d18c26dddc6446bf16610fa7a4", func := "waywarden/waywardenlaw6.DampSteps", spec := "dampSteps", apart := false, narrowed := true }
def DampStepsUptoSaid : Prop := dampStepsUptoRow.holds Try.pinned (OpenSpec.upto dampStepsSpec)

/-- 'waywardenlaw6.MatRises', WHERE WHAT IT READS IS OF BULK AT MOST 1048576: true; the input reads as it did. -/
def matRisesUptoRow : OpenClaim := { program := "ytlmoaompmiobjaa", sum := "955746633ca618d25e5b1448704ed590d13867d18c26dddc6446bf16610fa7a4", func := "waywarden/waywardenlaw6.MatRises", spec := "matRises", apart := false, narrowed := true }
def MatRisesUptoSaid : Prop := matRisesUptoRow.holds Try.pinned (OpenSpec.upto matRisesSpec)

/-- 'waywardenlaw6.MatPowers', WHERE WHAT IT READS IS OF BULK AT MOST 1048576: true; the input reads as it did. -/
def matPowersUptoRow : OpenClaim := { program := "ytlmoaompmiobjaa", sum := "955746633ca618d25e5b1448704ed590d13867d18c26dddc6446bf16610fa7a4", func := "waywarden/waywardenlaw6.MatPowers", spec := "matPowers", apart := false, narrowed := true }
def MatPowersUptoSaid : Prop := matPowersUptoRow.holds Try.pinned (OpenSpec.upto matPowersSpec)

/-- 'waywardenlaw7.MatOwn', WHERE WHAT IT READS IS OF BULK AT MOST 1048576: true; the input reads as it did. -/
def matOwnUptoRow : OpenClaim := { program := "ytlmoaompmiobjaa", sum := "955746633ca618d25e5b1448704ed590d13867d18c26dddc6446bf16610fa7a4", func := "waywarden/waywardenlaw7.MatOwn", spec := "matOwn", apart := false, narrowed := true }
def MatOwnUptoSaid : Prop := matOwnUptoRow.holds Try.pinned (OpenSpec.upto matOwnSpec)

end Rows
end Go.Proofs.Ytlmoaompmiobjaa
