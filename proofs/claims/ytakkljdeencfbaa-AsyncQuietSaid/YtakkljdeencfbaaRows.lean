/-
  No cell of these rows narrows 'for every input' (looked for: loops, veiled, ifaces, maps, wideKeys, modest, calm, conditions, laid).
  DERIVED. THE GIVEN ROWS OF THIS SEAT. 7 by the template 'for every input the law returns true; each argument reads behind the call as it read before'; 0 by the template 'total and deterministic' (their statements: YtakkljdeencfbaaTotals.lean).
  GIVEN WITH THE SEED: the statements are not yours to turn. If you find one false, say at which input.
  Laid BY PROGRAM, IN A SANDBOX (cutbox-rows.mjs): the forced cells as the released guide's own fill.sh prints them over the translation f3b976a97e4661fb… (all of the seat's roots in one cut). By AI agents, Wed Nov 11 2026. No macro, syntax, notation, axiom, sorry.
-/
import Derived.Test.YtakkljdeencfbaaChecked
import GoSem.Claim
import GoSem.ClaimJoined
import GoSem.ClaimMapViews
import Derived.JoinedTies
import Derived.KernelRfl
namespace Go.Proofs.Ytakkljdeencfbaa
/- THE CELL 'sum', in the pinned program and in every row, IS THE sha256 OF THE DUMP (.gsa) THAT YtakkljdeencfbaaProg.lean LOADS. Nothing in Lean hashes anything: it is a label: what it is worth is what the hold of that sum in a sandbox is worth. -/
noncomputable def Try.pinned : Pinned := { name := "ytakkljdeencfbaa", sum := "f3b976a97e4661fbc8a2b983188fd19f05624620f0b6d205ac0c2a73d2f96757", checked := Try.checked }
namespace Rows
def none {H : Type} : Left H := { results := [], args := [] }

/-- 'waywardenlaw6.WaysJoin': WHATEVER THE INPUT: true; the input reads as it did. -/
def waysJoinSpec : ChangeSpec := { name := "waysJoin", fn := fun _ => fun
  | [d1, d2, d3, d4] => { results := [.lit (.bool true)], args := [d1, d2, d3, d4] }
  | _ => none }
def waysJoinRow : OpenClaim := { program := "ytakkljdeencfbaa", sum := "f3b976a97e4661fbc8a2b983188fd19f05624620f0b6d205ac0c2a73d2f96757", func := "waywarden/waywardenlaw6.WaysJoin", spec := "waysJoin", plainKeys := false, apart := false }
def WaysJoinSaid : Prop := waysJoinRow.holds Try.pinned (OpenSpec.ofChange waysJoinSpec)

/-- ITS FALSE NEIGHBOUR: 'it returns false'. Refute it at one input. -/
def waysJoinWrong : ChangeSpec := { name := "waysJoin", fn := fun _ => fun
  | [d1, d2, d3, d4] => { results := [.lit (.bool false)], args := [d1, d2, d3, d4] }
  | _ => none }
def WaysJoinWrongFalsely : Prop := waysJoinRow.holds Try.pinned (OpenSpec.ofChange waysJoinWrong)

/-- 'waywardenlaw6.SpanMore': WHATEVER THE INPUT: true; the input reads as it did. -/
def spanMoreSpec : ChangeSpec := { name := "spanMore", fn := fun _ => fun
  | [d1, d2, d3, d4, d5] => { results := [.lit (.bool true)], args := [d1, d2, d3, d4, d5] }
  | _ => none }
def spanMoreRow : OpenClaim := { program := "ytakkljdeencfbaa", sum := "f3b976a97e4661fbc8a2b983188fd19f05624620f0b6d205ac0c2a73d2f96757", func := "waywarden/waywardenlaw6.SpanMore", spec := "spanMore", plainKeys := false, apart := false }
def SpanMoreSaid : Prop := spanMoreRow.holds Try.pinned (OpenSpec.ofChange spanMoreSpec)

/-- ITS FALSE NEIGHBOUR: 'it returns false'. Refute it at one input. -/
def spanMoreWrong : ChangeSpec := { name := "spanMore", fn := fun _ => fun
  | [d1, d2, d3, d4, d5] => { results := [.lit (.bool false)], args := [d1, d2, d3, d4, d5] }
  | _ => none }
def SpanMoreWrongFalsely : Prop := spanMoreRow.holds Try.pinned (OpenSpec.ofChange spanMoreWrong)

/-- 'waywardenlaw6.AsyncQuiet': WHATEVER THE INPUT: true; the input reads as it did. -/
def asyncQuietSpec : ChangeSpec := { name := "asyncQuiet", fn := fun _ => fun
  | [d1, d2, d3, d4, d5, d6, d7, d8] => { results := [.lit (.bool true)], args := [d1, d2, d3, d4, d5, d6, d7, d8] }
  | _ => none }
def asyncQuietRow : OpenClaim := { program := "ytakkljdeencfbaa", sum := "f3b976a97e4661fbc8a2b983188fd19f05624620f0b6d205ac0c2a73d2f96757", func := "waywarden/waywardenlaw6.AsyncQuiet", spec := "asyncQuiet", plainKeys := false, apart := false }
def AsyncQuietSaid : Prop := asyncQuietRow.holds Try.pinned (OpenSpec.ofChange asyncQuietSpec)

/-- ITS FALSE NEIGHBOUR: 'it returns false'. Refute it at one input. -/
def asyncQuietWrong : ChangeSpec := { name := "asyncQuiet", fn := fun _ => fun
  | [d1, d2, d3, d4, d5, d6, d7, d8] => { results := [.lit (.bool false)], args := [d1, d2, d3, d4, d5, d6, d7, d8] }
  | _ => none }
def AsyncQuietWrongFalsely : Prop := asyncQuietRow.holds Try.pinned (OpenSpec.ofChange asyncQuietWrong)

/-- 'waywardenlaw6.SpfMore': WHATEVER THE INPUT: true; the input reads as it did. -/
def spfMoreSpec : ChangeSpec := { name := "spfMore", fn := fun _ => fun
  | [d1, d2, d3, d4, d5] => { results := [.lit (.bool true)], args := [d1, d2, d3, d4, d5] }
  | _ => none }
def spfMoreRow : OpenClaim := { program := "ytakkljdeencfbaa", sum := "f3b976a97e4661fbc8a2b983188fd19f05624620f0b6d205ac0c2a73d2f96757", func := "waywarden/waywardenlaw6.SpfMore", spec := "spfMore", unfollowed := true, recurses := true, plainKeys := false, apart := false }
def SpfMoreSaid : Prop := spfMoreRow.holds Try.pinned (OpenSpec.ofChange spfMoreSpec)

/-- ITS FALSE NEIGHBOUR: 'it returns false'. Refute it at one input. -/
def spfMoreWrong : ChangeSpec := { name := "spfMore", fn := fun _ => fun
  | [d1, d2, d3, d4, d5] => { results := [.lit (.bool false)], args := [d1, d2, d3, d4, d5] }
  | _ => none }
def SpfMoreWrongFalsely : Prop := spfMoreRow.holds Try.pinned (OpenSpec.ofChange spfMoreWrong)

/-- 'waywardenlaw7.LfiOwn': WHATEVER THE INPUT: true; the input reads as it did. -/
def lfiOwnSpec : ChangeSpec := { name := "lfiOwn", fn := fun _ => fun
  | [d1, d2, d3, d4, d5, d6] => { results := [.lit (.bool true)], args := [d1, d2, d3, d4, d5, d6] }
  | _ => none }
def lfiOwnRow : OpenClaim := { program := "ytakkljdeencfbaa", sum := "f3b976a97e4661fbc8a2b983188fd19f05624620f0b6d205ac0c2a73d2f96757", func := "waywarden/waywardenlaw7.LfiOwn", spec := "lfiOwn", plainKeys := false, apart := false }
def LfiOwnSaid : Prop := lfiOwnRow.holds Try.pinned (OpenSpec.ofChange lfiOwnSpec)

/-- ITS FALSE NEIGHBOUR: 'it returns false'. Refute it at one input. -/
def lfiOwnWrong : ChangeSpec := { name := "lfiOwn", fn := fun _ => fun
  | [d1, d2, d3, d4, d5, d6] => { results := [.lit (.bool false)], args := [d1, d2, d3, d4, d5, d6] }
  | _ => none }
def LfiOwnWrongFalsely : Prop := lfiOwnRow.holds Try.pinned (OpenSpec.ofChange lfiOwnWrong)

/-- 'waywardenlaw6.GaoUp': WHATEVER THE INPUT: true; the input reads as it did. -/
def gaoUpSpec : ChangeSpec := { name := "gaoUp", fn := fun _ => fun
  | [d1, d2, d3, d4] => { results := [.lit (.bool true)], args := [d1, d2, d3, d4] }
  | _ => none }
def gaoUpRow : OpenClaim := { program := "ytakkljdeencfbaa", sum := "f3b976a97e4661fbc8a2b983188fd19f05624620f0b6d205ac0c2a73d2f96757", func := "waywarden/waywardenlaw6.GaoUp", spec := "gaoUp", unfollowed := true, recurses := true, plainKeys := false, apart := false }
def GaoUpSaid : Prop := gaoUpRow.holds Try.pinned (OpenSpec.ofChange gaoUpSpec)

/-- ITS FALSE NEIGHBOUR: 'it returns false'. Refute it at one input. -/
def gaoUpWrong : ChangeSpec := { name := "gaoUp", fn := fun _ => fun
  | [d1, d2, d3, d4] => { results := [.lit (.bool false)], args := [d1, d2, d3, d4] }
  | _ => none }
def GaoUpWrongFalsely : Prop := gaoUpRow.holds Try.pinned (OpenSpec.ofChange gaoUpWrong)

/-- 'waywardenlaw7.GaoOwn': WHATEVER THE INPUT: true; the input reads as it did. -/
def gaoOwnSpec : ChangeSpec := { name := "gaoOwn", fn := fun _ => fun
  | [d1, d2, d3, d4] => { results := [.lit (.bool true)], args := [d1, d2, d3, d4] }
  | _ => none }
def gaoOwnRow : OpenClaim := { program := "ytakkljdeencfbaa", sum := "f3b976a97e4661fbc8a2b983188fd19f05624620f0b6d205ac0c2a73d2f96757", func := "waywarden/waywardenlaw7.GaoOwn", spec := "gaoOwn", unfollowed := true, recurses := true, plainKeys := false, apart := false }
def GaoOwnSaid : Prop := gaoOwnRow.holds Try.pinned (OpenSpec.ofChange gaoOwnSpec)

/-- ITS FALSE NEIGHBOUR: 'it returns false'. Refute it at one input. -/
def gaoOwnWrong : ChangeSpec := { name := "gaoOwn", fn := fun _ => fun
  | [d1, d2, d3, d4] => { results := [.lit (.bool false)], args := [d1, d2, d3, d4] }
  | _ => none }
def GaoOwnWrongFalsely : Prop := gaoOwnRow.holds Try.pinned (OpenSpec.ofChange gaoOwnWrong)

/- THE SECOND FORM. 'bulk': how many values and letters a reading holds, each counted each time it is reached (what is shared counts as often as it is met; a slice's spare places count too). A statement '..UptoSaid' is the law's where the arguments, and the package variables that the reading takes, are together of bulk at most 1048576: NARROWER than '..Said'. Prove '..Said' where nothing that the law and all that it calls make is longer than what came in: it says more and counts as full. Else prove '..UptoSaid'. A law counts once. -/
mutual
def uptoBulk {H : Type} : DataW H → Nat
  | .lit (.string bytes) => bytes.length + 1
  | .lit _ => 1
  | .nil => 1
  | .ptr d => uptoBulk d + 1
  | .slice elems spare => uptoBulkAll elems + uptoBulkAll spare + 1
  | .agg parts => uptoBulkAll parts + 1
  | .iface _ d => uptoBulk d + 1
  | .map entries => uptoBulkEntries entries + 1
  | .held _ => 1
def uptoBulkAll {H : Type} : List (DataW H) → Nat
  | [] => 0
  | d :: r => uptoBulk d + uptoBulkAll r
def uptoBulkEntries {H : Type} : List (Lit × DataW H) → Nat
  | [] => 0
  | x :: r => uptoBulkEntry x + uptoBulkEntries r
def uptoBulkEntry {H : Type} : Lit × DataW H → Nat
  | (.string bytes, d) => bytes.length + uptoBulk d + 1
  | (_, d) => uptoBulk d + 1
 end
def uptoSmall : (H : Type) → List (DataW H) → Bool := fun _ ds => decide (uptoBulkAll ds ≤ 1048576)
def OpenSpec.upto (s : _root_.Go.ChangeSpec) : _root_.Go.OpenSpec := { _root_.Go.OpenSpec.ofChange s with cond := some uptoSmall }

/-- 'waywardenlaw6.WaysJoin', WHERE WHAT IT READS IS OF BULK AT MOST 1048576: true; the input reads as it did. -/
def waysJoinUptoRow : OpenClaim := { program := "ytakkljdeencfbaa", sum := "f3b976a97e4661fbc8a2b983188fd19f05624620f0b6d205ac0c2a73d2f96757", func := "waywarden/waywardenlaw6.WaysJoin", spec := "waysJoin", plainKeys := false, apart := false, narrowed := true }
def WaysJoinUptoSaid : Prop := waysJoinUptoRow.holds Try.pinned (OpenSpec.upto waysJoinSpec)

/-- 'waywardenlaw6.SpanMore', WHERE WHAT IT READS IS OF BULK AT MOST 1048576: true; the input reads as it did. -/
def spanMoreUptoRow : OpenClaim := { program := "ytakkljdeencfbaa", sum := "f3b976a97e4661fbc8a2b983188fd19f05624620f0b6d205ac0c2a73d2f96757", func := "waywarden/waywardenlaw6.SpanMore", spec := "spanMore", plainKeys := false, apart := false, narrowed := true }
def SpanMoreUptoSaid : Prop := spanMoreUptoRow.holds Try.pinned (OpenSpec.upto spanMoreSpec)

/-- 'waywardenlaw6.AsyncQuiet', WHERE WHAT IT READS IS OF BULK AT MOST 1048576: true; the input reads as it did. -/
def asyncQuietUptoRow : OpenClaim := { program := "ytakkljdeencfbaa", sum := "f3b976a97e4661fbc8a2b983188fd19f05624620f0b6d205ac0c2a73d2f96757", func := "waywarden/waywardenlaw6.AsyncQuiet", spec := "asyncQuiet", plainKeys := false, apart := false, narrowed := true }
def AsyncQuietUptoSaid : Prop := asyncQuietUptoRow.holds Try.pinned (OpenSpec.upto asyncQuietSpec)

/-- 'waywardenlaw6.SpfMore', WHERE WHAT IT READS IS OF BULK AT MOST 1048576: true; the input reads as it did. -/
def spfMoreUptoRow : OpenClaim := { program := "ytakkljdeencfbaa", sum := "f3b976a97e4661fbc8a2b983188fd19f05624620f0b6d205ac0c2a73d2f96757", func := "waywarden/waywardenlaw6.SpfMore", spec := "spfMore", unfollowed := true, recurses := true, plainKeys := false, apart := false, narrowed := true }
def SpfMoreUptoSaid : Prop := spfMoreUptoRow.holds Try.pinned (OpenSpec.upto spfMoreSpec)

/-- 'waywardenlaw7.LfiOwn', WHERE WHAT IT READS IS OF BULK AT MOST 1048576: true; the input reads as it did. -/
def lfiOwnUptoRow : OpenClaim := { program := "ytakkljdeencfbaa", sum := "f3b976a97e4661fbc8a2b983188fd19f05624620f0b6d205ac0c2a73d2f96757", func := "waywarden/waywardenlaw7.LfiOwn", spec := "lfiOwn", plainKeys := false, apart := false, narrowed := true }
def LfiOwnUptoSaid : Prop := lfiOwnUptoRow.holds Try.pinned (OpenSpec.upto lfiOwnSpec)

/-- 'waywardenlaw6.GaoUp', WHERE WHAT IT READS IS OF BULK AT MOST 1048576: true; the input reads as it did. -/
def gaoUpUptoRow : OpenClaim := { program := "ytakkljdeencfbaa", sum := "f3b976a97e4661fbc8a2b983188fd19f05624620f0b6d205ac0c2a73d2f96757", func := "waywarden/waywardenlaw6.GaoUp", spec := "gaoUp", unfollowed := true, recurses := true, plainKeys := false, apart := false, narrowed := true }
def GaoUpUptoSaid : Prop := gaoUpUptoRow.holds Try.pinned (OpenSpec.upto gaoUpSpec)

/-- 'waywardenlaw7.GaoOwn', WHERE WHAT IT READS IS OF BULK AT MOST 1048576: true; the input reads as it did. -/
def gaoOwnUptoRow : OpenClaim := { program := "ytakkljdeencfbaa", sum := "f3b976a97e4661fbc8a2b983188fd19f05624620f0b6d205ac0c2a73d2f96757", func := "waywarden/waywardenlaw7.GaoOwn", spec := "gaoOwn", unfollowed := true, recurses := true, plainKeys := false, apart := false, narrowed := true }
def GaoOwnUptoSaid : Prop := gaoOwnUptoRow.holds Try.pinned (OpenSpec.upto gaoOwnSpec)

end Rows
end Go.Proofs.Ytakkljdeencfbaa
