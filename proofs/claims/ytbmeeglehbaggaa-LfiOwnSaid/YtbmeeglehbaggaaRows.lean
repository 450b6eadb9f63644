/-
  No cell of these rows narrows 'for every input' (looked for: loops, veiled, ifaces, maps, wideKeys, modest, calm, conditions, laid).
  DERIVED. THE GIVEN ROWS OF THIS SEAT. 7 by the template 'for every input the law returns true; each argument reads behind the call as it read before'; 0 by the template 'total and deterministic' (their statements: YtbmeeglehbaggaaTotals.lean).
  GIVEN WITH THE SEED: the statements are not yours to turn. If you find one false, say at which input.
  Laid BY PROGRAM, IN A SANDBOX (cutbox-rows.mjs): the forced cells as the released guide's own fill.sh prints them over the translation 7d723ddf9860c7ef… (all of the seat's roots in one cut). By AI agents, Wed Nov 11 2026. No macro, syntax, notation, axiom, sorry.
-/
import Derived.Test.YtbmeeglehbaggaaChecked
import GoSem.Claim
import GoSem.ClaimJoined
import GoSem.ClaimMapViews
import Derived.JoinedTies
import Derived.KernelRfl
namespace Go.Proofs.Ytbmeeglehbaggaa
/- THE CELL 'sum', in the pinned program and in every row, IS THE sha256 OF THE DUMP (.gsa) THAT YtbmeeglehbaggaaProg.lean LOADS. Nothing in Lean hashes anything: it is a label: what it is worth is what the hold of that sum in a sandbox is worth. -/
noncomputable def Try.pinned : Pinned := { name := "ytbmeeglehbaggaa", sum := "7d723ddf9860c7ef2cb657db283beaafc631bd34aa150d5a1d566c2876f2ef27", checked := Try.checked }
namespace Rows
def none {H : Type} : Left H := { results := [], args := [] }

/-- 'waywardenlaw3.BestLeast': WHATEVER THE INPUT: true; the input reads as it did. -/
def bestLeastSpec : ChangeSpec := { name := "bestLeast", fn := fun _ => fun
  | [d1, d2, d3, d4] => { results := [.lit (.bool true)], args := [d1, d2, d3, d4] }
  | _ => none }
def bestLeastRow : OpenClaim := { program := "ytbmeeglehbaggaa", sum := "7d723ddf9860c7ef2cb657db283beaafc631bd34aa150d5a1d566c2876f2ef27", func := "waywarden/waywardenlaw3.BestLeast", spec := "bestLeast", plainKeys := false, apart := false }
def BestLeastSaid : Prop := bestLeastRow.holds Try.pinned (OpenSpec.ofChange bestLeastSpec)

/-- ITS FALSE NEIGHBOUR: 'it returns false'. Refute it at one input. -/
def bestLeastWrong : ChangeSpec := { name := "bestLeast", fn := fun _ => fun
  | [d1, d2, d3, d4] => { results := [.lit (.bool false)], args := [d1, d2, d3, d4] }
  | _ => none }
def BestLeastWrongFalsely : Prop := bestLeastRow.holds Try.pinned (OpenSpec.ofChange bestLeastWrong)

/-- 'waywardenlaw7.TrieOwn': WHATEVER THE INPUT: true; the input reads as it did. -/
def trieOwnSpec : ChangeSpec := { name := "trieOwn", fn := fun _ => fun
  | [d1, d2] => { results := [.lit (.bool true)], args := [d1, d2] }
  | _ => none }
def trieOwnRow : OpenClaim := { program := "ytbmeeglehbaggaa", sum := "7d723ddf9860c7ef2cb657db283beaafc631bd34aa150d5a1d566c2876f2ef27", func := "waywarden/waywardenlaw7.TrieOwn", spec := "trieOwn", unfollowed := true, recurses := true, plainKeys := false, apart := false }
def TrieOwnSaid : Prop := trieOwnRow.holds Try.pinned (OpenSpec.ofChange trieOwnSpec)

/-- ITS FALSE NEIGHBOUR: 'it returns false'. Refute it at one input. -/
def trieOwnWrong : ChangeSpec := { name := "trieOwn", fn := fun _ => fun
  | [d1, d2] => { results := [.lit (.bool false)], args := [d1, d2] }
  | _ => none }
def TrieOwnWrongFalsely : Prop := trieOwnRow.holds Try.pinned (OpenSpec.ofChange trieOwnWrong)

/-- 'waywardenlaw7.LfiOwn': WHATEVER THE INPUT: true; the input reads as it did. -/
def lfiOwnSpec : ChangeSpec := { name := "lfiOwn", fn := fun _ => fun
  | [d1, d2, d3, d4, d5, d6] => { results := [.lit (.bool true)], args := [d1, d2, d3, d4, d5, d6] }
  | _ => none }
def lfiOwnRow : OpenClaim := { program := "ytbmeeglehbaggaa", sum := "7d723ddf9860c7ef2cb657db283beaafc631bd34aa150d5a1d566c2876f2ef27", func := "waywarden/waywardenlaw7.LfiOwn", spec := "lfiOwn", plainKeys := false, apart := false }
def LfiOwnSaid : Prop := lfiOwnRow.holds Try.pinned (OpenSpec.ofChange lfiOwnSpec)

/-- ITS FALSE NEIGHBOUR: 'it returns false'. Refute it at one input. -/
def lfiOwnWrong : ChangeSpec := { name := "lfiOwn", fn := fun _ => fun
  | [d1, d2, d3, d4, d5, d6] => { results := [.lit (.bool false)], args := [d1, d2, d3, d4, d5, d6] }
  | _ => none }
def LfiOwnWrongFalsely : Prop := lfiOwnRow.holds Try.pinned (OpenSpec.ofChange lfiOwnWrong)

/-- 'waywardenlaw6.GaoUp': WHATEVER THE INPUT: true; the input reads as it did. -/
def gaoUpSpec : ChangeSpec := { name := "gaoUp", fn := fun _ => fun
  | [d1, d2, d3, d4] => { results := [.lit (.bool true)], args := [d1, d2, d3, d4] }
  | _ => none }
def gaoUpRow : OpenClaim := { program := "ytbmeeglehbaggaa", sum := "7d723ddf9860c7ef2cb657db283beaafc631bd34aa150d5a1d566c2876f2ef27", func := "waywarden/waywardenlaw6.GaoUp", spec := "gaoUp", unfollowed := true, recurses := true, plainKeys := false, apart := false }
def GaoUpSaid : Prop := gaoUpRow.holds Try.pinned (OpenSpec.ofChange gaoUpSpec)

/-- ITS FALSE NEIGHBOUR: 'it returns false'. Refute it at one input. -/
def gaoUpWrong : ChangeSpec := { name := "gaoUp", fn := fun _ => fun
  | [d1, d2, d3, d4] => { results := [.lit (.bool false)], args := [d1, d2, d3, d4] }
  | _ => none }
def GaoUpWrongFalsely : Prop := gaoUpRow.holds Try.pinned (OpenSpec.ofChange gaoUpWrong)

/-- 'waywardenlaw7.GaoOwn': WHATEVER THE INPUT: true; the input reads as it did. -/
def gaoOwnSpec : ChangeSpec := { name := "gaoOwn", fn := fun _ => fun
  | [d1, d2, d3, d4] => { results := [.lit (.bool true)], args := [d1, d2, d3, d4] }
  | _ => none }
def gaoOwnRow : OpenClaim := { program := "ytbmeeglehbaggaa", sum := "7d723ddf9860c7ef2cb657db283beaafc631bd34aa150d5a1d566c2876f2ef27", func := "waywarden/waywardenlaw7.GaoOwn", spec := "gaoOwn", unfollowed := true, recurses := true, plainKeys := false, apart := false }
def GaoOwnSaid : Prop := gaoOwnRow.holds Try.pinned (OpenSpec.ofChange gaoOwnSpec)

/-- ITS FALSE NEIGHBOUR: 'it returns false'. Refute it at one input. -/
def gaoOwnWrong : ChangeSpec := { name := "gaoOwn", fn := fun _ => fun
  | [d1, d2, d3, d4] => { results := [.lit (.bool false)], args := [d1, d2, d3, d4] }
  | _ => none }
def GaoOwnWrongFalsely : Prop := gaoOwnRow.holds Try.pinned (OpenSpec.ofChange gaoOwnWrong)

/-- 'waywardenlaw6.PlanLess': WHATEVER THE INPUT: true; the input reads as it did. -/
def planLessSpec : ChangeSpec := { name := "planLess", fn := fun _ => fun
  | [d1, d2, d3, d4] => { results := [.lit (.bool true)], args := [d1, d2, d3, d4] }
  | _ => none }
def planLessRow : OpenClaim := { program := "ytbmeeglehbaggaa", sum := "7d723ddf9860c7ef2cb657db283beaafc631bd34aa150d5a1d566c2876f2ef27", func := "waywarden/waywardenlaw6.PlanLess", spec := "planLess", unfollowed := true, recurses := true, plainKeys := false, apart := false }
def PlanLessSaid : Prop := planLessRow.holds Try.pinned (OpenSpec.ofChange planLessSpec)

/-- ITS FALSE NEIGHBOUR: 'it returns false'. Refute it at one input. -/
def planLessWrong : ChangeSpec := { name := "planLess", fn := fun _ => fun
  | [d1, d2, d3, d4] => { results := [.lit (.bool false)], args := [d1, d2, d3, d4] }
  | _ => none }
def PlanLessWrongFalsely : Prop := planLessRow.holds Try.pinned (OpenSpec.ofChange planLessWrong)

/-- 'waywardenlaw7.CoverOwn': WHATEVER THE INPUT: true; the input reads as it did. -/
def coverOwnSpec : ChangeSpec := { name := "coverOwn", fn := fun _ => fun
  | [d1, d2] => { results := [.lit (.bool true)], args := [d1, d2] }
  | _ => none }
def coverOwnRow : OpenClaim := { program := "ytbmeeglehbaggaa", sum := "7d723ddf9860c7ef2cb657db283beaafc631bd34aa150d5a1d566c2876f2ef27", func := "waywarden/waywardenlaw7.CoverOwn", spec := "coverOwn", unfollowed := true, recurses := true, plainKeys := false, apart := false }
def CoverOwnSaid : Prop := coverOwnRow.holds Try.pinned (OpenSpec.ofChange coverOwnSpec)

/-- ITS FALSE NEIGHBOUR: 'it returns false'. Refute it at one input. -/
def coverOwnWrong : ChangeSpec := { name := "coverOwn", fn := fun _ => fun
  | [d1, d2] => { results := [.lit (.bool false)], args := [d1, d2] }
  | _ => none }
def CoverOwnWrongFalsely : Prop := coverOwnRow.holds Try.pinned (OpenSpec.ofChange coverOwnWrong)

/- THE SECOND FORM. 'bulk': how many values and letters a reading holds, each counted each time it is reached (what is shared counts as often as it is met; a slice's spare places count too). A statement '..UptoSaid' is the law's where the arguments, and the package variables that the reading takes, are together of bulk at most 1048576: NARROWER than '..Said'. Prove '..Said' where nothing that the law and all that it calls make is longer than what came in: it says more and counts as full. Else prove '..UptoSaid'. A law counts once. -/
mutual
def uptoBulk {H : Type} : DataW H → Nat
  | .lit (.string bytes) => bytes.length + 1
  | .lit _ => 1
  | .nil => 1
  | .ptr d => uptoBulk d + 1
  | .slice elems spare => uptoBulkAll elems + uptoBulkAll spare + 1
  | .agg parts => uptoBulkAll parts + 1
  | .iface _ d => uptoBulk d + 1
  | .map entries => uptoBulkEntries entries + 1
  | .held _ => 1
def uptoBulkAll {H : Type} : List (DataW H) → Nat
  | [] => 0
  | d :: r => uptoBulk d + uptoBulkAll r
def uptoBulkEntries {H : Type} : List (Lit × DataW H) → Nat
  | [] => 0
  | x :: r => uptoBulkEntry x + uptoBulkEntries r
def uptoBulkEntry {H : Type} : Lit × DataW H → Nat
  | (.string bytes, d) => bytes.length + uptoBulk d + 1
  | (_, d) => uptoBulk d + 1
 end
def uptoSmall : (H : Type) → List (DataW H) → Bool := fun _ ds => decide (uptoBulkAll ds ≤ 1048576)
def OpenSpec.upto (s : _root_.Go.ChangeSpec) : _root_.Go.OpenSpec := { _root_.Go.OpenSpec.ofChange s with cond := some uptoSmall }

/-- 'waywardenlaw3.BestLeast', WHERE WHAT IT READS IS OF BULK AT MOST 1048576: true; the input reads as it did. -/
def bestLeastUptoRow : OpenClaim := { program := "ytbmeeglehbaggaa", sum := "7d723ddf9860c7ef2cb657db283beaafc631bd34aa150d5a1d566c2876f2ef27", func := "waywarden/waywardenlaw3.BestLeast", spec := "bestLeast", plainKeys := false, apart := false, narrowed := true }
def BestLeastUptoSaid : Prop := bestLeastUptoRow.holds Try.pinned (OpenSpec.upto bestLeastSpec)

/-- 'waywardenlaw7.TrieOwn', WHERE WHAT IT READS IS OF BULK AT MOST 1048576: true; the input reads as it did. -/
def trieOwnUptoRow : OpenClaim := { program := "ytbmeeglehbaggaa", sum := "7d723ddf9860c7ef2cb657db283beaafc631bd34aa150d5a1d566c2876f2ef27", func := "waywarden/waywardenlaw7.TrieOwn", spec := "trieOwn", unfollowed := true, recurses := true, plainKeys := false, apart := false, narrowed := true }
def TrieOwnUptoSaid : Prop := trieOwnUptoRow.holds Try.pinned (OpenSpec.upto trieOwnSpec)

/-- 'waywardenlaw7.LfiOwn', WHERE WHAT IT READS IS OF BULK AT MOST 1048576: true; the input reads as it did. -/
def lfiOwnUptoRow : OpenClaim := { program := "ytbmeeglehbaggaa", sum := "7d723ddf9860c7ef2cb657db283beaafc631bd34aa150d5a1d566c2876f2ef27", func := "waywarden/waywardenlaw7.LfiOwn", spec := "lfiOwn", plainKeys := false, apart := false, narrowed := true }
def LfiOwnUptoSaid : Prop := lfiOwnUptoRow.holds Try.pinned (OpenSpec.upto lfiOwnSpec)

/-- 'waywardenlaw6.GaoUp', WHERE WHAT IT READS IS OF BULK AT MOST 1048576: true; the input reads as it did. -/
def gaoUpUptoRow : OpenClaim := { program := "ytbmeeglehbaggaa", sum := "7d723ddf9860c7ef2cb657db283beaafc631bd34aa150d5a1d566c2876f2ef27", func := "waywarden/waywardenlaw6.GaoUp", spec := "gaoUp", unfollowed := true, recurses := true, plainKeys := false, apart := false, narrowed := true }
def GaoUpUptoSaid : Prop := gaoUpUptoRow.holds Try.pinned (OpenSpec.upto gaoUpSpec)

/-- 'waywardenlaw7.GaoOwn', WHERE WHAT IT READS IS OF BULK AT MOST 1048576: true; the input reads as it did. -/
def gaoOwnUptoRow : OpenClaim := { program := "ytbmeeglehbaggaa", sum := "7d723ddf9860c7ef2cb657db283beaafc631bd34aa150d5a1d566c2876f2ef27", func := "waywarden/waywardenlaw7.GaoOwn", spec := "gaoOwn", unfollowed := true, recurses := true, plainKeys := false, apart := false, narrowed := true }
def GaoOwnUptoSaid : Prop := gaoOwnUptoRow.holds Try.pinned (OpenSpec.upto gaoOwnSpec)

/-- 'waywardenlaw6.PlanLess', WHERE WHAT IT READS IS OF BULK AT MOST 1048576: true; the input reads as it did. -/
def planLessUptoRow : OpenClaim := { program := "ytbmeeglehbaggaa", sum := "7d723ddf9860c7ef2cb657db283beaafc631bd34aa150d5a1d566c2876f2ef27", func := "waywarden/waywardenlaw6.PlanLess", spec := "planLess", unfollowed := true, recurses := true, plainKeys := false, apart := false, narrowed := true }
def PlanLessUptoSaid : Prop := planLessUptoRow.holds Try.pinned (OpenSpec.upto planLessSpec)

/-- 'waywardenlaw7.CoverOwn', WHERE WHAT IT READS IS OF BULK AT MOST 1048576: true; the input reads as it did. -/
def coverOwnUptoRow : OpenClaim := { program := "ytbmeeglehbaggaa", sum := "7d723ddf9860c7ef2cb657db283beaafc631bd34aa150d5a1d566c2876f2ef27", func := "waywarden/waywardenlaw7.CoverOwn", spec := "coverOwn", unfollowed := true, recurses := true, plainKeys := false, apart := false, narrowed := true }
def CoverOwnUptoSaid : Prop := coverOwnUptoRow.holds Try.pinned (OpenSpec.upto coverOwnSpec)

end Rows
end Go.Proofs.Ytbmeeglehbaggaa
