/-
  No cell of these rows narrows 'for every input' (looked for: loops, veiled, ifaces, maps, wideKeys, modest, calm, conditions, laid).
  DERIVED. THE GIVEN ROWS OF THIS SEAT. 10 by the template 'for every input the law returns true; each argument reads behind the call as it read before'; 0 by the template 'total and deterministic' (their statements: YtoenopfmlgapbaaTotals.lean).
  GIVEN WITH THE SEED: the statements are not yours to turn. If you find one false, say at which input.
  Laid BY PROGRAM, IN A SANDBOX (cutbox-rows.mjs): the forced cells as the released guide's own fill.sh prints them over the translation de3f64869c9a40d5… (all of the seat's roots in one cut). By AI agents, Wed Nov 11 2026. No macro, syntax, notation, axiom, sorry.
-/
import Derived.Test.YtoenopfmlgapbaaChecked
import GoSem.Claim
import GoSem.ClaimJoined
import GoSem.ClaimMapViews
import Derived.JoinedTies
import Derived.KernelRfl
namespace Go.Proofs.Ytoenopfmlgapbaa
/- THE CELL 'sum', in the pinned program and in every row, IS THE sha256 OF THE DUMP (.gsa) THAT YtoenopfmlgapbaaProg.lean LOADS. Nothing in Lean hashes anything: it is a label: what it is worth is what the hold of that sum in a sandbox is worth. -/
noncomputable def Try.pinned : Pinned := { name := "ytoenopfmlgapbaa", sum := "de3f64869c9a40d56f30ef726100da8538e762c801bd0e93e6bfa238a1ca0736", checked := Try.checked }
namespace Rows
def none {H : Type} : Left H := { results := [], args := [] }

/-- 'waywardenlaw6.RibLast': WHATEVER THE INPUT: true; the input reads as it did. -/
def ribLastSpec : ChangeSpec := { name := "ribLast", fn := fun _ => fun
  | [d1, d2, d3] => { results := [.lit (.bool true)], args := [d1, d2, d3] }
  | _ => none }
def ribLastRow : OpenClaim := { program := "ytoenopfmlgapbaa", sum := "de3f64869c9a40d56f30ef726100da8538e762c801bd0e93e6bfa238a1ca0736", func := "waywarden/waywardenlaw6.RibLast", spec := "ribLast", inPlace := ["slices.overlaps[waywarden/rib.told]"], unfollowed := true, recurses := true, apart := false }
def RibLastSaid : Prop := ribLastRow.holds Try.pinned (OpenSpec.ofChange ribLastSpec)

/-- ITS FALSE NEIGHBOUR: 'it returns false'. Refute it at one input. -/
def ribLastWrong : ChangeSpec := { name := "ribLast", fn := fun _ => fun
  | [d1, d2, d3] => { results := [.lit (.bool false)], args := [d1, d2, d3] }
  | _ => none }
def RibLastWrongFalsely : Prop := ribLastRow.holds Try.pinned (OpenSpec.ofChange ribLastWrong)

/-- 'waywardenlaw7.RibOwn': WHATEVER THE INPUT: true; the input reads as it did. -/
def ribOwnSpec : ChangeSpec := { name := "ribOwn", fn := fun _ => fun
  | [d1, d2, d3, d4] => { results := [.lit (.bool true)], args := [d1, d2, d3, d4] }
  | _ => none }
def ribOwnRow : OpenClaim := { program := "ytoenopfmlgapbaa", sum := "de3f64869c9a40d56f30ef726100da8538e762c801bd0e93e6bfa238a1ca0736", func := "waywarden/waywardenlaw7.RibOwn", spec := "ribOwn", inPlace := ["slices.overlaps[waywarden/rib.told]"], unfollowed := true, recurses := true, apart := false }
def RibOwnSaid : Prop := ribOwnRow.holds Try.pinned (OpenSpec.ofChange ribOwnSpec)

/-- ITS FALSE NEIGHBOUR: 'it returns false'. Refute it at one input. -/
def ribOwnWrong : ChangeSpec := { name := "ribOwn", fn := fun _ => fun
  | [d1, d2, d3, d4] => { results := [.lit (.bool false)], args := [d1, d2, d3, d4] }
  | _ => none }
def RibOwnWrongFalsely : Prop := ribOwnRow.holds Try.pinned (OpenSpec.ofChange ribOwnWrong)

/-- 'waywardenlaw3.RibAges': WHATEVER THE INPUT: true; the input reads as it did. -/
def ribAgesSpec : ChangeSpec := { name := "ribAges", fn := fun _ => fun
  | [d1, d2, d3, d4, d5] => { results := [.lit (.bool true)], args := [d1, d2, d3, d4, d5] }
  | _ => none }
def ribAgesRow : OpenClaim := { program := "ytoenopfmlgapbaa", sum := "de3f64869c9a40d56f30ef726100da8538e762c801bd0e93e6bfa238a1ca0736", func := "waywarden/waywardenlaw3.RibAges", spec := "ribAges", inPlace := ["slices.overlaps[waywarden/rib.told]"], unfollowed := true, recurses := true, apart := false }
def RibAgesSaid : Prop := ribAgesRow.holds Try.pinned (OpenSpec.ofChange ribAgesSpec)

/-- ITS FALSE NEIGHBOUR: 'it returns false'. Refute it at one input. -/
def ribAgesWrong : ChangeSpec := { name := "ribAges", fn := fun _ => fun
  | [d1, d2, d3, d4, d5] => { results := [.lit (.bool false)], args := [d1, d2, d3, d4, d5] }
  | _ => none }
def RibAgesWrongFalsely : Prop := ribAgesRow.holds Try.pinned (OpenSpec.ofChange ribAgesWrong)

/-- 'waywardenlaw3.RibSteps': WHATEVER THE INPUT: true; the input reads as it did. -/
def ribStepsSpec : ChangeSpec := { name := "ribSteps", fn := fun _ => fun
  | [d1, d2, d3, d4, d5] => { results := [.lit (.bool true)], args := [d1, d2, d3, d4, d5] }
  | _ => none }
def ribStepsRow : OpenClaim := { program := "ytoenopfmlgapbaa", sum := "de3f64869c9a40d56f30ef726100da8538e762c801bd0e93e6bfa238a1ca0736", func := "waywarden/waywardenlaw3.RibSteps", spec := "ribSteps", inPlace := ["slices.overlaps[waywarden/rib.told]"], unfollowed := true, recurses := true, apart := false }
def RibStepsSaid : Prop := ribStepsRow.holds Try.pinned (OpenSpec.ofChange ribStepsSpec)

/-- ITS FALSE NEIGHBOUR: 'it returns false'. Refute it at one input. -/
def ribStepsWrong : ChangeSpec := { name := "ribSteps", fn := fun _ => fun
  | [d1, d2, d3, d4, d5] => { results := [.lit (.bool false)], args := [d1, d2, d3, d4, d5] }
  | _ => none }
def RibStepsWrongFalsely : Prop := ribStepsRow.holds Try.pinned (OpenSpec.ofChange ribStepsWrong)

/-- 'waywardenlaw3.RibOrder': WHATEVER THE INPUT: true; the input reads as it did. -/
def ribOrderSpec : ChangeSpec := { name := "ribOrder", fn := fun _ => fun
  | [d1, d2, d3, d4, d5] => { results := [.lit (.bool true)], args := [d1, d2, d3, d4, d5] }
  | _ => none }
def ribOrderRow : OpenClaim := { program := "ytoenopfmlgapbaa", sum := "de3f64869c9a40d56f30ef726100da8538e762c801bd0e93e6bfa238a1ca0736", func := "waywarden/waywardenlaw3.RibOrder", spec := "ribOrder", inPlace := ["slices.overlaps[waywarden/rib.told]"], unfollowed := true, recurses := true, apart := false }
def RibOrderSaid : Prop := ribOrderRow.holds Try.pinned (OpenSpec.ofChange ribOrderSpec)

/-- ITS FALSE NEIGHBOUR: 'it returns false'. Refute it at one input. -/
def ribOrderWrong : ChangeSpec := { name := "ribOrder", fn := fun _ => fun
  | [d1, d2, d3, d4, d5] => { results := [.lit (.bool false)], args := [d1, d2, d3, d4, d5] }
  | _ => none }
def RibOrderWrongFalsely : Prop := ribOrderRow.holds Try.pinned (OpenSpec.ofChange ribOrderWrong)

/-- 'waywardenlaw3.BestLeast': WHATEVER THE INPUT: true; the input reads as it did. -/
def bestLeastSpec : ChangeSpec := { name := "bestLeast", fn := fun _ => fun
  | [d1, d2, d3, d4] => { results := [.lit (.bool true)], args := [d1, d2, d3, d4] }
  | _ => none }
def bestLeastRow : OpenClaim := { program := "ytoenopfmlgapbaa", sum := "de3f64869c9a40d56f30ef726100da8538e762c801bd0e93e6bfa238a1ca0736", func := "waywarden/waywardenlaw3.BestLeast", spec := "bestLeast", apart := false }
def BestLeastSaid : Prop := bestLeastRow.holds Try.pinned (OpenSpec.ofChange bestLeastSpec)

/-- ITS FALSE NEIGHBOUR: 'it returns false'. Refute it at one input. -/
def bestLeastWrong : ChangeSpec := { name := "bestLeast", fn := fun _ => fun
  | [d1, d2, d3, d4] => { results := [.lit (.bool false)], args := [d1, d2, d3, d4] }
  | _ => none }
def BestLeastWrongFalsely : Prop := bestLeastRow.holds Try.pinned (OpenSpec.ofChange bestLeastWrong)

/-- 'waywardenlaw3.TrigOnce': WHATEVER THE INPUT: true; the input reads as it did. -/
def trigOnceSpec : ChangeSpec := { name := "trigOnce", fn := fun _ => fun
  | [d1, d2, d3, d4] => { results := [.lit (.bool true)], args := [d1, d2, d3, d4] }
  | _ => none }
def trigOnceRow : OpenClaim := { program := "ytoenopfmlgapbaa", sum := "de3f64869c9a40d56f30ef726100da8538e762c801bd0e93e6bfa238a1ca0736", func := "waywarden/waywardenlaw3.TrigOnce", spec := "trigOnce", inPlace := ["slices.overlaps[waywarden/api.Net]"], unfollowed := true, recurses := true, apart := false }
def TrigOnceSaid : Prop := trigOnceRow.holds Try.pinned (OpenSpec.ofChange trigOnceSpec)

/-- ITS FALSE NEIGHBOUR: 'it returns false'. Refute it at one input. -/
def trigOnceWrong : ChangeSpec := { name := "trigOnce", fn := fun _ => fun
  | [d1, d2, d3, d4] => { results := [.lit (.bool false)], args := [d1, d2, d3, d4] }
  | _ => none }
def TrigOnceWrongFalsely : Prop := trigOnceRow.holds Try.pinned (OpenSpec.ofChange trigOnceWrong)

/-- 'waywardenlaw7.TrigOwn': WHATEVER THE INPUT: true; the input reads as it did. -/
def trigOwnSpec : ChangeSpec := { name := "trigOwn", fn := fun _ => fun
  | [d1, d2, d3] => { results := [.lit (.bool true)], args := [d1, d2, d3] }
  | _ => none }
def trigOwnRow : OpenClaim := { program := "ytoenopfmlgapbaa", sum := "de3f64869c9a40d56f30ef726100da8538e762c801bd0e93e6bfa238a1ca0736", func := "waywarden/waywardenlaw7.TrigOwn", spec := "trigOwn", inPlace := ["slices.overlaps[waywarden/api.Net]"], unfollowed := true, recurses := true, apart := false }
def TrigOwnSaid : Prop := trigOwnRow.holds Try.pinned (OpenSpec.ofChange trigOwnSpec)

/-- ITS FALSE NEIGHBOUR: 'it returns false'. Refute it at one input. -/
def trigOwnWrong : ChangeSpec := { name := "trigOwn", fn := fun _ => fun
  | [d1, d2, d3] => { results := [.lit (.bool false)], args := [d1, d2, d3] }
  | _ => none }
def TrigOwnWrongFalsely : Prop := trigOwnRow.holds Try.pinned (OpenSpec.ofChange trigOwnWrong)

/-- 'waywardenlaw6.PlanLess': WHATEVER THE INPUT: true; the input reads as it did. -/
def planLessSpec : ChangeSpec := { name := "planLess", fn := fun _ => fun
  | [d1, d2, d3, d4] => { results := [.lit (.bool true)], args := [d1, d2, d3, d4] }
  | _ => none }
def planLessRow : OpenClaim := { program := "ytoenopfmlgapbaa", sum := "de3f64869c9a40d56f30ef726100da8538e762c801bd0e93e6bfa238a1ca0736", func := "waywarden/waywardenlaw6.PlanLess", spec := "planLess", unfollowed := true, recurses := true, apart := false }
def PlanLessSaid : Prop := planLessRow.holds Try.pinned (OpenSpec.ofChange planLessSpec)

/-- ITS FALSE NEIGHBOUR: 'it returns false'. Refute it at one input. -/
def planLessWrong : ChangeSpec := { name := "planLess", fn := fun _ => fun
  | [d1, d2, d3, d4] => { results := [.lit (.bool false)], args := [d1, d2, d3, d4] }
  | _ => none }
def PlanLessWrongFalsely : Prop := planLessRow.holds Try.pinned (OpenSpec.ofChange planLessWrong)

/-- 'waywardenlaw7.TrieOwn': WHATEVER THE INPUT: true; the input reads as it did. -/
def trieOwnSpec : ChangeSpec := { name := "trieOwn", fn := fun _ => fun
  | [d1, d2] => { results := [.lit (.bool true)], args := [d1, d2] }
  | _ => none }
def trieOwnRow : OpenClaim := { program := "ytoenopfmlgapbaa", sum := "de3f64869c9a40d56f30ef726100da8538e762c801bd0e93e6bfa238a1ca0736", func := "waywarden/waywardenlaw7.TrieOwn", spec := "trieOwn", unfollowed := true, recurses := true, apart := false }
def TrieOwnSaid : Prop := trieOwnRow.holds Try.pinned (OpenSpec.ofChange trieOwnSpec)

/-- ITS FALSE NEIGHBOUR: 'it returns false'. Refute it at one input. -/
def trieOwnWrong : ChangeSpec := { name := "trieOwn", fn := fun _ => fun
  | [d1, d2] => { results := [.lit (.bool false)], args := [d1, d2] }
  | _ => none }
def TrieOwnWrongFalsely : Prop := trieOwnRow.holds Try.pinned (OpenSpec.ofChange trieOwnWrong)

/- THE SECOND FORM. 'bulk': how many values and letters a reading holds, each counted each time it is reached (what is shared counts as often as it is met; a slice's spare places count too). A statement '..UptoSaid' is the law's where the arguments, and the package variables that the reading takes, are together of bulk at most 1048576: NARROWER than '..Said'. Prove '..Said' where nothing that the law and all that it calls make is longer than what came in: it says more and counts as full. Else prove '..UptoSaid'. A law counts once. -/
mutual
def uptoBulk {H : Type} : DataW H → Nat
  | .lit (.string bytes) => bytes.length + 1
  | .lit _ => 1
  | .nil => 1
  | .ptr d => uptoBulk d + 1
  | .slice elems spare => uptoBulkAll elems + uptoBulkAll spare + 1
  | .agg parts => uptoBulkAll parts + 1
  | .iface _ d => uptoBulk d + 1
  | .map entries => uptoBulkEntries entries + 1
  | .held _ => 1
def uptoBulkAll {H : Type} : List (DataW H) → Nat
  | [] => 0
  | d :: r => uptoBulk d + uptoBulkAll r
def uptoBulkEntries {H : Type} : List (Lit × DataW H) → Nat
  | [] => 0
  | x :: r => uptoBulkEntry x + uptoBulkEntries r
def uptoBulkEntry {H : Type} : Lit × DataW H → Nat
  | (.string bytes, d) => bytes.length + uptoBulk d + 1
  | (_, d) => uptoBulk d + 1
 end
def uptoSmall : (H : Type) → List (DataW H) → Bool := fun _ ds => decide (uptoBulkAll ds ≤ 1048576)
def OpenSpec.upto (s : _root_.Go.ChangeSpec) : _root_.Go.OpenSpec := { _root_.Go.OpenSpec.ofChange s with cond := some uptoSmall }

/-- 'waywardenlaw6.RibLast', WHERE WHAT IT READS IS OF BULK AT MOST 1048576: true; the input reads as it did. -/
def ribLastUptoRow : OpenClaim := { program := "ytoenopfmlgapbaa", sum := "de3f64869c9a40d56f30ef726100da8538e762c801bd0e93e6bfa238a1ca0736", func := "waywarden/waywardenlaw6.RibLast", spec := "ribLast", inPlace := ["slices.overlaps[waywarden/rib.told]"], unfollowed := true, recurses := true, apart := false, narrowed := true }
def RibLastUptoSaid : Prop := ribLastUptoRow.holds Try.pinned (OpenSpec.upto ribLastSpec)

/-- 'waywardenlaw7.RibOwn', WHERE WHAT IT READS IS OF BULK AT MOST 1048576: true; the input reads as it did. -/
def ribOwnUptoRow : OpenClaim := { program := "ytoenopfmlgapbaa", sum := "de3f64869c9a40d56f30ef726100da8538e762c801bd0e93e6bfa238a1ca0736", func := "waywarden/waywardenlaw7.RibOwn", spec := "ribOwn", inPlace := ["slices.overlaps[waywarden/rib.told]"], unfollowed := true, recurses := true, apart := false, narrowed := true }
def RibOwnUptoSaid : Prop := ribOwnUptoRow.holds Try.pinned (OpenSpec.upto ribOwnSpec)

/-- 'waywardenlaw3.RibAges', WHERE WHAT IT READS IS OF BULK AT MOST 1048576: true; the input reads as it did. -/
def ribAgesUptoRow : OpenClaim := { program := "ytoenopfmlgapbaa", sum := "de3f64869c9a40d56f30ef726100da8538e762c801bd0e93e6bfa238a1ca0736", func := "waywarden/waywardenlaw3.RibAges", spec := "ribAges", inPlace := ["slices.overlaps[waywarden/rib.told]"], unfollowed := true, recurses := true, apart := false, narrowed := true }
def RibAgesUptoSaid : Prop := ribAgesUptoRow.holds Try.pinned (OpenSpec.upto ribAgesSpec)

/-- 'waywardenlaw3.RibSteps', WHERE WHAT IT READS IS OF BULK AT MOST 1048576: true; the input reads as it did. -/
def ribStepsUptoRow : OpenClaim := { program := "ytoenopfmlgapbaa", sum := "de3f64869c9a40d56f30ef726100da8538e762c801bd0e93e6bfa238a1ca0736", func := "waywarden/waywardenlaw3.RibSteps", spec := "ribSteps", inPlace := ["slices.overlaps[waywarden/rib.told]"], unfollowed := true, recurses := true, apart := false, narrowed := true }
def RibStepsUptoSaid : Prop := ribStepsUptoRow.holds Try.pinned (OpenSpec.upto ribStepsSpec)

/-- 'waywardenlaw3.RibOrder', WHERE WHAT IT READS IS OF BULK AT MOST 1048576: true; the input reads as it did. -/
def ribOrderUptoRow : OpenClaim := { program := "ytoenopfmlgapbaa", sum := "de3f64869c9a40d56f30ef726100da8538e762c801bd0e93e6bfa238a1ca0736", func := "waywarden/waywardenlaw3.RibOrder", spec := "ribOrder", inPlace := ["slices.overlaps[waywarden/rib.told]"], unfollowed := true, recurses := true, apart := false, narrowed := true }
def RibOrderUptoSaid : Prop := ribOrderUptoRow.holds Try.pinned (OpenSpec.upto ribOrderSpec)

/-- 'waywardenlaw3.BestLeast', WHERE WHAT IT READS IS OF BULK AT MOST 1048576: true; the input reads as it did. -/
def bestLeastUptoRow : OpenClaim := { program := "ytoenopfmlgapbaa", sum := "de3f64869c9a40d56f30ef726100da8538e762c801bd0e93e6bfa238a1ca0736", func := "waywarden/waywardenlaw3.BestLeast", spec := "bestLeast", apart := false, narrowed := true }
def BestLeastUptoSaid : Prop := bestLeastUptoRow.holds Try.pinned (OpenSpec.upto bestLeastSpec)

/-- 'waywardenlaw3.TrigOnce', WHERE WHAT IT READS IS OF BULK AT MOST 1048576: true; the input reads as it did. -/
def trigOnceUptoRow : OpenClaim := { program := "ytoenopfmlgapbaa", sum := "de3f64869c9a40d56f30ef726100da8538e762c801bd0e93e6bfa238a1ca0736", func := "waywarden/waywardenlaw3.TrigOnce", spec := "trigOnce", inPlace := ["slices.overlaps[waywarden/api.Net]"], unfollowed := true, recurses := true, apart := false, narrowed := true }
def TrigOnceUptoSaid : Prop := trigOnceUptoRow.holds Try.pinned (OpenSpec.upto trigOnceSpec)

/-- 'waywardenlaw7.TrigOwn', WHERE WHAT IT READS IS OF BULK AT MOST 1048576: true; the input reads as it did. -/
def trigOwnUptoRow : OpenClaim := { program := "ytoenopfmlgapbaa", sum := "de3f64869c9a40d56f30ef726100da8538e762c801bd0e93e6bfa238a1ca0736", func := "waywarden/waywardenlaw7.TrigOwn", spec := "trigOwn", inPlace := ["slices.overlaps[waywarden/api.Net]"], unfollowed := true, recurses := true, apart := false, narrowed := true }
def TrigOwnUptoSaid : Prop := trigOwnUptoRow.holds Try.pinned (OpenSpec.upto trigOwnSpec)

/-- 'waywardenlaw6.PlanLess', WHERE WHAT IT READS IS OF BULK AT MOST 1048576: true; the input reads as it did. -/
def planLessUptoRow : OpenClaim := { program := "ytoenopfmlgapbaa", sum := "de3f64869c9a40d56f30ef726100da8538e762c801bd0e93e6bfa238a1ca0736", func := "waywarden/waywardenlaw6.PlanLess", spec := "planLess", unfollowed := true, recurses := true, apart := false, narrowed := true }
def PlanLessUptoSaid : Prop := planLessUptoRow.holds Try.pinned (OpenSpec.upto planLessSpec)

/-- 'waywardenlaw7.TrieOwn', WHERE WHAT IT READS IS OF BULK AT MOST 1048576: true; the input reads as it did. -/
def trieOwnUptoRow : OpenClaim := { program := "ytoenopfmlgapbaa", sum := "de3f64869c9a40d56f30ef726100da8538e762c801bd0e93e6bfa238a1ca0736", func := "waywarden/waywardenlaw7.TrieOwn", spec := "trieOwn", unfollowed := true, recurses := true, apart := false, narrowed := true }
def TrieOwnUptoSaid : Prop := trieOwnUptoRow.holds Try.pinned (OpenSpec.upto trieOwnSpec)

end Rows
end Go.Proofs.Ytoenopfmlgapbaa
