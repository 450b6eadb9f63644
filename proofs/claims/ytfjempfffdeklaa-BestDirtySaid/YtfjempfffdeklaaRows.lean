/-
  No cell of these rows narrows 'for every input' (looked for: loops, veiled, ifaces, maps, wideKeys, modest, calm, conditions, laid).
  DERIVED. THE GIVEN ROWS OF THIS SEAT. 2 by the template 'for every input the law returns true; each argument reads behind the call as it read before'; 0 by the template 'total and deterministic' (their statements: YtfjempfffdeklaaTotals.lean).
  GIVEN WITH THE SEED: the statements are not yours to turn. If you find one false, say at which input.
  Laid BY PROGRAM, IN A SANDBOX (cutbox-rows.mjs): the forced cells as the released guide's own fill.sh prints them over the translation 4346b27840988b60… (all of the seat's roots in one cut). By AI agents, Wed Nov 11 2026. No macro, syntax, notation, axiom, sorry.
-/
import Derived.Test.YtfjempfffdeklaaChecked
import GoSem.Claim
import GoSem.ClaimJoined
import GoSem.ClaimMapViews
import Derived.JoinedTies
import Derived.KernelRfl
namespace Go.Proofs.Ytfjempfffdeklaa
/- THE CELL 'sum', in the pinned program and in every row, IS THE sha256 OF THE DUMP (.gsa) THAT YtfjempfffdeklaaProg.lean LOADS. Nothing in Lean hashes anything: it is a label: what it is worth is what the hold of that sum in a sandbox is worth. -/
noncomputable def Try.pinned : Pinned := { name := "ytfjempfffdeklaa", sum := "4346b27840988b6036e739b22246250e4be9bd0ca34d434970c1299dfb5e914f", checked := Try.checked }
namespace Rows
def none {H : Type} : Left H := { results := [], args := [] }

/-- 'waywardenlaw3.BestDirty': WHATEVER THE INPUT: true; the input reads as it did. -/
def bestDirtySpec : ChangeSpec := { name := "bestDirty", fn := fun _ => fun
  | [d1, d2, d3] => { results := [.lit (.bool true)], args := [d1, d2, d3] }
  | _ => none }
def bestDirtyRow : OpenClaim := { program := "ytfjempfffdeklaa", sum := "4346b27840988b6036e739b22246250e4be9bd0ca34d434970c1299dfb5e914f", func := "waywarden/waywardenlaw3.BestDirty", spec := "bestDirty", unfollowed := true, recurses := true, plainKeys := false, apart := false }
def BestDirtySaid : Prop := bestDirtyRow.holds Try.pinned (OpenSpec.ofChange bestDirtySpec)

/-- ITS FALSE NEIGHBOUR: 'it returns false'. Refute it at one input. -/
def bestDirtyWrong : ChangeSpec := { name := "bestDirty", fn := fun _ => fun
  | [d1, d2, d3] => { results := [.lit (.bool false)], args := [d1, d2, d3] }
  | _ => none }
def BestDirtyWrongFalsely : Prop := bestDirtyRow.holds Try.pinned (OpenSpec.ofChange bestDirtyWrong)

/-- 'waywardenlaw7.BestOwn': WHATEVER THE INPUT: true; the input reads as it did. -/
def bestOwnSpec : ChangeSpec := { name := "bestOwn", fn := fun _ => fun
  | [d1, d2, d3] => { results := [.lit (.bool true)], args := [d1, d2, d3] }
  | _ => none }
def bestOwnRow : OpenClaim := { program := "ytfjempfffdeklaa", sum := "4346b27840988b6036e739b22246250e4be9bd0ca34d434970c1299dfb5e914f", func := "waywarden/waywardenlaw7.BestOwn", spec := "bestOwn", unfollowed := true, recurses := true, plainKeys := false, apart := false }
def BestOwnSaid : Prop := bestOwnRow.holds Try.pinned (OpenSpec.ofChange bestOwnSpec)

/-- ITS FALSE NEIGHBOUR: 'it returns false'. Refute it at one input. -/
def bestOwnWrong : ChangeSpec := { name := "bestOwn", fn := fun _ => fun
  | [d1, d2, d3] => { results := [.lit (.bool false)], args := [d1, d2, d3] }
  | _ => none }
def BestOwnWrongFalsely : Prop := bestOwnRow.holds Try.pinned (OpenSpec.ofChange bestOwnWrong)

/- THE SECOND FORM. 'bulk': how many values and letters a reading holds, each counted each time it is reached (what is shared counts as often as it is met; a slice's spare places count too). A statement '..UptoSaid' is the law's where the arguments, and the package variables that the reading takes, are together of bulk at most 1048576: NARROWER than '..Said'. Prove '..Said' where nothing that the law and all that it calls make is longer than what came in: it says more and counts as full. Else prove '..UptoSaid'. A law counts once. -/
mutual
def uptoBulk {H : Type} : DataW H → Nat
  | .lit (.string bytes) => bytes.length + 1
  | .lit _ => 1
  | .nil => 1
  | .ptr d => uptoBulk d + 1
  | .slice elems spare => uptoBulkAll elems + uptoBulkAll spare + 1
  | .agg parts => uptoBulkAll parts + 1
  | .iface _ d => uptoBulk d + 1
  | .map entries => uptoBulkEntries entries + 1
  | .held _ => 1
def uptoBulkAll {H : Type} : List (DataW H) → Nat
  | [] => 0
  | d :: r => uptoBulk d + uptoBulkAll r
def uptoBulkEntries {H : Type} : List (Lit × DataW H) → Nat
  | [] => 0
  | x :: r => uptoBulkEntry x + uptoBulkEntries r
def uptoBulkEntry {H : Type} : Lit × DataW H → Nat
  | (.string bytes, d) => bytes.length + uptoBulk d + 1
  | (_, d) => uptoBulk d + 1
 end
def uptoSmall : (H : Type) → List (DataW H) → Bool := fun _ ds => decide (uptoBulkAll ds ≤ 1048576)
def OpenSpec.upto (s : _root_.Go.ChangeSpec) : _root_.Go.OpenSpec := { _root_.Go.OpenSpec.ofChange s with cond := some uptoSmall }

/-- 'waywardenlaw3.BestDirty', WHERE WHAT IT READS IS OF BULK AT MOST 1048576: true; the input reads as it did. -/
def bestDirtyUptoRow : OpenClaim := { program := "ytfjempfffdeklaa", sum := "4346b27840988b6036e739b22246250e4be9bd0ca34d434970c1299dfb5e914f", func := "waywarden/waywardenlaw3.BestDirty", spec := "bestDirty", unfollowed := true, recurses := true, plainKeys := false, apart := false, narrowed := true }
def BestDirtyUptoSaid : Prop := bestDirtyUptoRow.holds Try.pinned (OpenSpec.upto bestDirtySpec)

/-- 'waywardenlaw7.BestOwn', WHERE WHAT IT READS IS OF BULK AT MOST 1048576: true; the input reads as it did. -/
def bestOwnUptoRow : OpenClaim := { program := "ytfjempfffdeklaa", sum := "4346b27840988b6036e739b22246250e4be9bd0ca34d434970c1299dfb5e914f", func := "waywarden/waywardenlaw7.BestOwn", spec := "bestOwn", unfollowed := true, recurses := true, plainKeys := false, apart := false, narrowed := true }
def BestOwnUptoSaid : Prop := bestOwnUptoRow.holds Try.pinned (OpenSpec.upto bestOwnSpec)

end Rows
end Go.Proofs.Ytfjempfffdeklaa
