/-
  No cell of these rows narrows 'for every input' (looked for: loops, veiled, ifaces, maps, wideKeys, modest, calm, conditions, laid).
  DERIVED. THE GIVEN ROWS OF THIS SEAT. 5 by the template 'for every input the law returns true; each argument reads behind the call as it read before'; 0 by the template 'total and deterministic' (their statements: YtfglidaicjjpfaaTotals.lean).
  GIVEN WITH THE SEED: the statements are not yours to turn. If you find one false, say at which input.
  Laid BY PROGRAM, IN A SANDBOX (cutbox-rows.mjs): the forced cells as the released guide's own fill.sh prints them over the translation c5ea03ac0db38dcf… (all of the seat's roots in one cut). By AI agents, Wed Nov 11 2026. No macro, syntax, notation, axiom, sorry.
-/
import Derived.Test.YtfglidaicjjpfaaChecked
import GoSem.Claim
import GoSem.ClaimJoined
import GoSem.ClaimMapViews
import Derived.JoinedTies
import Derived.KernelRfl
namespace Go.Proofs.Ytfglidaicjjpfaa
/- THE CELL 'sum', in the pinned program and in every row, IS THE sha256 OF THE DUMP (.gsa) THAT YtfglidaicjjpfaaProg.lean LOADS. Nothing in Lean hashes anything: it is a label: what it is worth is what the hold of that sum in a sandbox is worth. -/
noncomputable def Try.pinned : Pinned := { name := "ytfglidaicjjpfaa", sum := "c5ea03ac0db38dcff31a06f7f6c0b9108f4d49f9ad6cf1ec8913bd5e879307f5", checked := Try.checked }
namespace Rows
def none {H : Type} : Left H := { results := [], args := [] }

/-- 'waywardentop.TopBest': WHATEVER THE INPUT: true; the input reads as it did. -/
def topBestSpec : ChangeSpec := { name := "topBest", fn := fun _ => fun
  | [d1, d2, d3, d4] => { results := [.lit (.bool true)], args := [d1, d2, d3, d4] }
  | _ => none }
def topBestRow : OpenClaim := { program := "ytfglidaicjjpfaa", sum := "c5ea03ac0db38dcff31a06f7f6c0b9108f4d49f9ad6cf1ec8913bd5e879307f5", func := "waywarden/waywardentop.TopBest", spec := "topBest", inPlace := ["slices.overlaps[waywarden/rib.told]"], unfollowed := true, recurses := true, plainKeys := false, apart := false }
def TopBestSaid : Prop := topBestRow.holds Try.pinned (OpenSpec.ofChange topBestSpec)

/-- ITS FALSE NEIGHBOUR: 'it returns false'. Refute it at one input. -/
def topBestWrong : ChangeSpec := { name := "topBest", fn := fun _ => fun
  | [d1, d2, d3, d4] => { results := [.lit (.bool false)], args := [d1, d2, d3, d4] }
  | _ => none }
def TopBestWrongFalsely : Prop := topBestRow.holds Try.pinned (OpenSpec.ofChange topBestWrong)

/-- 'waywardenlaw7.DaemonOwn': WHATEVER THE INPUT: true; the input reads as it did. -/
def daemonOwnSpec : ChangeSpec := { name := "daemonOwn", fn := fun _ => fun
  | [d1, d2, d3, d4] => { results := [.lit (.bool true)], args := [d1, d2, d3, d4] }
  | _ => none }
def daemonOwnRow : OpenClaim := { program := "ytfglidaicjjpfaa", sum := "c5ea03ac0db38dcff31a06f7f6c0b9108f4d49f9ad6cf1ec8913bd5e879307f5", func := "waywarden/waywardenlaw7.DaemonOwn", spec := "daemonOwn", inPlace := ["slices.overlaps[waywarden/rib.told]"], unfollowed := true, recurses := true, plainKeys := false, apart := false }
def DaemonOwnSaid : Prop := daemonOwnRow.holds Try.pinned (OpenSpec.ofChange daemonOwnSpec)

/-- ITS FALSE NEIGHBOUR: 'it returns false'. Refute it at one input. -/
def daemonOwnWrong : ChangeSpec := { name := "daemonOwn", fn := fun _ => fun
  | [d1, d2, d3, d4] => { results := [.lit (.bool false)], args := [d1, d2, d3, d4] }
  | _ => none }
def DaemonOwnWrongFalsely : Prop := daemonOwnRow.holds Try.pinned (OpenSpec.ofChange daemonOwnWrong)

/-- 'waywardenlaw3.DaemonSilent': WHATEVER THE INPUT: true; the input reads as it did. -/
def daemonSilentSpec : ChangeSpec := { name := "daemonSilent", fn := fun _ => fun
  | [d1, d2, d3, d4] => { results := [.lit (.bool true)], args := [d1, d2, d3, d4] }
  | _ => none }
def daemonSilentRow : OpenClaim := { program := "ytfglidaicjjpfaa", sum := "c5ea03ac0db38dcff31a06f7f6c0b9108f4d49f9ad6cf1ec8913bd5e879307f5", func := "waywarden/waywardenlaw3.DaemonSilent", spec := "daemonSilent", inPlace := ["slices.overlaps[waywarden/rib.told]"], unfollowed := true, recurses := true, plainKeys := false, apart := false }
def DaemonSilentSaid : Prop := daemonSilentRow.holds Try.pinned (OpenSpec.ofChange daemonSilentSpec)

/-- ITS FALSE NEIGHBOUR: 'it returns false'. Refute it at one input. -/
def daemonSilentWrong : ChangeSpec := { name := "daemonSilent", fn := fun _ => fun
  | [d1, d2, d3, d4] => { results := [.lit (.bool false)], args := [d1, d2, d3, d4] }
  | _ => none }
def DaemonSilentWrongFalsely : Prop := daemonSilentRow.holds Try.pinned (OpenSpec.ofChange daemonSilentWrong)

/-- 'waywardenlaw3.DaemonDown': WHATEVER THE INPUT: true; the input reads as it did. -/
def daemonDownSpec : ChangeSpec := { name := "daemonDown", fn := fun _ => fun
  | [d1, d2, d3] => { results := [.lit (.bool true)], args := [d1, d2, d3] }
  | _ => none }
def daemonDownRow : OpenClaim := { program := "ytfglidaicjjpfaa", sum := "c5ea03ac0db38dcff31a06f7f6c0b9108f4d49f9ad6cf1ec8913bd5e879307f5", func := "waywarden/waywardenlaw3.DaemonDown", spec := "daemonDown", inPlace := ["slices.overlaps[waywarden/rib.told]"], unfollowed := true, recurses := true, plainKeys := false, apart := false }
def DaemonDownSaid : Prop := daemonDownRow.holds Try.pinned (OpenSpec.ofChange daemonDownSpec)

/-- ITS FALSE NEIGHBOUR: 'it returns false'. Refute it at one input. -/
def daemonDownWrong : ChangeSpec := { name := "daemonDown", fn := fun _ => fun
  | [d1, d2, d3] => { results := [.lit (.bool false)], args := [d1, d2, d3] }
  | _ => none }
def DaemonDownWrongFalsely : Prop := daemonDownRow.holds Try.pinned (OpenSpec.ofChange daemonDownWrong)

/-- 'waywardenlaw3.DaemonHears': WHATEVER THE INPUT: true; the input reads as it did. -/
def daemonHearsSpec : ChangeSpec := { name := "daemonHears", fn := fun _ => fun
  | [d1, d2, d3] => { results := [.lit (.bool true)], args := [d1, d2, d3] }
  | _ => none }
def daemonHearsRow : OpenClaim := { program := "ytfglidaicjjpfaa", sum := "c5ea03ac0db38dcff31a06f7f6c0b9108f4d49f9ad6cf1ec8913bd5e879307f5", func := "waywarden/waywardenlaw3.DaemonHears", spec := "daemonHears", inPlace := ["slices.overlaps[waywarden/rib.told]"], unfollowed := true, recurses := true, plainKeys := false, apart := false }
def DaemonHearsSaid : Prop := daemonHearsRow.holds Try.pinned (OpenSpec.ofChange daemonHearsSpec)

/-- ITS FALSE NEIGHBOUR: 'it returns false'. Refute it at one input. -/
def daemonHearsWrong : ChangeSpec := { name := "daemonHears", fn := fun _ => fun
  | [d1, d2, d3] => { results := [.lit (.bool false)], args := [d1, d2, d3] }
  | _ => none }
def DaemonHearsWrongFalsely : Prop := daemonHearsRow.holds Try.pinned (OpenSpec.ofChange daemonHearsWrong)

/- THE SECOND FORM. 'bulk': how many values and letters a reading holds, each counted each time it is reached (what is shared counts as often as it is met; a slice's spare places count too). A statement '..UptoSaid' is the law's where the arguments, and the package variables that the reading takes, are together of bulk at most 1048576: NARROWER than '..Said'. Prove '..Said' where nothing that the law and all that it calls make is longer than what came in: it says more and counts as full. Else prove '..UptoSaid'. A law counts once. -/
mutual
def uptoBulk {H : Type} : DataW H → Nat
  | .lit (.string bytes) => bytes.length + 1
  | .lit _ => 1
  | .nil => 1
  | .ptr d => uptoBulk d + 1
  | .slice elems spare => uptoBulkAll elems + uptoBulkAll spare + 1
  | .agg parts => uptoBulkAll parts + 1
  | .iface _ d => uptoBulk d + 1
  | .map entries => uptoBulkEntries entries + 1
  | .held _ => 1
def uptoBulkAll {H : Type} : List (DataW H) → Nat
  | [] => 0
  | d :: r => uptoBulk d + uptoBulkAll r
def uptoBulkEntries {H : Type} : List (Lit × DataW H) → Nat
  | [] => 0
  | x :: r => uptoBulkEntry x + uptoBulkEntries r
def uptoBulkEntry {H : Type} : Lit × DataW H → Nat
  | (.string bytes, d) => bytes.length + uptoBulk d + 1
  | (_, d) => uptoBulk d + 1
 end
def uptoSmall : (H : Type) → List (DataW H) → Bool := fun _ ds => decide (uptoBulkAll ds ≤ 1048576)
def OpenSpec.upto (s : _root_.Go.ChangeSpec) : _root_.Go.OpenSpec := { _root_.Go.OpenSpec.ofChange s with cond := some uptoSmall }

/-- 'waywardentop.TopBest', WHERE WHAT IT READS IS OF BULK AT MOST 1048576: true; the input reads as it did. -/
def topBestUptoRow : OpenClaim := { program := "ytfglidaicjjpfaa", sum := "c5ea03ac0db38dcff31a06f7f6c0b9108f4d49f9ad6cf1ec8913bd5e879307f5", func := "waywarden/waywardentop.TopBest", spec := "topBest", inPlace := ["slices.overlaps[waywarden/rib.told]"], unfollowed := true, recurses := true, plainKeys := false, apart := false, narrowed := true }
def TopBestUptoSaid : Prop := topBestUptoRow.holds Try.pinned (OpenSpec.upto topBestSpec)

/-- 'waywardenlaw7.DaemonOwn', WHERE WHAT IT READS IS OF BULK AT MOST 1048576: true; the input reads as it did. -/
def daemonOwnUptoRow : OpenClaim := { program := "ytfglidaicjjpfaa", sum := "c5ea03ac0db38dcff31a06f7f6c0b9108f4d49f9ad6cf1ec8913bd5e879307f5", func := "waywarden/waywardenlaw7.DaemonOwn", spec := "daemonOwn", inPlace := ["slices.overlaps[waywarden/rib.told]"], unfollowed := true, recurses := true, plainKeys := false, apart := false, narrowed := true }
def DaemonOwnUptoSaid : Prop := daemonOwnUptoRow.holds Try.pinned (OpenSpec.upto daemonOwnSpec)

/-- 'waywardenlaw3.DaemonSilent', WHERE WHAT IT READS IS OF BULK AT MOST 1048576: true; the input reads as it did. -/
def daemonSilentUptoRow : OpenClaim := { program := "ytfglidaicjjpfaa", sum := "c5ea03ac0db38dcff31a06f7f6c0b9108f4d49f9ad6cf1ec8913bd5e879307f5", func := "waywarden/waywardenlaw3.DaemonSilent", spec := "daemonSilent", inPlace := ["slices.overlaps[waywarden/rib.told]"], unfollowed := true, recurses := true, plainKeys := false, apart := false, narrowed := true }
def DaemonSilentUptoSaid : Prop := daemonSilentUptoRow.holds Try.pinned (OpenSpec.upto daemonSilentSpec)

/-- 'waywardenlaw3.DaemonDown', WHERE WHAT IT READS IS OF BULK AT MOST 1048576: true; the input reads as it did. -/
def daemonDownUptoRow : OpenClaim := { program := "ytfglidaicjjpfaa", sum := "c5ea03ac0db38dcff31a06f7f6c0b9108f4d49f9ad6cf1ec8913bd5e879307f5", func := "waywarden/waywardenlaw3.DaemonDown", spec := "daemonDown", inPlace := ["slices.overlaps[waywarden/rib.told]"], unfollowed := true, recurses := true, plainKeys := false, apart := false, narrowed := true }
def DaemonDownUptoSaid : Prop := daemonDownUptoRow.holds Try.pinned (OpenSpec.upto daemonDownSpec)

/-- 'waywardenlaw3.DaemonHears', WHERE WHAT IT READS IS OF BULK AT MOST 1048576: true; the input reads as it did. -/
def daemonHearsUptoRow : OpenClaim := { program := "ytfglidaicjjpfaa", sum := "c5ea03ac0db38dcff31a06f7f6c0b9108f4d49f9ad6cf1ec8913bd5e879307f5", func := "waywarden/waywardenlaw3.DaemonHears", spec := "daemonHears", inPlace := ["slices.overlaps[waywarden/rib.told]"], unfollowed := true, recurses := true, plainKeys := false, apart := false, narrowed := true }
def DaemonHearsUptoSaid : Prop := daemonHearsUptoRow.holds Try.pinned (OpenSpec.upto daemonHearsSpec)

end Rows
end Go.Proofs.Ytfglidaicjjpfaa
