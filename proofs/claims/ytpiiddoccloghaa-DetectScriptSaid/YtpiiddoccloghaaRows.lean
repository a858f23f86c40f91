/-
  No cell of these rows narrows 'for every input' (looked for: loops, veiled, ifaces, maps, wideKeys, modest, calm, conditions, laid).
  DERIVED. THE GIVEN ROWS OF THIS SEAT. 6 by the template 'for every input the law returns true; each argument reads behind the call as it read before'; 0 by the template 'total and deterministic' (their statements: YtpiiddoccloghaaTotals.lean).
  GIVEN WITH THE SEED: the statements are not yours to turn. If you find one false, say at which input.
  Laid BY PROGRAM, IN A SANDBOX (cutbox-rows.mjs): the forced cells as the released guide's own fill.sh prints them over the translation 5b57b0fc4fe71ded… (all of the seat's roots in one cut). By AI agents, Wed Nov 11 2026. No macro, syntax, notation, axiom, sorry.
-/
import Derived.Test.YtpiiddoccloghaaChecked
import GoSem.Claim
import GoSem.ClaimJoined
import GoSem.ClaimMapViews
import Derived.JoinedTies
import Derived.KernelRfl
namespace Go.Proofs.Ytpiiddoccloghaa
/- THE CELL 'sum', in the pinned program and in every row, IS THE sha256 OF THE DUMP (.gsa) THAT YtpiiddoccloghaaProg.lean LOADS. Nothing in Lean hashes anything: it is a label: what it is worth is what the hold of that sum in a sandbox is worth. -/
noncomputable def Try.pinned : Pinned := { name := "ytpiiddoccloghaa", sum := "5b57b0fc4fe71ded71ebbcfe7992822bcc2acd5a8e200d8eda3a6de449784c21", checked := Try.checked }
namespace Rows
def none {H : Type} : Left H := { results := [], args := [] }

/-- 'leafmeshlaw12.DetectKnown': WHATEVER THE INPUT: true; the input reads as it did. -/
def detectKnownSpec : ChangeSpec := { name := "detectKnown", fn := fun _ => fun
  | [] => { results := [.lit (.bool true)], args := [] }
  | _ => none }
def detectKnownRow : OpenClaim := { program := "ytpiiddoccloghaa", sum := "5b57b0fc4fe71ded71ebbcfe7992822bcc2acd5a8e200d8eda3a6de449784c21", func := "leafmesh/leafmeshlaw12.DetectKnown", spec := "detectKnown", unfollowed := true, recurses := true, apart := false }
def DetectKnownSaid : Prop := detectKnownRow.holds Try.pinned (OpenSpec.ofChange detectKnownSpec)

/-- ITS FALSE NEIGHBOUR: 'it returns false'. Refute it at one input. -/
def detectKnownWrong : ChangeSpec := { name := "detectKnown", fn := fun _ => fun
  | [] => { results := [.lit (.bool false)], args := [] }
  | _ => none }
def DetectKnownWrongFalsely : Prop := detectKnownRow.holds Try.pinned (OpenSpec.ofChange detectKnownWrong)

/-- 'leafmeshlaw12.DetectRuns': WHATEVER THE INPUT: true; the input reads as it did. -/
def detectRunsSpec : ChangeSpec := { name := "detectRuns", fn := fun _ => fun
  | [d1, d2, d3] => { results := [.lit (.bool true)], args := [d1, d2, d3] }
  | _ => none }
def detectRunsRow : OpenClaim := { program := "ytpiiddoccloghaa", sum := "5b57b0fc4fe71ded71ebbcfe7992822bcc2acd5a8e200d8eda3a6de449784c21", func := "leafmesh/leafmeshlaw12.DetectRuns", spec := "detectRuns", unfollowed := true, recurses := true, apart := false }
def DetectRunsSaid : Prop := detectRunsRow.holds Try.pinned (OpenSpec.ofChange detectRunsSpec)

/-- ITS FALSE NEIGHBOUR: 'it returns false'. Refute it at one input. -/
def detectRunsWrong : ChangeSpec := { name := "detectRuns", fn := fun _ => fun
  | [d1, d2, d3] => { results := [.lit (.bool false)], args := [d1, d2, d3] }
  | _ => none }
def DetectRunsWrongFalsely : Prop := detectRunsRow.holds Try.pinned (OpenSpec.ofChange detectRunsWrong)

/-- 'leafmeshlaw12.DetectFails': WHATEVER THE INPUT: true; the input reads as it did. -/
def detectFailsSpec : ChangeSpec := { name := "detectFails", fn := fun _ => fun
  | [d1, d2, d3] => { results := [.lit (.bool true)], args := [d1, d2, d3] }
  | _ => none }
def detectFailsRow : OpenClaim := { program := "ytpiiddoccloghaa", sum := "5b57b0fc4fe71ded71ebbcfe7992822bcc2acd5a8e200d8eda3a6de449784c21", func := "leafmesh/leafmeshlaw12.DetectFails", spec := "detectFails", unfollowed := true, recurses := true, apart := false }
def DetectFailsSaid : Prop := detectFailsRow.holds Try.pinned (OpenSpec.ofChange detectFailsSpec)

/-- ITS FALSE NEIGHBOUR: 'it returns false'. Refute it at one input. -/
def detectFailsWrong : ChangeSpec := { name := "detectFails", fn := fun _ => fun
  | [d1, d2, d3] => { results := [.lit (.bool false)], args := [d1, d2, d3] }
  | _ => none }
def DetectFailsWrongFalsely : Prop := detectFailsRow.holds Try.pinned (OpenSpec.ofChange detectFailsWrong)

/-- 'leafmeshlaw12.DetectStays': WHATEVER THE INPUT: true; the input reads as it did. -/
def detectStaysSpec : ChangeSpec := { name := "detectStays", fn := fun _ => fun
  | [d1, d2] => { results := [.lit (.bool true)], args := [d1, d2] }
  | _ => none }
def detectStaysRow : OpenClaim := { program := "ytpiiddoccloghaa", sum := "5b57b0fc4fe71ded71ebbcfe7992822bcc2acd5a8e200d8eda3a6de449784c21", func := "leafmesh/leafmeshlaw12.DetectStays", spec := "detectStays", unfollowed := true, recurses := true, apart := false }
def DetectStaysSaid : Prop := detectStaysRow.holds Try.pinned (OpenSpec.ofChange detectStaysSpec)

/-- ITS FALSE NEIGHBOUR: 'it returns false'. Refute it at one input. -/
def detectStaysWrong : ChangeSpec := { name := "detectStays", fn := fun _ => fun
  | [d1, d2] => { results := [.lit (.bool false)], args := [d1, d2] }
  | _ => none }
def DetectStaysWrongFalsely : Prop := detectStaysRow.holds Try.pinned (OpenSpec.ofChange detectStaysWrong)

/-- 'leafmeshlaw12.DetectScript': WHATEVER THE INPUT: true; the input reads as it did. -/
def detectScriptSpec : ChangeSpec := { name := "detectScript", fn := fun _ => fun
  | [d1, d2] => { results := [.lit (.bool true)], args := [d1, d2] }
  | _ => none }
def detectScriptRow : OpenClaim := { program := "ytpiiddoccloghaa", sum := "5b57b0fc4fe71ded71ebbcfe7992822bcc2acd5a8e200d8eda3a6de449784c21", func := "leafmesh/leafmeshlaw12.DetectScript", spec := "detectScript", unfollowed := true, recurses := true, apart := false }
def DetectScriptSaid : Prop := detectScriptRow.holds Try.pinned (OpenSpec.ofChange detectScriptSpec)

/-- ITS FALSE NEIGHBOUR: 'it returns false'. Refute it at one input. -/
def detectScriptWrong : ChangeSpec := { name := "detectScript", fn := fun _ => fun
  | [d1, d2] => { results := [.lit (.bool false)], args := [d1, d2] }
  | _ => none }
def DetectScriptWrongFalsely : Prop := detectScriptRow.holds Try.pinned (OpenSpec.ofChange detectScriptWrong)

/-- 'leafmeshlaw12.DetectNone': WHATEVER THE INPUT: true; the input reads as it did. -/
def detectNoneSpec : ChangeSpec := { name := "detectNone", fn := fun _ => fun
  | [d1, d2] => { results := [.lit (.bool true)], args := [d1, d2] }
  | _ => none }
def detectNoneRow : OpenClaim := { program := "ytpiiddoccloghaa", sum := "5b57b0fc4fe71ded71ebbcfe7992822bcc2acd5a8e200d8eda3a6de449784c21", func := "leafmesh/leafmeshlaw12.DetectNone", spec := "detectNone", unfollowed := true, recurses := true, apart := false }
def DetectNoneSaid : Prop := detectNoneRow.holds Try.pinned (OpenSpec.ofChange detectNoneSpec)

/-- ITS FALSE NEIGHBOUR: 'it returns false'. Refute it at one input. -/
def detectNoneWrong : ChangeSpec := { name := "detectNone", fn := fun _ => fun
  | [d1, d2] => { results := [.lit (.bool false)], args := [d1, d2] }
  | _ => none }
def DetectNoneWrongFalsely : Prop := detectNoneRow.holds Try.pinned (OpenSpec.ofChange detectNoneWrong)

/- THE SECOND FORM. 'bulk': how many values and letters a reading holds, each counted each time it is reached (what is shared counts as often as it is met; a slice's spare places count too). A statement '..UptoSaid' is the law's where the arguments, and the package variables that the reading takes, are together of bulk at most 1048576: NARROWER than '..Said'. Prove '..Said' where nothing that the law and all that it calls make is longer than what came in: it says more and counts as full. Else prove '..UptoSaid'. A law counts once. -/
mutual
def uptoBulk {H : Type} : DataW H → Nat
  | .lit (.string bytes) => bytes.length + 1
  | .lit _ => 1
  | .nil => 1
  | .ptr d => uptoBulk d + 1
  | .slice elems spare => uptoBulkAll elems + uptoBulkAll spare + 1
  | .agg parts => uptoBulkAll parts + 1
  | .iface _ d => uptoBulk d + 1
  | .map entries => uptoBulkEntries entries + 1
  | .held _ => 1
def uptoBulkAll {H : Type} : List (DataW H) → Nat
  | [] => 0
  | d :: r => uptoBulk d + uptoBulkAll r
def uptoBulkEntries {H : Type} : List (Lit × DataW H) → Nat
  | [] => 0
  | x :: r => uptoBulkEntry x + uptoBulkEntries r
def uptoBulkEntry {H : Type} : Lit × DataW H → Nat
  | (.string bytes, d) => bytes.length + uptoBulk d + 1
  | (_, d) => uptoBulk d + 1
 end
def uptoSmall : (H : Type) → List (DataW H) → Bool := fun _ ds => decide (uptoBulkAll ds ≤ 1048576)
def OpenSpec.upto (s : _root_.Go.ChangeSpec) : _root_.Go.OpenSpec := { _root_.Go.OpenSpec.ofChange s with cond := some uptoSmall }

/-- 'leafmeshlaw12.DetectKnown', WHERE WHAT IT READS IS OF BULK AT MOST 1048576: true; the input reads as it did. -/
def detectKnownUptoRow : OpenClaim := { program := "ytpiiddoccloghaa", sum := "5b57b0fc4fe71ded71ebbcfe7992822bcc2acd5a8e200d8eda3a6de449784c21", func := "leafmesh/leafmeshlaw12.DetectKnown", spec := "detectKnown", unfollowed := true, recurses := true, apart := false, narrowed := true }
def DetectKnownUptoSaid : Prop := detectKnownUptoRow.holds Try.pinned (OpenSpec.upto detectKnownSpec)

/-- 'leafmeshlaw12.DetectRuns', WHERE WHAT IT READS IS OF BULK AT MOST 1048576: true; the input reads as it did. -/
def detectRunsUptoRow : OpenClaim := { program := "ytpiiddoccloghaa", sum := "5b57b0fc4fe71ded71ebbcfe7992822bcc2acd5a8e200d8eda3a6de449784c21", func := "leafmesh/leafmeshlaw12.DetectRuns", spec := "detectRuns", unfollowed := true, recurses := true, apart := false, narrowed := true }
def DetectRunsUptoSaid : Prop := detectRunsUptoRow.holds Try.pinned (OpenSpec.upto detectRunsSpec)

/-- 'leafmeshlaw12.DetectFails', WHERE WHAT IT READS IS OF BULK AT MOST 1048576: true; the input reads as it did. -/
def detectFailsUptoRow : OpenClaim := { program := "ytpiiddoccloghaa", sum := "5b57b0fc4fe71ded71ebbcfe7992822bcc2acd5a8e200d8eda3a6de449784c21", func := "leafmesh/leafmeshlaw12.DetectFails", spec := "detectFails", unfollowed := true, recurses := true, apart := false, narrowed := true }
def DetectFailsUptoSaid : Prop := detectFailsUptoRow.holds Try.pinned (OpenSpec.upto detectFailsSpec)

/-- 'leafmeshlaw12.DetectStays', WHERE WHAT IT READS IS OF BULK AT MOST 1048576: true; the input reads as it did. -/
def detectStaysUptoRow : OpenClaim := { program := "ytpiiddoccloghaa", sum := "5b57b0fc4fe71ded71ebbcfe7992822bcc2acd5a8e200d8eda3a6de449784c21", func := "leafmesh/leafmeshlaw12.DetectStays", spec := "detectStays", unfollowed := true, recurses := true, apart := false, narrowed := true }
def DetectStaysUptoSaid : Prop := detectStaysUptoRow.holds Try.pinned (OpenSpec.upto detectStaysSpec)

/-- 'leafmeshlaw12.DetectScript', WHERE WHAT IT READS IS OF BULK AT MOST 1048576: true; the input reads as it did. -/
def detectScriptUptoRow : OpenClaim := { program := "ytpiiddoccloghaa", sum := "5b57b0fc4fe71ded71ebbcfe7992822bcc2acd5a8e200d8eda3a6de449784c21", func := "leafmesh/leafmeshlaw12.DetectScript", spec := "detectScript", unfollowed := true, recurses := true, apart := false, narrowed := true }
def DetectScriptUptoSaid : Prop := detectScriptUptoRow.holds Try.pinned (OpenSpec.upto detectScriptSpec)

/-- 'leafmeshlaw12.DetectNone', WHERE WHAT IT READS IS OF BULK AT MOST 1048576: true; the input reads as it did. -/
def detectNoneUptoRow : OpenClaim := { program := "ytpiiddoccloghaa", sum := "5b57b0fc4fe71ded71ebbcfe7992822bcc2acd5a8e200d8eda3a6de449784c21", func := "leafmesh/leafmeshlaw12.DetectNone", spec := "detectNone", unfollowed := true, recurses := true, apart := false, narrowed := true }
def DetectNoneUptoSaid : Prop := detectNoneUptoRow.holds Try.pinned (OpenSpec.upto detectNoneSpec)

end Rows
end Go.Proofs.Ytpiiddoccloghaa
