/-
  No cell of these rows narrows 'for every input' (looked for: loops, veiled, ifaces, maps, wideKeys, modest, calm, conditions, laid).
  DERIVED. THE GIVEN ROWS OF THIS SEAT. 12 by the template 'for every input the law returns true; each argument reads behind the call as it read before'; 0 by the template 'total and deterministic' (their statements: YtgpbnbmddffhkaaTotals.lean).
  GIVEN WITH THE SEED: the statements are not yours to turn. If you find one false, say at which input.
  Laid BY PROGRAM, IN A SANDBOX (cutbox-rows.mjs): the forced cells as the released guide's own fill.sh prints them over the translation 28b7bde0e5a59c44… (all of the seat's roots in one cut). By AI agents, Wed Nov 11 2026. No macro, syntax, notation, axiom, sorry.
-/
import Derived.Test.YtgpbnbmddffhkaaChecked
import GoSem.Claim
import GoSem.ClaimJoined
import GoSem.ClaimMapViews
import Derived.JoinedTies
import Derived.KernelRfl
namespace Go.Proofs.Ytgpbnbmddffhkaa
/- THE CELL 'sum', in the pinned program and in every row, IS THE sha256 OF THE DUMP (.gsa) THAT YtgpbnbmddffhkaaProg.lean LOADS. Nothing in Lean hashes anything: it is a label: what it is worth is what the hold of that sum in a sandbox is worth. -/
noncomputable def Try.pinned : Pinned := { name := "ytgpbnbmddffhkaa", sum := "28b7bde0e5a59c446c57c512d15ad31f0de5e4bac716cde04d914ae74f0371a1", checked := Try.checked }
namespace Rows
def none {H : Type} : Left H := { results := [], args := [] }

/-- 'laws.FnExactCountOk': WHATEVER THE INPUT: true; the input reads as it did. -/
def fnExactCountOkSpec : ChangeSpec := { name := "fnExactCountOk", fn := fun _ => fun
  | [d1, d2] => { results := [.lit (.bool true)], args := [d1, d2] }
  | _ => none }
def fnExactCountOkRow : OpenClaim := { program := "ytgpbnbmddffhkaa", sum := "28b7bde0e5a59c446c57c512d15ad31f0de5e4bac716cde04d914ae74f0371a1", func := "loop.example/signalbox/laws.FnExactCountOk", spec := "fnExactCountOk", unfollowed := true, recurses := true, plainKeys := false, apart := false }
def FnExactCountOkSaid : Prop := fnExactCountOkRow.holds Try.pinned (OpenSpec.ofChange fnExactCountOkSpec)

/-- ITS FALSE NEIGHBOUR: 'it returns false'. Refute it at one input. -/
def fnExactCountOkWrong : ChangeSpec := { name := "fnExactCountOk", fn := fun _ => fun
  | [d1, d2] => { results := [.lit (.bool false)], args := [d1, d2] }
  | _ => none }
def FnExactCountOkWrongFalsely : Prop := fnExactCountOkRow.holds Try.pinned (OpenSpec.ofChange fnExactCountOkWrong)

/-- 'laws.FnExactNetOk': WHATEVER THE INPUT: true; the input reads as it did. -/
def fnExactNetOkSpec : ChangeSpec := { name := "fnExactNetOk", fn := fun _ => fun
  | [d] => { results := [.lit (.bool true)], args := [d] }
  | _ => none }
def fnExactNetOkRow : OpenClaim := { program := "ytgpbnbmddffhkaa", sum := "28b7bde0e5a59c446c57c512d15ad31f0de5e4bac716cde04d914ae74f0371a1", func := "loop.example/signalbox/laws.FnExactNetOk", spec := "fnExactNetOk", plainKeys := false, apart := false }
def FnExactNetOkSaid : Prop := fnExactNetOkRow.holds Try.pinned (OpenSpec.ofChange fnExactNetOkSpec)

/-- ITS FALSE NEIGHBOUR: 'it returns false'. Refute it at one input. -/
def fnExactNetOkWrong : ChangeSpec := { name := "fnExactNetOk", fn := fun _ => fun
  | [d] => { results := [.lit (.bool false)], args := [d] }
  | _ => none }
def FnExactNetOkWrongFalsely : Prop := fnExactNetOkRow.holds Try.pinned (OpenSpec.ofChange fnExactNetOkWrong)

/-- 'laws.FnExactExclude': WHATEVER THE INPUT: true; the input reads as it did. -/
def fnExactExcludeSpec : ChangeSpec := { name := "fnExactExclude", fn := fun _ => fun
  | [d1, d2] => { results := [.lit (.bool true)], args := [d1, d2] }
  | _ => none }
def fnExactExcludeRow : OpenClaim := { program := "ytgpbnbmddffhkaa", sum := "28b7bde0e5a59c446c57c512d15ad31f0de5e4bac716cde04d914ae74f0371a1", func := "loop.example/signalbox/laws.FnExactExclude", spec := "fnExactExclude", unfollowed := true, recurses := true, plainKeys := false, apart := false }
def FnExactExcludeSaid : Prop := fnExactExcludeRow.holds Try.pinned (OpenSpec.ofChange fnExactExcludeSpec)

/-- ITS FALSE NEIGHBOUR: 'it returns false'. Refute it at one input. -/
def fnExactExcludeWrong : ChangeSpec := { name := "fnExactExclude", fn := fun _ => fun
  | [d1, d2] => { results := [.lit (.bool false)], args := [d1, d2] }
  | _ => none }
def FnExactExcludeWrongFalsely : Prop := fnExactExcludeRow.holds Try.pinned (OpenSpec.ofChange fnExactExcludeWrong)

/-- 'laws.FnExactLiesOk': WHATEVER THE INPUT: true; the input reads as it did. -/
def fnExactLiesOkSpec : ChangeSpec := { name := "fnExactLiesOk", fn := fun _ => fun
  | [d1, d2] => { results := [.lit (.bool true)], args := [d1, d2] }
  | _ => none }
def fnExactLiesOkRow : OpenClaim := { program := "ytgpbnbmddffhkaa", sum := "28b7bde0e5a59c446c57c512d15ad31f0de5e4bac716cde04d914ae74f0371a1", func := "loop.example/signalbox/laws.FnExactLiesOk", spec := "fnExactLiesOk", plainKeys := false, apart := false }
def FnExactLiesOkSaid : Prop := fnExactLiesOkRow.holds Try.pinned (OpenSpec.ofChange fnExactLiesOkSpec)

/-- ITS FALSE NEIGHBOUR: 'it returns false'. Refute it at one input. -/
def fnExactLiesOkWrong : ChangeSpec := { name := "fnExactLiesOk", fn := fun _ => fun
  | [d1, d2] => { results := [.lit (.bool false)], args := [d1, d2] }
  | _ => none }
def FnExactLiesOkWrongFalsely : Prop := fnExactLiesOkRow.holds Try.pinned (OpenSpec.ofChange fnExactLiesOkWrong)

/-- 'laws.FnExactPlanOk': WHATEVER THE INPUT: true; the input reads as it did. -/
def fnExactPlanOkSpec : ChangeSpec := { name := "fnExactPlanOk", fn := fun _ => fun
  | [d] => { results := [.lit (.bool true)], args := [d] }
  | _ => none }
def fnExactPlanOkRow : OpenClaim := { program := "ytgpbnbmddffhkaa", sum := "28b7bde0e5a59c446c57c512d15ad31f0de5e4bac716cde04d914ae74f0371a1", func := "loop.example/signalbox/laws.FnExactPlanOk", spec := "fnExactPlanOk", unfollowed := true, recurses := true, plainKeys := false, apart := false }
def FnExactPlanOkSaid : Prop := fnExactPlanOkRow.holds Try.pinned (OpenSpec.ofChange fnExactPlanOkSpec)

/-- ITS FALSE NEIGHBOUR: 'it returns false'. Refute it at one input. -/
def fnExactPlanOkWrong : ChangeSpec := { name := "fnExactPlanOk", fn := fun _ => fun
  | [d] => { results := [.lit (.bool false)], args := [d] }
  | _ => none }
def FnExactPlanOkWrongFalsely : Prop := fnExactPlanOkRow.holds Try.pinned (OpenSpec.ofChange fnExactPlanOkWrong)

/-- 'laws.FnExactSignalsOk': WHATEVER THE INPUT: true; the input reads as it did. -/
def fnExactSignalsOkSpec : ChangeSpec := { name := "fnExactSignalsOk", fn := fun _ => fun
  | [d1, d2] => { results := [.lit (.bool true)], args := [d1, d2] }
  | _ => none }
def fnExactSignalsOkRow : OpenClaim := { program := "ytgpbnbmddffhkaa", sum := "28b7bde0e5a59c446c57c512d15ad31f0de5e4bac716cde04d914ae74f0371a1", func := "loop.example/signalbox/laws.FnExactSignalsOk", spec := "fnExactSignalsOk", plainKeys := false, apart := false }
def FnExactSignalsOkSaid : Prop := fnExactSignalsOkRow.holds Try.pinned (OpenSpec.ofChange fnExactSignalsOkSpec)

/-- ITS FALSE NEIGHBOUR: 'it returns false'. Refute it at one input. -/
def fnExactSignalsOkWrong : ChangeSpec := { name := "fnExactSignalsOk", fn := fun _ => fun
  | [d1, d2] => { results := [.lit (.bool false)], args := [d1, d2] }
  | _ => none }
def FnExactSignalsOkWrongFalsely : Prop := fnExactSignalsOkRow.holds Try.pinned (OpenSpec.ofChange fnExactSignalsOkWrong)

/-- 'laws.FnExactFrameEventOk': WHATEVER THE INPUT: true; the input reads as it did. -/
def fnExactFrameEventOkSpec : ChangeSpec := { name := "fnExactFrameEventOk", fn := fun _ => fun
  | [d1, d2] => { results := [.lit (.bool true)], args := [d1, d2] }
  | _ => none }
def fnExactFrameEventOkRow : OpenClaim := { program := "ytgpbnbmddffhkaa", sum := "28b7bde0e5a59c446c57c512d15ad31f0de5e4bac716cde04d914ae74f0371a1", func := "loop.example/signalbox/laws.FnExactFrameEventOk", spec := "fnExactFrameEventOk", unfollowed := true, recurses := true, plainKeys := false, apart := false }
def FnExactFrameEventOkSaid : Prop := fnExactFrameEventOkRow.holds Try.pinned (OpenSpec.ofChange fnExactFrameEventOkSpec)

/-- ITS FALSE NEIGHBOUR: 'it returns false'. Refute it at one input. -/
def fnExactFrameEventOkWrong : ChangeSpec := { name := "fnExactFrameEventOk", fn := fun _ => fun
  | [d1, d2] => { results := [.lit (.bool false)], args := [d1, d2] }
  | _ => none }
def FnExactFrameEventOkWrongFalsely : Prop := fnExactFrameEventOkRow.holds Try.pinned (OpenSpec.ofChange fnExactFrameEventOkWrong)

/-- 'laws.FnExactTrainOk': WHATEVER THE INPUT: true; the input reads as it did. -/
def fnExactTrainOkSpec : ChangeSpec := { name := "fnExactTrainOk", fn := fun _ => fun
  | [d1, d2] => { results := [.lit (.bool true)], args := [d1, d2] }
  | _ => none }
def fnExactTrainOkRow : OpenClaim := { program := "ytgpbnbmddffhkaa", sum := "28b7bde0e5a59c446c57c512d15ad31f0de5e4bac716cde04d914ae74f0371a1", func := "loop.example/signalbox/laws.FnExactTrainOk", spec := "fnExactTrainOk", plainKeys := false, apart := false }
def FnExactTrainOkSaid : Prop := fnExactTrainOkRow.holds Try.pinned (OpenSpec.ofChange fnExactTrainOkSpec)

/-- ITS FALSE NEIGHBOUR: 'it returns false'. Refute it at one input. -/
def fnExactTrainOkWrong : ChangeSpec := { name := "fnExactTrainOk", fn := fun _ => fun
  | [d1, d2] => { results := [.lit (.bool false)], args := [d1, d2] }
  | _ => none }
def FnExactTrainOkWrongFalsely : Prop := fnExactTrainOkRow.holds Try.pinned (OpenSpec.ofChange fnExactTrainOkWrong)

/-- 'laws.FnExactTail': WHATEVER THE INPUT: true; the input reads as it did. -/
def fnExactTailSpec : ChangeSpec := { name := "fnExactTail", fn := fun _ => fun
  | [d1, d2] => { results := [.lit (.bool true)], args := [d1, d2] }
  | _ => none }
def fnExactTailRow : OpenClaim := { program := "ytgpbnbmddffhkaa", sum := "28b7bde0e5a59c446c57c512d15ad31f0de5e4bac716cde04d914ae74f0371a1", func := "loop.example/signalbox/laws.FnExactTail", spec := "fnExactTail", plainKeys := false, apart := false }
def FnExactTailSaid : Prop := fnExactTailRow.holds Try.pinned (OpenSpec.ofChange fnExactTailSpec)

/-- ITS FALSE NEIGHBOUR: 'it returns false'. Refute it at one input. -/
def fnExactTailWrong : ChangeSpec := { name := "fnExactTail", fn := fun _ => fun
  | [d1, d2] => { results := [.lit (.bool false)], args := [d1, d2] }
  | _ => none }
def FnExactTailWrongFalsely : Prop := fnExactTailRow.holds Try.pinned (OpenSpec.ofChange fnExactTailWrong)

/-- 'laws.FnExactMeet': WHATEVER THE INPUT: true; the input reads as it did. -/
def fnExactMeetSpec : ChangeSpec := { name := "fnExactMeet", fn := fun _ => fun
  | [d1, d2, d3] => { results := [.lit (.bool true)], args := [d1, d2, d3] }
  | _ => none }
def fnExactMeetRow : OpenClaim := { program := "ytgpbnbmddffhkaa", sum := "28b7bde0e5a59c446c57c512d15ad31f0de5e4bac716cde04d914ae74f0371a1", func := "loop.example/signalbox/laws.FnExactMeet", spec := "fnExactMeet", plainKeys := false, apart := false }
def FnExactMeetSaid : Prop := fnExactMeetRow.holds Try.pinned (OpenSpec.ofChange fnExactMeetSpec)

/-- ITS FALSE NEIGHBOUR: 'it returns false'. Refute it at one input. -/
def fnExactMeetWrong : ChangeSpec := { name := "fnExactMeet", fn := fun _ => fun
  | [d1, d2, d3] => { results := [.lit (.bool false)], args := [d1, d2, d3] }
  | _ => none }
def FnExactMeetWrongFalsely : Prop := fnExactMeetRow.holds Try.pinned (OpenSpec.ofChange fnExactMeetWrong)

/-- 'laws.FnExactSits': WHATEVER THE INPUT: true; the input reads as it did. -/
def fnExactSitsSpec : ChangeSpec := { name := "fnExactSits", fn := fun _ => fun
  | [d1, d2, d3] => { results := [.lit (.bool true)], args := [d1, d2, d3] }
  | _ => none }
def fnExactSitsRow : OpenClaim := { program := "ytgpbnbmddffhkaa", sum := "28b7bde0e5a59c446c57c512d15ad31f0de5e4bac716cde04d914ae74f0371a1", func := "loop.example/signalbox/laws.FnExactSits", spec := "fnExactSits", plainKeys := false, apart := false }
def FnExactSitsSaid : Prop := fnExactSitsRow.holds Try.pinned (OpenSpec.ofChange fnExactSitsSpec)

/-- ITS FALSE NEIGHBOUR: 'it returns false'. Refute it at one input. -/
def fnExactSitsWrong : ChangeSpec := { name := "fnExactSits", fn := fun _ => fun
  | [d1, d2, d3] => { results := [.lit (.bool false)], args := [d1, d2, d3] }
  | _ => none }
def FnExactSitsWrongFalsely : Prop := fnExactSitsRow.holds Try.pinned (OpenSpec.ofChange fnExactSitsWrong)

/-- 'laws.FnExactFrameOk': WHATEVER THE INPUT: true; the input reads as it did. -/
def fnExactFrameOkSpec : ChangeSpec := { name := "fnExactFrameOk", fn := fun _ => fun
  | [d1, d2] => { results := [.lit (.bool true)], args := [d1, d2] }
  | _ => none }
def fnExactFrameOkRow : OpenClaim := { program := "ytgpbnbmddffhkaa", sum := "28b7bde0e5a59c446c57c512d15ad31f0de5e4bac716cde04d914ae74f0371a1", func := "loop.example/signalbox/laws.FnExactFrameOk", spec := "fnExactFrameOk", unfollowed := true, recurses := true, plainKeys := false, apart := false }
def FnExactFrameOkSaid : Prop := fnExactFrameOkRow.holds Try.pinned (OpenSpec.ofChange fnExactFrameOkSpec)

/-- ITS FALSE NEIGHBOUR: 'it returns false'. Refute it at one input. -/
def fnExactFrameOkWrong : ChangeSpec := { name := "fnExactFrameOk", fn := fun _ => fun
  | [d1, d2] => { results := [.lit (.bool false)], args := [d1, d2] }
  | _ => none }
def FnExactFrameOkWrongFalsely : Prop := fnExactFrameOkRow.holds Try.pinned (OpenSpec.ofChange fnExactFrameOkWrong)

/- THE SECOND FORM. 'bulk': how many values and letters a reading holds, each counted each time it is reached (what is shared counts as often as it is met; a slice's spare places count too). A statement '..UptoSaid' is the law's where the arguments, and the package variables that the reading takes, are together of bulk at most 1048576: NARROWER than '..Said'. Prove '..Said' where nothing that the law and all that it calls make is longer than what came in: it says more and counts as full. Else prove '..UptoSaid'. A law counts once. -/
mutual
def uptoBulk {H : Type} : DataW H → Nat
  | .lit (.string bytes) => bytes.length + 1
  | .lit _ => 1
  | .nil => 1
  | .ptr d => uptoBulk d + 1
  | .slice elems spare => uptoBulkAll elems + uptoBulkAll spare + 1
  | .agg parts => uptoBulkAll parts + 1
  | .iface _ d => uptoBulk d + 1
  | .map entries => uptoBulkEntries entries + 1
  | .held _ => 1
def uptoBulkAll {H : Type} : List (DataW H) → Nat
  | [] => 0
  | d :: r => uptoBulk d + uptoBulkAll r
def uptoBulkEntries {H : Type} : List (Lit × DataW H) → Nat
  | [] => 0
  | x :: r => uptoBulkEntry x + uptoBulkEntries r
def uptoBulkEntry {H : Type} : Lit × DataW H → Nat
  | (.string bytes, d) => bytes.length + uptoBulk d + 1
  | (_, d) => uptoBulk d + 1
 end
def uptoSmall : (H : Type) → List (DataW H) → Bool := fun _ ds => decide (uptoBulkAll ds ≤ 1048576)
def OpenSpec.upto (s : _root_.Go.ChangeSpec) : _root_.Go.OpenSpec := { _root_.Go.OpenSpec.ofChange s with cond := some uptoSmall }

/-- 'laws.FnExactCountOk', WHERE WHAT IT READS IS OF BULK AT MOST 1048576: true; the input reads as it did. -/
def fnExactCountOkUptoRow : OpenClaim := { program := "ytgpbnbmddffhkaa", sum := "28b7bde0e5a59c446c57c512d15ad31f0de5e4bac716cde04d914ae74f0371a1", func := "loop.example/signalbox/laws.FnExactCountOk", spec := "fnExactCountOk", unfollowed := true, recurses := true, plainKeys := false, apart := false, narrowed := true }
def FnExactCountOkUptoSaid : Prop := fnExactCountOkUptoRow.holds Try.pinned (OpenSpec.upto fnExactCountOkSpec)

/-- 'laws.FnExactNetOk', WHERE WHAT IT READS IS OF BULK AT MOST 1048576: true; the input reads as it did. -/
def fnExactNetOkUptoRow : OpenClaim := { program := "ytgpbnbmddffhkaa", sum := "28b7bde0e5a59c446c57c512d15ad31f0de5e4bac716cde04d914ae74f0371a1", func := "loop.example/signalbox/laws.FnExactNetOk", spec := "fnExactNetOk", plainKeys := false, apart := false, narrowed := true }
def FnExactNetOkUptoSaid : Prop := fnExactNetOkUptoRow.holds Try.pinned (OpenSpec.upto fnExactNetOkSpec)

/-- 'laws.FnExactExclude', WHERE WHAT IT READS IS OF BULK AT MOST 1048576: true; the input reads as it did. -/
def fnExactExcludeUptoRow : OpenClaim := { program := "ytgpbnbmddffhkaa", sum := "28b7bde0e5a59c446c57c512d15ad31f0de5e4bac716cde04d914ae74f0371a1", func := "loop.example/signalbox/laws.FnExactExclude", spec := "fnExactExclude", unfollowed := true, recurses := true, plainKeys := false, apart := false, narrowed := true }
def FnExactExcludeUptoSaid : Prop := fnExactExcludeUptoRow.holds Try.pinned (OpenSpec.upto fnExactExcludeSpec)

/-- 'laws.FnExactLiesOk', WHERE WHAT IT READS IS OF BULK AT MOST 1048576: true; the input reads as it did. -/
def fnExactLiesOkUptoRow : OpenClaim := { program := "ytgpbnbmddffhkaa", sum := "28b7bde0e5a59c446c57c512d15ad31f0de5e4bac716cde04d914ae74f0371a1", func := "loop.example/signalbox/laws.FnExactLiesOk", spec := "fnExactLiesOk", plainKeys := false, apart := false, narrowed := true }
def FnExactLiesOkUptoSaid : Prop := fnExactLiesOkUptoRow.holds Try.pinned (OpenSpec.upto fnExactLiesOkSpec)

/-- 'laws.FnExactPlanOk', WHERE WHAT IT READS IS OF BULK AT MOST 1048576: true; the input reads as it did. -/
def fnExactPlanOkUptoRow : OpenClaim := { program := "ytgpbnbmddffhkaa", sum := "28b7bde0e5a59c446c57c512d15ad31f0de5e4bac716cde04d914ae74f0371a1", func := "loop.example/signalbox/laws.FnExactPlanOk", spec := "fnExactPlanOk", unfollowed := true, recurses := true, plainKeys := false, apart := false, narrowed := true }
def FnExactPlanOkUptoSaid : Prop := fnExactPlanOkUptoRow.holds Try.pinned (OpenSpec.upto fnExactPlanOkSpec)

/-- 'laws.FnExactSignalsOk', WHERE WHAT IT READS IS OF BULK AT MOST 1048576: true; the input reads as it did. -/
def fnExactSignalsOkUptoRow : OpenClaim := { program := "ytgpbnbmddffhkaa", sum := "28b7bde0e5a59c446c57c512d15ad31f0de5e4bac716cde04d914ae74f0371a1", func := "loop.example/signalbox/laws.FnExactSignalsOk", spec := "fnExactSignalsOk", plainKeys := false, apart := false, narrowed := true }
def FnExactSignalsOkUptoSaid : Prop := fnExactSignalsOkUptoRow.holds Try.pinned (OpenSpec.upto fnExactSignalsOkSpec)

/-- 'laws.FnExactFrameEventOk', WHERE WHAT IT READS IS OF BULK AT MOST 1048576: true; the input reads as it did. -/
def fnExactFrameEventOkUptoRow : OpenClaim := { program := "ytgpbnbmddffhkaa", sum := "28b7bde0e5a59c446c57c512d15ad31f0de5e4bac716cde04d914ae74f0371a1", func := "loop.example/signalbox/laws.FnExactFrameEventOk", spec := "fnExactFrameEventOk", unfollowed := true, recurses := true, plainKeys := false, apart := false, narrowed := true }
def FnExactFrameEventOkUptoSaid : Prop := fnExactFrameEventOkUptoRow.holds Try.pinned (OpenSpec.upto fnExactFrameEventOkSpec)

/-- 'laws.FnExactTrainOk', WHERE WHAT IT READS IS OF BULK AT MOST 1048576: true; the input reads as it did. -/
def fnExactTrainOkUptoRow : OpenClaim := { program := "ytgpbnbmddffhkaa", sum := "28b7bde0e5a59c446c57c512d15ad31f0de5e4bac716cde04d914ae74f0371a1", func := "loop.example/signalbox/laws.FnExactTrainOk", spec := "fnExactTrainOk", plainKeys := false, apart := false, narrowed := true }
def FnExactTrainOkUptoSaid : Prop := fnExactTrainOkUptoRow.holds Try.pinned (OpenSpec.upto fnExactTrainOkSpec)

/-- 'laws.FnExactTail', WHERE WHAT IT READS IS OF BULK AT MOST 1048576: true; the input reads as it did. -/
def fnExactTailUptoRow : OpenClaim := { program := "ytgpbnbmddffhkaa", sum := "28b7bde0e5a59c446c57c512d15ad31f0de5e4bac716cde04d914ae74f0371a1", func := "loop.example/signalbox/laws.FnExactTail", spec := "fnExactTail", plainKeys := false, apart := false, narrowed := true }
def FnExactTailUptoSaid : Prop := fnExactTailUptoRow.holds Try.pinned (OpenSpec.upto fnExactTailSpec)

/-- 'laws.FnExactMeet', WHERE WHAT IT READS IS OF BULK AT MOST 1048576: true; the input reads as it did. -/
def fnExactMeetUptoRow : OpenClaim := { program := "ytgpbnbmddffhkaa", sum := "28b7bde0e5a59c446c57c512d15ad31f0de5e4bac716cde04d914ae74f0371a1", func := "loop.example/signalbox/laws.FnExactMeet", spec := "fnExactMeet", plainKeys := false, apart := false, narrowed := true }
def FnExactMeetUptoSaid : Prop := fnExactMeetUptoRow.holds Try.pinned (OpenSpec.upto fnExactMeetSpec)

/-- 'laws.FnExactSits', WHERE WHAT IT READS IS OF BULK AT MOST 1048576: true; the input reads as it did. -/
def fnExactSitsUptoRow : OpenClaim := { program := "ytgpbnbmddffhkaa", sum := "28b7bde0e5a59c446c57c512d15ad31f0de5e4bac716cde04d914ae74f0371a1", func := "loop.example/signalbox/laws.FnExactSits", spec := "fnExactSits", plainKeys := false, apart := false, narrowed := true }
def FnExactSitsUptoSaid : Prop := fnExactSitsUptoRow.holds Try.pinned (OpenSpec.upto fnExactSitsSpec)

/-- 'laws.FnExactFrameOk', WHERE WHAT IT READS IS OF BULK AT MOST 1048576: true; the input reads as it did. -/
def fnExactFrameOkUptoRow : OpenClaim := { program := "ytgpbnbmddffhkaa", sum := "28b7bde0e5a59c446c57c512d15ad31f0de5e4bac716cde04d914ae74f0371a1", func := "loop.example/signalbox/laws.FnExactFrameOk", spec := "fnExactFrameOk", unfollowed := true, recurses := true, plainKeys := false, apart := false, narrowed := true }
def FnExactFrameOkUptoSaid : Prop := fnExactFrameOkUptoRow.holds Try.pinned (OpenSpec.upto fnExactFrameOkSpec)

end Rows
end Go.Proofs.Ytgpbnbmddffhkaa
