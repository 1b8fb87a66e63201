/-
  No cell of these rows narrows 'for every input' (looked for: loops, veiled, ifaces, maps, wideKeys, modest, calm, conditions, laid).
  DERIVED. THE GIVEN ROWS OF THIS SEAT. 21 by the template 'for every input the law returns true; each argument reads behind the call as it read before'; 0 by the template 'total and deterministic' (their statements: YtkfekjcahepfnaaTotals.lean).
  GIVEN WITH THE SEED: the statements are not yours to turn. If you find one false, say at which input.
  Laid BY PROGRAM, IN A SANDBOX (cutbox-rows.mjs): the forced cells as the released guide's own fill.sh prints them over the translation 3a158cd5ec667454… (all of the seat's roots in one cut). By AI agents, Wed Nov 11 2026. No macro, syntax, notation, axiom, sorry.
-/
import Derived.Test.YtkfekjcahepfnaaChecked
import GoSem.Claim
import GoSem.ClaimJoined
import GoSem.ClaimMapViews
import Derived.JoinedTies
import Derived.KernelRfl
namespace Go.Proofs.Ytkfekjcahepfnaa
/- THE CELL 'sum', in the pinned program and in every row, IS THE sha256 OF THE DUMP (.gsa) THAT YtkfekjcahepfnaaProg.lean LOADS. Nothing in Lean hashes anything: it is a label: what it is worth is what the hold of that sum in a sandbox is worth. -/
noncomputable def Try.pinned : Pinned := { name := "ytkfekjcahepfnaa", sum := "3a158cd5ec6674547d7f4301c027a9fcd34776bed5e28fdda3894e7d386b7825", checked := Try.checked }
namespace Rows
def none {H : Type} : Left H := { results := [], args := [] }

/-- 'laws.FnExactAround': WHATEVER THE INPUT: true; the input reads as it did. -/
def fnExactAroundSpec : ChangeSpec := { name := "fnExactAround", fn := fun _ => fun
  | [d1, d2] => { results := [.lit (.bool true)], args := [d1, d2] }
  | _ => none }
def fnExactAroundRow : OpenClaim := { program := "ytkfekjcahepfnaa", sum := "3a158cd5ec6674547d7f4301c027a9fcd34776bed5e28fdda3894e7d386b7825", func := "loop.example/signalbox/laws.FnExactAround", spec := "fnExactAround", unfollowed := true, recurses := true, plainKeys := false, apart := false }
def FnExactAroundSaid : Prop := fnExactAroundRow.holds Try.pinned (OpenSpec.ofChange fnExactAroundSpec)

/-- ITS FALSE NEIGHBOUR: 'it returns false'. Refute it at one input. -/
def fnExactAroundWrong : ChangeSpec := { name := "fnExactAround", fn := fun _ => fun
  | [d1, d2] => { results := [.lit (.bool false)], args := [d1, d2] }
  | _ => none }
def FnExactAroundWrongFalsely : Prop := fnExactAroundRow.holds Try.pinned (OpenSpec.ofChange fnExactAroundWrong)

/-- 'laws.FnExactBeginCount': WHATEVER THE INPUT: true; the input reads as it did. -/
def fnExactBeginCountSpec : ChangeSpec := { name := "fnExactBeginCount", fn := fun _ => fun
  | [d] => { results := [.lit (.bool true)], args := [d] }
  | _ => none }
def fnExactBeginCountRow : OpenClaim := { program := "ytkfekjcahepfnaa", sum := "3a158cd5ec6674547d7f4301c027a9fcd34776bed5e28fdda3894e7d386b7825", func := "loop.example/signalbox/laws.FnExactBeginCount", spec := "fnExactBeginCount", unfollowed := true, recurses := true, plainKeys := false, apart := false }
def FnExactBeginCountSaid : Prop := fnExactBeginCountRow.holds Try.pinned (OpenSpec.ofChange fnExactBeginCountSpec)

/-- ITS FALSE NEIGHBOUR: 'it returns false'. Refute it at one input. -/
def fnExactBeginCountWrong : ChangeSpec := { name := "fnExactBeginCount", fn := fun _ => fun
  | [d] => { results := [.lit (.bool false)], args := [d] }
  | _ => none }
def FnExactBeginCountWrongFalsely : Prop := fnExactBeginCountRow.holds Try.pinned (OpenSpec.ofChange fnExactBeginCountWrong)

/-- 'laws.FnExactShows': WHATEVER THE INPUT: true; the input reads as it did. -/
def fnExactShowsSpec : ChangeSpec := { name := "fnExactShows", fn := fun _ => fun
  | [d] => { results := [.lit (.bool true)], args := [d] }
  | _ => none }
def fnExactShowsRow : OpenClaim := { program := "ytkfekjcahepfnaa", sum := "3a158cd5ec6674547d7f4301c027a9fcd34776bed5e28fdda3894e7d386b7825", func := "loop.example/signalbox/laws.FnExactShows", spec := "fnExactShows", plainKeys := false, apart := false }
def FnExactShowsSaid : Prop := fnExactShowsRow.holds Try.pinned (OpenSpec.ofChange fnExactShowsSpec)

/-- ITS FALSE NEIGHBOUR: 'it returns false'. Refute it at one input. -/
def fnExactShowsWrong : ChangeSpec := { name := "fnExactShows", fn := fun _ => fun
  | [d] => { results := [.lit (.bool false)], args := [d] }
  | _ => none }
def FnExactShowsWrongFalsely : Prop := fnExactShowsRow.holds Try.pinned (OpenSpec.ofChange fnExactShowsWrong)

/-- 'laws.FnExactWants': WHATEVER THE INPUT: true; the input reads as it did. -/
def fnExactWantsSpec : ChangeSpec := { name := "fnExactWants", fn := fun _ => fun
  | [d] => { results := [.lit (.bool true)], args := [d] }
  | _ => none }
def fnExactWantsRow : OpenClaim := { program := "ytkfekjcahepfnaa", sum := "3a158cd5ec6674547d7f4301c027a9fcd34776bed5e28fdda3894e7d386b7825", func := "loop.example/signalbox/laws.FnExactWants", spec := "fnExactWants", plainKeys := false, apart := false }
def FnExactWantsSaid : Prop := fnExactWantsRow.holds Try.pinned (OpenSpec.ofChange fnExactWantsSpec)

/-- ITS FALSE NEIGHBOUR: 'it returns false'. Refute it at one input. -/
def fnExactWantsWrong : ChangeSpec := { name := "fnExactWants", fn := fun _ => fun
  | [d] => { results := [.lit (.bool false)], args := [d] }
  | _ => none }
def FnExactWantsWrongFalsely : Prop := fnExactWantsRow.holds Try.pinned (OpenSpec.ofChange fnExactWantsWrong)

/-- 'laws.FnExactExclude': WHATEVER THE INPUT: true; the input reads as it did. -/
def fnExactExcludeSpec : ChangeSpec := { name := "fnExactExclude", fn := fun _ => fun
  | [d1, d2] => { results := [.lit (.bool true)], args := [d1, d2] }
  | _ => none }
def fnExactExcludeRow : OpenClaim := { program := "ytkfekjcahepfnaa", sum := "3a158cd5ec6674547d7f4301c027a9fcd34776bed5e28fdda3894e7d386b7825", func := "loop.example/signalbox/laws.FnExactExclude", spec := "fnExactExclude", unfollowed := true, recurses := true, plainKeys := false, apart := false }
def FnExactExcludeSaid : Prop := fnExactExcludeRow.holds Try.pinned (OpenSpec.ofChange fnExactExcludeSpec)

/-- ITS FALSE NEIGHBOUR: 'it returns false'. Refute it at one input. -/
def fnExactExcludeWrong : ChangeSpec := { name := "fnExactExclude", fn := fun _ => fun
  | [d1, d2] => { results := [.lit (.bool false)], args := [d1, d2] }
  | _ => none }
def FnExactExcludeWrongFalsely : Prop := fnExactExcludeRow.holds Try.pinned (OpenSpec.ofChange fnExactExcludeWrong)

/-- 'laws.FnExactPlanOk': WHATEVER THE INPUT: true; the input reads as it did. -/
def fnExactPlanOkSpec : ChangeSpec := { name := "fnExactPlanOk", fn := fun _ => fun
  | [d] => { results := [.lit (.bool true)], args := [d] }
  | _ => none }
def fnExactPlanOkRow : OpenClaim := { program := "ytkfekjcahepfnaa", sum := "3a158cd5ec6674547d7f4301c027a9fcd34776bed5e28fdda3894e7d386b7825", func := "loop.example/signalbox/laws.FnExactPlanOk", spec := "fnExactPlanOk", unfollowed := true, recurses := true, plainKeys := false, apart := false }
def FnExactPlanOkSaid : Prop := fnExactPlanOkRow.holds Try.pinned (OpenSpec.ofChange fnExactPlanOkSpec)

/-- ITS FALSE NEIGHBOUR: 'it returns false'. Refute it at one input. -/
def fnExactPlanOkWrong : ChangeSpec := { name := "fnExactPlanOk", fn := fun _ => fun
  | [d] => { results := [.lit (.bool false)], args := [d] }
  | _ => none }
def FnExactPlanOkWrongFalsely : Prop := fnExactPlanOkRow.holds Try.pinned (OpenSpec.ofChange fnExactPlanOkWrong)

/-- 'laws.FnExactFrameEventOk': WHATEVER THE INPUT: true; the input reads as it did. -/
def fnExactFrameEventOkSpec : ChangeSpec := { name := "fnExactFrameEventOk", fn := fun _ => fun
  | [d1, d2] => { results := [.lit (.bool true)], args := [d1, d2] }
  | _ => none }
def fnExactFrameEventOkRow : OpenClaim := { program := "ytkfekjcahepfnaa", sum := "3a158cd5ec6674547d7f4301c027a9fcd34776bed5e28fdda3894e7d386b7825", func := "loop.example/signalbox/laws.FnExactFrameEventOk", spec := "fnExactFrameEventOk", unfollowed := true, recurses := true, plainKeys := false, apart := false }
def FnExactFrameEventOkSaid : Prop := fnExactFrameEventOkRow.holds Try.pinned (OpenSpec.ofChange fnExactFrameEventOkSpec)

/-- ITS FALSE NEIGHBOUR: 'it returns false'. Refute it at one input. -/
def fnExactFrameEventOkWrong : ChangeSpec := { name := "fnExactFrameEventOk", fn := fun _ => fun
  | [d1, d2] => { results := [.lit (.bool false)], args := [d1, d2] }
  | _ => none }
def FnExactFrameEventOkWrongFalsely : Prop := fnExactFrameEventOkRow.holds Try.pinned (OpenSpec.ofChange fnExactFrameEventOkWrong)

/-- 'laws.FnExactTable': WHATEVER THE INPUT: true; the input reads as it did. -/
def fnExactTableSpec : ChangeSpec := { name := "fnExactTable", fn := fun _ => fun
  | [d] => { results := [.lit (.bool true)], args := [d] }
  | _ => none }
def fnExactTableRow : OpenClaim := { program := "ytkfekjcahepfnaa", sum := "3a158cd5ec6674547d7f4301c027a9fcd34776bed5e28fdda3894e7d386b7825", func := "loop.example/signalbox/laws.FnExactTable", spec := "fnExactTable", unfollowed := true, recurses := true, plainKeys := false, apart := false }
def FnExactTableSaid : Prop := fnExactTableRow.holds Try.pinned (OpenSpec.ofChange fnExactTableSpec)

/-- ITS FALSE NEIGHBOUR: 'it returns false'. Refute it at one input. -/
def fnExactTableWrong : ChangeSpec := { name := "fnExactTable", fn := fun _ => fun
  | [d] => { results := [.lit (.bool false)], args := [d] }
  | _ => none }
def FnExactTableWrongFalsely : Prop := fnExactTableRow.holds Try.pinned (OpenSpec.ofChange fnExactTableWrong)

/-- 'laws.FnExactDoCount': WHATEVER THE INPUT: true; the input reads as it did. -/
def fnExactDoCountSpec : ChangeSpec := { name := "fnExactDoCount", fn := fun _ => fun
  | [d1, d2, d3] => { results := [.lit (.bool true)], args := [d1, d2, d3] }
  | _ => none }
def fnExactDoCountRow : OpenClaim := { program := "ytkfekjcahepfnaa", sum := "3a158cd5ec6674547d7f4301c027a9fcd34776bed5e28fdda3894e7d386b7825", func := "loop.example/signalbox/laws.FnExactDoCount", spec := "fnExactDoCount", unfollowed := true, recurses := true, plainKeys := false, apart := false }
def FnExactDoCountSaid : Prop := fnExactDoCountRow.holds Try.pinned (OpenSpec.ofChange fnExactDoCountSpec)

/-- ITS FALSE NEIGHBOUR: 'it returns false'. Refute it at one input. -/
def fnExactDoCountWrong : ChangeSpec := { name := "fnExactDoCount", fn := fun _ => fun
  | [d1, d2, d3] => { results := [.lit (.bool false)], args := [d1, d2, d3] }
  | _ => none }
def FnExactDoCountWrongFalsely : Prop := fnExactDoCountRow.holds Try.pinned (OpenSpec.ofChange fnExactDoCountWrong)

/-- 'laws.FnExactTrainOk': WHATEVER THE INPUT: true; the input reads as it did. -/
def fnExactTrainOkSpec : ChangeSpec := { name := "fnExactTrainOk", fn := fun _ => fun
  | [d1, d2] => { results := [.lit (.bool true)], args := [d1, d2] }
  | _ => none }
def fnExactTrainOkRow : OpenClaim := { program := "ytkfekjcahepfnaa", sum := "3a158cd5ec6674547d7f4301c027a9fcd34776bed5e28fdda3894e7d386b7825", func := "loop.example/signalbox/laws.FnExactTrainOk", spec := "fnExactTrainOk", plainKeys := false, apart := false }
def FnExactTrainOkSaid : Prop := fnExactTrainOkRow.holds Try.pinned (OpenSpec.ofChange fnExactTrainOkSpec)

/-- ITS FALSE NEIGHBOUR: 'it returns false'. Refute it at one input. -/
def fnExactTrainOkWrong : ChangeSpec := { name := "fnExactTrainOk", fn := fun _ => fun
  | [d1, d2] => { results := [.lit (.bool false)], args := [d1, d2] }
  | _ => none }
def FnExactTrainOkWrongFalsely : Prop := fnExactTrainOkRow.holds Try.pinned (OpenSpec.ofChange fnExactTrainOkWrong)

/-- 'laws.FnExactTail': WHATEVER THE INPUT: true; the input reads as it did. -/
def fnExactTailSpec : ChangeSpec := { name := "fnExactTail", fn := fun _ => fun
  | [d1, d2] => { results := [.lit (.bool true)], args := [d1, d2] }
  | _ => none }
def fnExactTailRow : OpenClaim := { program := "ytkfekjcahepfnaa", sum := "3a158cd5ec6674547d7f4301c027a9fcd34776bed5e28fdda3894e7d386b7825", func := "loop.example/signalbox/laws.FnExactTail", spec := "fnExactTail", plainKeys := false, apart := false }
def FnExactTailSaid : Prop := fnExactTailRow.holds Try.pinned (OpenSpec.ofChange fnExactTailSpec)

/-- ITS FALSE NEIGHBOUR: 'it returns false'. Refute it at one input. -/
def fnExactTailWrong : ChangeSpec := { name := "fnExactTail", fn := fun _ => fun
  | [d1, d2] => { results := [.lit (.bool false)], args := [d1, d2] }
  | _ => none }
def FnExactTailWrongFalsely : Prop := fnExactTailRow.holds Try.pinned (OpenSpec.ofChange fnExactTailWrong)

/-- 'laws.FnExactMeet': WHATEVER THE INPUT: true; the input reads as it did. -/
def fnExactMeetSpec : ChangeSpec := { name := "fnExactMeet", fn := fun _ => fun
  | [d1, d2, d3] => { results := [.lit (.bool true)], args := [d1, d2, d3] }
  | _ => none }
def fnExactMeetRow : OpenClaim := { program := "ytkfekjcahepfnaa", sum := "3a158cd5ec6674547d7f4301c027a9fcd34776bed5e28fdda3894e7d386b7825", func := "loop.example/signalbox/laws.FnExactMeet", spec := "fnExactMeet", plainKeys := false, apart := false }
def FnExactMeetSaid : Prop := fnExactMeetRow.holds Try.pinned (OpenSpec.ofChange fnExactMeetSpec)

/-- ITS FALSE NEIGHBOUR: 'it returns false'. Refute it at one input. -/
def fnExactMeetWrong : ChangeSpec := { name := "fnExactMeet", fn := fun _ => fun
  | [d1, d2, d3] => { results := [.lit (.bool false)], args := [d1, d2, d3] }
  | _ => none }
def FnExactMeetWrongFalsely : Prop := fnExactMeetRow.holds Try.pinned (OpenSpec.ofChange fnExactMeetWrong)

/-- 'laws.FnExactBeginFrame': WHATEVER THE INPUT: true; the input reads as it did. -/
def fnExactBeginFrameSpec : ChangeSpec := { name := "fnExactBeginFrame", fn := fun _ => fun
  | [d] => { results := [.lit (.bool true)], args := [d] }
  | _ => none }
def fnExactBeginFrameRow : OpenClaim := { program := "ytkfekjcahepfnaa", sum := "3a158cd5ec6674547d7f4301c027a9fcd34776bed5e28fdda3894e7d386b7825", func := "loop.example/signalbox/laws.FnExactBeginFrame", spec := "fnExactBeginFrame", unfollowed := true, recurses := true, plainKeys := false, apart := false }
def FnExactBeginFrameSaid : Prop := fnExactBeginFrameRow.holds Try.pinned (OpenSpec.ofChange fnExactBeginFrameSpec)

/-- ITS FALSE NEIGHBOUR: 'it returns false'. Refute it at one input. -/
def fnExactBeginFrameWrong : ChangeSpec := { name := "fnExactBeginFrame", fn := fun _ => fun
  | [d] => { results := [.lit (.bool false)], args := [d] }
  | _ => none }
def FnExactBeginFrameWrongFalsely : Prop := fnExactBeginFrameRow.holds Try.pinned (OpenSpec.ofChange fnExactBeginFrameWrong)

/-- 'laws.FnExactSits': WHATEVER THE INPUT: true; the input reads as it did. -/
def fnExactSitsSpec : ChangeSpec := { name := "fnExactSits", fn := fun _ => fun
  | [d1, d2, d3] => { results := [.lit (.bool true)], args := [d1, d2, d3] }
  | _ => none }
def fnExactSitsRow : OpenClaim := { program := "ytkfekjcahepfnaa", sum := "3a158cd5ec6674547d7f4301c027a9fcd34776bed5e28fdda3894e7d386b7825", func := "loop.example/signalbox/laws.FnExactSits", spec := "fnExactSits", plainKeys := false, apart := false }
def FnExactSitsSaid : Prop := fnExactSitsRow.holds Try.pinned (OpenSpec.ofChange fnExactSitsSpec)

/-- ITS FALSE NEIGHBOUR: 'it returns false'. Refute it at one input. -/
def fnExactSitsWrong : ChangeSpec := { name := "fnExactSits", fn := fun _ => fun
  | [d1, d2, d3] => { results := [.lit (.bool false)], args := [d1, d2, d3] }
  | _ => none }
def FnExactSitsWrongFalsely : Prop := fnExactSitsRow.holds Try.pinned (OpenSpec.ofChange fnExactSitsWrong)

/-- 'laws.FnExactPlace': WHATEVER THE INPUT: true; the input reads as it did. -/
def fnExactPlaceSpec : ChangeSpec := { name := "fnExactPlace", fn := fun _ => fun
  | [d1, d2, d3, d4] => { results := [.lit (.bool true)], args := [d1, d2, d3, d4] }
  | _ => none }
def fnExactPlaceRow : OpenClaim := { program := "ytkfekjcahepfnaa", sum := "3a158cd5ec6674547d7f4301c027a9fcd34776bed5e28fdda3894e7d386b7825", func := "loop.example/signalbox/laws.FnExactPlace", spec := "fnExactPlace", plainKeys := false, apart := false }
def FnExactPlaceSaid : Prop := fnExactPlaceRow.holds Try.pinned (OpenSpec.ofChange fnExactPlaceSpec)

/-- ITS FALSE NEIGHBOUR: 'it returns false'. Refute it at one input. -/
def fnExactPlaceWrong : ChangeSpec := { name := "fnExactPlace", fn := fun _ => fun
  | [d1, d2, d3, d4] => { results := [.lit (.bool false)], args := [d1, d2, d3, d4] }
  | _ => none }
def FnExactPlaceWrongFalsely : Prop := fnExactPlaceRow.holds Try.pinned (OpenSpec.ofChange fnExactPlaceWrong)

/-- 'laws.FnExactTurned': WHATEVER THE INPUT: true; the input reads as it did. -/
def fnExactTurnedSpec : ChangeSpec := { name := "fnExactTurned", fn := fun _ => fun
  | [d1, d2] => { results := [.lit (.bool true)], args := [d1, d2] }
  | _ => none }
def fnExactTurnedRow : OpenClaim := { program := "ytkfekjcahepfnaa", sum := "3a158cd5ec6674547d7f4301c027a9fcd34776bed5e28fdda3894e7d386b7825", func := "loop.example/signalbox/laws.FnExactTurned", spec := "fnExactTurned", plainKeys := false, apart := false }
def FnExactTurnedSaid : Prop := fnExactTurnedRow.holds Try.pinned (OpenSpec.ofChange fnExactTurnedSpec)

/-- ITS FALSE NEIGHBOUR: 'it returns false'. Refute it at one input. -/
def fnExactTurnedWrong : ChangeSpec := { name := "fnExactTurned", fn := fun _ => fun
  | [d1, d2] => { results := [.lit (.bool false)], args := [d1, d2] }
  | _ => none }
def FnExactTurnedWrongFalsely : Prop := fnExactTurnedRow.holds Try.pinned (OpenSpec.ofChange fnExactTurnedWrong)

/-- 'laws.FnExactBody': WHATEVER THE INPUT: true; the input reads as it did. -/
def fnExactBodySpec : ChangeSpec := { name := "fnExactBody", fn := fun _ => fun
  | [d1, d2] => { results := [.lit (.bool true)], args := [d1, d2] }
  | _ => none }
def fnExactBodyRow : OpenClaim := { program := "ytkfekjcahepfnaa", sum := "3a158cd5ec6674547d7f4301c027a9fcd34776bed5e28fdda3894e7d386b7825", func := "loop.example/signalbox/laws.FnExactBody", spec := "fnExactBody", plainKeys := false, apart := false }
def FnExactBodySaid : Prop := fnExactBodyRow.holds Try.pinned (OpenSpec.ofChange fnExactBodySpec)

/-- ITS FALSE NEIGHBOUR: 'it returns false'. Refute it at one input. -/
def fnExactBodyWrong : ChangeSpec := { name := "fnExactBody", fn := fun _ => fun
  | [d1, d2] => { results := [.lit (.bool false)], args := [d1, d2] }
  | _ => none }
def FnExactBodyWrongFalsely : Prop := fnExactBodyRow.holds Try.pinned (OpenSpec.ofChange fnExactBodyWrong)

/-- 'laws.FnExactFrameOk': WHATEVER THE INPUT: true; the input reads as it did. -/
def fnExactFrameOkSpec : ChangeSpec := { name := "fnExactFrameOk", fn := fun _ => fun
  | [d1, d2] => { results := [.lit (.bool true)], args := [d1, d2] }
  | _ => none }
def fnExactFrameOkRow : OpenClaim := { program := "ytkfekjcahepfnaa", sum := "3a158cd5ec6674547d7f4301c027a9fcd34776bed5e28fdda3894e7d386b7825", func := "loop.example/signalbox/laws.FnExactFrameOk", spec := "fnExactFrameOk", unfollowed := true, recurses := true, plainKeys := false, apart := false }
def FnExactFrameOkSaid : Prop := fnExactFrameOkRow.holds Try.pinned (OpenSpec.ofChange fnExactFrameOkSpec)

/-- ITS FALSE NEIGHBOUR: 'it returns false'. Refute it at one input. -/
def fnExactFrameOkWrong : ChangeSpec := { name := "fnExactFrameOk", fn := fun _ => fun
  | [d1, d2] => { results := [.lit (.bool false)], args := [d1, d2] }
  | _ => none }
def FnExactFrameOkWrongFalsely : Prop := fnExactFrameOkRow.holds Try.pinned (OpenSpec.ofChange fnExactFrameOkWrong)

/-- 'laws.FnExactProved': WHATEVER THE INPUT: true; the input reads as it did. -/
def fnExactProvedSpec : ChangeSpec := { name := "fnExactProved", fn := fun _ => fun
  | [d1, d2, d3] => { results := [.lit (.bool true)], args := [d1, d2, d3] }
  | _ => none }
def fnExactProvedRow : OpenClaim := { program := "ytkfekjcahepfnaa", sum := "3a158cd5ec6674547d7f4301c027a9fcd34776bed5e28fdda3894e7d386b7825", func := "loop.example/signalbox/laws.FnExactProved", spec := "fnExactProved", unfollowed := true, recurses := true, plainKeys := false, apart := false }
def FnExactProvedSaid : Prop := fnExactProvedRow.holds Try.pinned (OpenSpec.ofChange fnExactProvedSpec)

/-- ITS FALSE NEIGHBOUR: 'it returns false'. Refute it at one input. -/
def fnExactProvedWrong : ChangeSpec := { name := "fnExactProved", fn := fun _ => fun
  | [d1, d2, d3] => { results := [.lit (.bool false)], args := [d1, d2, d3] }
  | _ => none }
def FnExactProvedWrongFalsely : Prop := fnExactProvedRow.holds Try.pinned (OpenSpec.ofChange fnExactProvedWrong)

/-- 'laws.FnExactLockedBy': WHATEVER THE INPUT: true; the input reads as it did. -/
def fnExactLockedBySpec : ChangeSpec := { name := "fnExactLockedBy", fn := fun _ => fun
  | [d1, d2, d3] => { results := [.lit (.bool true)], args := [d1, d2, d3] }
  | _ => none }
def fnExactLockedByRow : OpenClaim := { program := "ytkfekjcahepfnaa", sum := "3a158cd5ec6674547d7f4301c027a9fcd34776bed5e28fdda3894e7d386b7825", func := "loop.example/signalbox/laws.FnExactLockedBy", spec := "fnExactLockedBy", unfollowed := true, recurses := true, plainKeys := false, apart := false }
def FnExactLockedBySaid : Prop := fnExactLockedByRow.holds Try.pinned (OpenSpec.ofChange fnExactLockedBySpec)

/-- ITS FALSE NEIGHBOUR: 'it returns false'. Refute it at one input. -/
def fnExactLockedByWrong : ChangeSpec := { name := "fnExactLockedBy", fn := fun _ => fun
  | [d1, d2, d3] => { results := [.lit (.bool false)], args := [d1, d2, d3] }
  | _ => none }
def FnExactLockedByWrongFalsely : Prop := fnExactLockedByRow.holds Try.pinned (OpenSpec.ofChange fnExactLockedByWrong)

/-- 'laws.FnExactWhyNot': WHATEVER THE INPUT: true; the input reads as it did. -/
def fnExactWhyNotSpec : ChangeSpec := { name := "fnExactWhyNot", fn := fun _ => fun
  | [d1, d2, d3] => { results := [.lit (.bool true)], args := [d1, d2, d3] }
  | _ => none }
def fnExactWhyNotRow : OpenClaim := { program := "ytkfekjcahepfnaa", sum := "3a158cd5ec6674547d7f4301c027a9fcd34776bed5e28fdda3894e7d386b7825", func := "loop.example/signalbox/laws.FnExactWhyNot", spec := "fnExactWhyNot", unfollowed := true, recurses := true, plainKeys := false, apart := false }
def FnExactWhyNotSaid : Prop := fnExactWhyNotRow.holds Try.pinned (OpenSpec.ofChange fnExactWhyNotSpec)

/-- ITS FALSE NEIGHBOUR: 'it returns false'. Refute it at one input. -/
def fnExactWhyNotWrong : ChangeSpec := { name := "fnExactWhyNot", fn := fun _ => fun
  | [d1, d2, d3] => { results := [.lit (.bool false)], args := [d1, d2, d3] }
  | _ => none }
def FnExactWhyNotWrongFalsely : Prop := fnExactWhyNotRow.holds Try.pinned (OpenSpec.ofChange fnExactWhyNotWrong)

/- THE SECOND FORM. 'bulk': how many values and letters a reading holds, each counted each time it is reached (what is shared counts as often as it is met; a slice's spare places count too). A statement '..UptoSaid' is the law's where the arguments, and the package variables that the reading takes, are together of bulk at most 1048576: NARROWER than '..Said'. Prove '..Said' where nothing that the law and all that it calls make is longer than what came in: it says more and counts as full. Else prove '..UptoSaid'. A law counts once. -/
mutual
def uptoBulk {H : Type} : DataW H → Nat
  | .lit (.string bytes) => bytes.length + 1
  | .lit _ => 1
  | .nil => 1
  | .ptr d => uptoBulk d + 1
  | .slice elems spare => uptoBulkAll elems + uptoBulkAll spare + 1
  | .agg parts => uptoBulkAll parts + 1
  | .iface _ d => uptoBulk d + 1
  | .map entries => uptoBulkEntries entries + 1
  | .held _ => 1
def uptoBulkAll {H : Type} : List (DataW H) → Nat
  | [] => 0
  | d :: r => uptoBulk d + uptoBulkAll r
def uptoBulkEntries {H : Type} : List (Lit × DataW H) → Nat
  | [] => 0
  | x :: r => uptoBulkEntry x + uptoBulkEntries r
def uptoBulkEntry {H : Type} : Lit × DataW H → Nat
  | (.string bytes, d) => bytes.length + uptoBulk d + 1
  | (_, d) => uptoBulk d + 1
 end
def uptoSmall : (H : Type) → List (DataW H) → Bool := fun _ ds => decide (uptoBulkAll ds ≤ 1048576)
def OpenSpec.upto (s : _root_.Go.ChangeSpec) : _root_.Go.OpenSpec := { _root_.Go.OpenSpec.ofChange s with cond := some uptoSmall }

/-- 'laws.FnExactAround', WHERE WHAT IT READS IS OF BULK AT MOST 1048576: true; the input reads as it did. -/
def fnExactAroundUptoRow : OpenClaim := { program := "ytkfekjcahepfnaa", sum := "3a158cd5ec6674547d7f4301c027a9fcd34776bed5e28fdda3894e7d386b7825", func := "loop.example/signalbox/laws.FnExactAround", spec := "fnExactAround", unfollowed := true, recurses := true, plainKeys := false, apart := false, narrowed := true }
def FnExactAroundUptoSaid : Prop := fnExactAroundUptoRow.holds Try.pinned (OpenSpec.upto fnExactAroundSpec)

/-- 'laws.FnExactBeginCount', WHERE WHAT IT READS IS OF BULK AT MOST 1048576: true; the input reads as it did. -/
def fnExactBeginCountUptoRow : OpenClaim := { program := "ytkfekjcahepfnaa", sum := "3a158cd5ec6674547d7f4301c027a9fcd34776bed5e28fdda3894e7d386b7825", func := "loop.example/signalbox/laws.FnExactBeginCount", spec := "fnExactBeginCount", unfollowed := true, recurses := true, plainKeys := false, apart := false, narrowed := true }
def FnExactBeginCountUptoSaid : Prop := fnExactBeginCountUptoRow.holds Try.pinned (OpenSpec.upto fnExactBeginCountSpec)

/-- 'laws.FnExactShows', WHERE WHAT IT READS IS OF BULK AT MOST 1048576: true; the input reads as it did. -/
def fnExactShowsUptoRow : OpenClaim := { program := "ytkfekjcahepfnaa", sum := "3a158cd5ec6674547d7f4301c027a9fcd34776bed5e28fdda3894e7d386b7825", func := "loop.example/signalbox/laws.FnExactShows", spec := "fnExactShows", plainKeys := false, apart := false, narrowed := true }
def FnExactShowsUptoSaid : Prop := fnExactShowsUptoRow.holds Try.pinned (OpenSpec.upto fnExactShowsSpec)

/-- 'laws.FnExactWants', WHERE WHAT IT READS IS OF BULK AT MOST 1048576: true; the input reads as it did. -/
def fnExactWantsUptoRow : OpenClaim := { program := "ytkfekjcahepfnaa", sum := "3a158cd5ec6674547d7f4301c027a9fcd34776bed5e28fdda3894e7d386b7825", func := "loop.example/signalbox/laws.FnExactWants", spec := "fnExactWants", plainKeys := false, apart := false, narrowed := true }
def FnExactWantsUptoSaid : Prop := fnExactWantsUptoRow.holds Try.pinned (OpenSpec.upto fnExactWantsSpec)

/-- 'laws.FnExactExclude', WHERE WHAT IT READS IS OF BULK AT MOST 1048576: true; the input reads as it did. -/
def fnExactExcludeUptoRow : OpenClaim := { program := "ytkfekjcahepfnaa", sum := "3a158cd5ec6674547d7f4301c027a9fcd34776bed5e28fdda3894e7d386b7825", func := "loop.example/signalbox/laws.FnExactExclude", spec := "fnExactExclude", unfollowed := true, recurses := true, plainKeys := false, apart := false, narrowed := true }
def FnExactExcludeUptoSaid : Prop := fnExactExcludeUptoRow.holds Try.pinned (OpenSpec.upto fnExactExcludeSpec)

/-- 'laws.FnExactPlanOk', WHERE WHAT IT READS IS OF BULK AT MOST 1048576: true; the input reads as it did. -/
def fnExactPlanOkUptoRow : OpenClaim := { program := "ytkfekjcahepfnaa", sum := "3a158cd5ec6674547d7f4301c027a9fcd34776bed5e28fdda3894e7d386b7825", func := "loop.example/signalbox/laws.FnExactPlanOk", spec := "fnExactPlanOk", unfollowed := true, recurses := true, plainKeys := false, apart := false, narrowed := true }
def FnExactPlanOkUptoSaid : Prop := fnExactPlanOkUptoRow.holds Try.pinned (OpenSpec.upto fnExactPlanOkSpec)

/-- 'laws.FnExactFrameEventOk', WHERE WHAT IT READS IS OF BULK AT MOST 1048576: true; the input reads as it did. -/
def fnExactFrameEventOkUptoRow : OpenClaim := { program := "ytkfekjcahepfnaa", sum := "3a158cd5ec6674547d7f4301c027a9fcd34776bed5e28fdda3894e7d386b7825", func := "loop.example/signalbox/laws.FnExactFrameEventOk", spec := "fnExactFrameEventOk", unfollowed := true, recurses := true, plainKeys := false, apart := false, narrowed := true }
def FnExactFrameEventOkUptoSaid : Prop := fnExactFrameEventOkUptoRow.holds Try.pinned (OpenSpec.upto fnExactFrameEventOkSpec)

/-- 'laws.FnExactTable', WHERE WHAT IT READS IS OF BULK AT MOST 1048576: true; the input reads as it did. -/
def fnExactTableUptoRow : OpenClaim := { program := "ytkfekjcahepfnaa", sum := "3a158cd5ec6674547d7f4301c027a9fcd34776bed5e28fdda3894e7d386b7825", func := "loop.example/signalbox/laws.FnExactTable", spec := "fnExactTable", unfollowed := true, recurses := true, plainKeys := false, apart := false, narrowed := true }
def FnExactTableUptoSaid : Prop := fnExactTableUptoRow.holds Try.pinned (OpenSpec.upto fnExactTableSpec)

/-- 'laws.FnExactDoCount', WHERE WHAT IT READS IS OF BULK AT MOST 1048576: true; the input reads as it did. -/
def fnExactDoCountUptoRow : OpenClaim := { program := "ytkfekjcahepfnaa", sum := "3a158cd5ec6674547d7f4301c027a9fcd34776bed5e28fdda3894e7d386b7825", func := "loop.example/signalbox/laws.FnExactDoCount", spec := "fnExactDoCount", unfollowed := true, recurses := true, plainKeys := false, apart := false, narrowed := true }
def FnExactDoCountUptoSaid : Prop := fnExactDoCountUptoRow.holds Try.pinned (OpenSpec.upto fnExactDoCountSpec)

/-- 'laws.FnExactTrainOk', WHERE WHAT IT READS IS OF BULK AT MOST 1048576: true; the input reads as it did. -/
def fnExactTrainOkUptoRow : OpenClaim := { program := "ytkfekjcahepfnaa", sum := "3a158cd5ec6674547d7f4301c027a9fcd34776bed5e28fdda3894e7d386b7825", func := "loop.example/signalbox/laws.FnExactTrainOk", spec := "fnExactTrainOk", plainKeys := false, apart := false, narrowed := true }
def FnExactTrainOkUptoSaid : Prop := fnExactTrainOkUptoRow.holds Try.pinned (OpenSpec.upto fnExactTrainOkSpec)

/-- 'laws.FnExactTail', WHERE WHAT IT READS IS OF BULK AT MOST 1048576: true; the input reads as it did. -/
def fnExactTailUptoRow : OpenClaim := { program := "ytkfekjcahepfnaa", sum := "3a158cd5ec6674547d7f4301c027a9fcd34776bed5e28fdda3894e7d386b7825", func := "loop.example/signalbox/laws.FnExactTail", spec := "fnExactTail", plainKeys := false, apart := false, narrowed := true }
def FnExactTailUptoSaid : Prop := fnExactTailUptoRow.holds Try.pinned (OpenSpec.upto fnExactTailSpec)

/-- 'laws.FnExactMeet', WHERE WHAT IT READS IS OF BULK AT MOST 1048576: true; the input reads as it did. -/
def fnExactMeetUptoRow : OpenClaim := { program := "ytkfekjcahepfnaa", sum := "3a158cd5ec6674547d7f4301c027a9fcd34776bed5e28fdda3894e7d386b7825", func := "loop.example/signalbox/laws.FnExactMeet", spec := "fnExactMeet", plainKeys := false, apart := false, narrowed := true }
def FnExactMeetUptoSaid : Prop := fnExactMeetUptoRow.holds Try.pinned (OpenSpec.upto fnExactMeetSpec)

/-- 'laws.FnExactBeginFrame', WHERE WHAT IT READS IS OF BULK AT MOST 1048576: true; the input reads as it did. -/
def fnExactBeginFrameUptoRow : OpenClaim := { program := "ytkfekjcahepfnaa", sum := "3a158cd5ec6674547d7f4301c027a9fcd34776bed5e28fdda3894e7d386b7825", func := "loop.example/signalbox/laws.FnExactBeginFrame", spec := "fnExactBeginFrame", unfollowed := true, recurses := true, plainKeys := false, apart := false, narrowed := true }
def FnExactBeginFrameUptoSaid : Prop := fnExactBeginFrameUptoRow.holds Try.pinned (OpenSpec.upto fnExactBeginFrameSpec)

/-- 'laws.FnExactSits', WHERE WHAT IT READS IS OF BULK AT MOST 1048576: true; the input reads as it did. -/
def fnExactSitsUptoRow : OpenClaim := { program := "ytkfekjcahepfnaa", sum := "3a158cd5ec6674547d7f4301c027a9fcd34776bed5e28fdda3894e7d386b7825", func := "loop.example/signalbox/laws.FnExactSits", spec := "fnExactSits", plainKeys := false, apart := false, narrowed := true }
def FnExactSitsUptoSaid : Prop := fnExactSitsUptoRow.holds Try.pinned (OpenSpec.upto fnExactSitsSpec)

/-- 'laws.FnExactPlace', WHERE WHAT IT READS IS OF BULK AT MOST 1048576: true; the input reads as it did. -/
def fnExactPlaceUptoRow : OpenClaim := { program := "ytkfekjcahepfnaa", sum := "3a158cd5ec6674547d7f4301c027a9fcd34776bed5e28fdda3894e7d386b7825", func := "loop.example/signalbox/laws.FnExactPlace", spec := "fnExactPlace", plainKeys := false, apart := false, narrowed := true }
def FnExactPlaceUptoSaid : Prop := fnExactPlaceUptoRow.holds Try.pinned (OpenSpec.upto fnExactPlaceSpec)

/-- 'laws.FnExactTurned', WHERE WHAT IT READS IS OF BULK AT MOST 1048576: true; the input reads as it did. -/
def fnExactTurnedUptoRow : OpenClaim := { program := "ytkfekjcahepfnaa", sum := "3a158cd5ec6674547d7f4301c027a9fcd34776bed5e28fdda3894e7d386b7825", func := "loop.example/signalbox/laws.FnExactTurned", spec := "fnExactTurned", plainKeys := false, apart := false, narrowed := true }
def FnExactTurnedUptoSaid : Prop := fnExactTurnedUptoRow.holds Try.pinned (OpenSpec.upto fnExactTurnedSpec)

/-- 'laws.FnExactBody', WHERE WHAT IT READS IS OF BULK AT MOST 1048576: true; the input reads as it did. -/
def fnExactBodyUptoRow : OpenClaim := { program := "ytkfekjcahepfnaa", sum := "3a158cd5ec6674547d7f4301c027a9fcd34776bed5e28fdda3894e7d386b7825", func := "loop.example/signalbox/laws.FnExactBody", spec := "fnExactBody", plainKeys := false, apart := false, narrowed := true }
def FnExactBodyUptoSaid : Prop := fnExactBodyUptoRow.holds Try.pinned (OpenSpec.upto fnExactBodySpec)

/-- 'laws.FnExactFrameOk', WHERE WHAT IT READS IS OF BULK AT MOST 1048576: true; the input reads as it did. -/
def fnExactFrameOkUptoRow : OpenClaim := { program := "ytkfekjcahepfnaa", sum := "3a158cd5ec6674547d7f4301c027a9fcd34776bed5e28fdda3894e7d386b7825", func := "loop.example/signalbox/laws.FnExactFrameOk", spec := "fnExactFrameOk", unfollowed := true, recurses := true, plainKeys := false, apart := false, narrowed := true }
def FnExactFrameOkUptoSaid : Prop := fnExactFrameOkUptoRow.holds Try.pinned (OpenSpec.upto fnExactFrameOkSpec)

/-- 'laws.FnExactProved', WHERE WHAT IT READS IS OF BULK AT MOST 1048576: true; the input reads as it did. -/
def fnExactProvedUptoRow : OpenClaim := { program := "ytkfekjcahepfnaa", sum := "3a158cd5ec6674547d7f4301c027a9fcd34776bed5e28fdda3894e7d386b7825", func := "loop.example/signalbox/laws.FnExactProved", spec := "fnExactProved", unfollowed := true, recurses := true, plainKeys := false, apart := false, narrowed := true }
def FnExactProvedUptoSaid : Prop := fnExactProvedUptoRow.holds Try.pinned (OpenSpec.upto fnExactProvedSpec)

/-- 'laws.FnExactLockedBy', WHERE WHAT IT READS IS OF BULK AT MOST 1048576: true; the input reads as it did. -/
def fnExactLockedByUptoRow : OpenClaim := { program := "ytkfekjcahepfnaa", sum := "3a158cd5ec6674547d7f4301c027a9fcd34776bed5e28fdda3894e7d386b7825", func := "loop.example/signalbox/laws.FnExactLockedBy", spec := "fnExactLockedBy", unfollowed := true, recurses := true, plainKeys := false, apart := false, narrowed := true }
def FnExactLockedByUptoSaid : Prop := fnExactLockedByUptoRow.holds Try.pinned (OpenSpec.upto fnExactLockedBySpec)

/-- 'laws.FnExactWhyNot', WHERE WHAT IT READS IS OF BULK AT MOST 1048576: true; the input reads as it did. -/
def fnExactWhyNotUptoRow : OpenClaim := { program := "ytkfekjcahepfnaa", sum := "3a158cd5ec6674547d7f4301c027a9fcd34776bed5e28fdda3894e7d386b7825", func := "loop.example/signalbox/laws.FnExactWhyNot", spec := "fnExactWhyNot", unfollowed := true, recurses := true, plainKeys := false, apart := false, narrowed := true }
def FnExactWhyNotUptoSaid : Prop := fnExactWhyNotUptoRow.holds Try.pinned (OpenSpec.upto fnExactWhyNotSpec)

end Rows
end Go.Proofs.Ytkfekjcahepfnaa
