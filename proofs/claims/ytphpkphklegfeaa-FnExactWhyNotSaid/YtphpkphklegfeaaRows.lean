/-
  No cell of these rows narrows 'for every input' (looked for: loops, veiled, ifaces, maps, wideKeys, modest, calm, conditions, laid).
  DERIVED. THE GIVEN ROWS OF THIS SEAT. 4 by the template 'for every input the law returns true; each argument reads behind the call as it read before'; 0 by the template 'total and deterministic' (their statements: YtphpkphklegfeaaTotals.lean).
  GIVEN WITH THE SEED: the statements are not yours to turn. If you find one false, say at which input.
  Laid BY PROGRAM, IN A SANDBOX (cutbox-rows.mjs): the forced cells as the released guide's own fill.sh prints them over the translation 119f4d35b4202abc… (all of the seat's roots in one cut). By AI agents, Wed Nov 11 2026. No macro, syntax, notation, axiom, sorry.
-/
import Derived.Test.YtphpkphklegfeaaChecked
import GoSem.Claim
import GoSem.ClaimJoined
import GoSem.ClaimMapViews
import Derived.JoinedTies
import Derived.KernelRfl
namespace Go.Proofs.Ytphpkphklegfeaa
/- THE CELL 'sum', in the pinned program and in every row, IS THE sha256 OF THE DUMP (.gsa) THAT YtphpkphklegfeaaProg.lean LOADS. Nothing in Lean hashes anything: it is a label: what it is worth is what the hold of that sum in a sandbox is worth. -/
noncomputable def Try.pinned : Pinned := { name := "ytphpkphklegfeaa", sum := "119f4d35b4202abcad9ddb8532d5264db39b0e7ad62ef4ce6bdb6432a1edafe7", checked := Try.checked }
namespace Rows
def none {H : Type} : Left H := { results := [], args := [] }

/-- 'laws.FnExactFrameOk': WHATEVER THE INPUT: true; the input reads as it did. -/
def fnExactFrameOkSpec : ChangeSpec := { name := "fnExactFrameOk", fn := fun _ => fun
  | [d1, d2] => { results := [.lit (.bool true)], args := [d1, d2] }
  | _ => none }
def fnExactFrameOkRow : OpenClaim := { program := "ytphpkphklegfeaa", sum := "119f4d35b4202abcad9ddb8532d5264db39b0e7ad62ef4ce6bdb6432a1edafe7", func := "loop.example/signalbox/laws.FnExactFrameOk", spec := "fnExactFrameOk", unfollowed := true, recurses := true, apart := false }
def FnExactFrameOkSaid : Prop := fnExactFrameOkRow.holds Try.pinned (OpenSpec.ofChange fnExactFrameOkSpec)

/-- ITS FALSE NEIGHBOUR: 'it returns false'. Refute it at one input. -/
def fnExactFrameOkWrong : ChangeSpec := { name := "fnExactFrameOk", fn := fun _ => fun
  | [d1, d2] => { results := [.lit (.bool false)], args := [d1, d2] }
  | _ => none }
def FnExactFrameOkWrongFalsely : Prop := fnExactFrameOkRow.holds Try.pinned (OpenSpec.ofChange fnExactFrameOkWrong)

/-- 'laws.FnExactProved': WHATEVER THE INPUT: true; the input reads as it did. -/
def fnExactProvedSpec : ChangeSpec := { name := "fnExactProved", fn := fun _ => fun
  | [d1, d2, d3] => { results := [.lit (.bool true)], args := [d1, d2, d3] }
  | _ => none }
def fnExactProvedRow : OpenClaim := { program := "ytphpkphklegfeaa", sum := "119f4d35b4202abcad9ddb8532d5264db39b0e7ad62ef4ce6bdb6432a1edafe7", func := "loop.example/signalbox/laws.FnExactProved", spec := "fnExactProved", unfollowed := true, recurses := true, apart := false }
def FnExactProvedSaid : Prop := fnExactProvedRow.holds Try.pinned (OpenSpec.ofChange fnExactProvedSpec)

/-- ITS FALSE NEIGHBOUR: 'it returns false'. Refute it at one input. -/
def fnExactProvedWrong : ChangeSpec := { name := "fnExactProved", fn := fun _ => fun
  | [d1, d2, d3] => { results := [.lit (.bool false)], args := [d1, d2, d3] }
  | _ => none }
def FnExactProvedWrongFalsely : Prop := fnExactProvedRow.holds Try.pinned (OpenSpec.ofChange fnExactProvedWrong)

/-- 'laws.FnExactLockedBy': WHATEVER THE INPUT: true; the input reads as it did. -/
def fnExactLockedBySpec : ChangeSpec := { name := "fnExactLockedBy", fn := fun _ => fun
  | [d1, d2, d3] => { results := [.lit (.bool true)], args := [d1, d2, d3] }
  | _ => none }
def fnExactLockedByRow : OpenClaim := { program := "ytphpkphklegfeaa", sum := "119f4d35b4202abcad9ddb8532d5264db39b0e7ad62ef4ce6bdb6432a1edafe7", func := "loop.example/signalbox/laws.FnExactLockedBy", spec := "fnExactLockedBy", unfollowed := true, recurses := true, apart := false }
def FnExactLockedBySaid : Prop := fnExactLockedByRow.holds Try.pinned (OpenSpec.ofChange fnExactLockedBySpec)

/-- ITS FALSE NEIGHBOUR: 'it returns false'. Refute it at one input. -/
def fnExactLockedByWrong : ChangeSpec := { name := "fnExactLockedBy", fn := fun _ => fun
  | [d1, d2, d3] => { results := [.lit (.bool false)], args := [d1, d2, d3] }
  | _ => none }
def FnExactLockedByWrongFalsely : Prop := fnExactLockedByRow.holds Try.pinned (OpenSpec.ofChange fnExactLockedByWrong)

/-- 'laws.FnExactWhyNot': WHATEVER THE INPUT: true; the input reads as it did. -/
def fnExactWhyNotSpec : ChangeSpec := { name := "fnExactWhyNot", fn := fun _ => fun
  | [d1, d2, d3] => { results := [.lit (.bool true)], args := [d1, d2, d3] }
  | _ => none }
def fnExactWhyNotRow : OpenClaim := { program := "ytphpkphklegfeaa", sum := "119f4d35b4202abcad9ddb8532d5264db39b0e7ad62ef4ce6bdb6432a1edafe7", func := "loop.example/signalbox/laws.FnExactWhyNot", spec := "fnExactWhyNot", unfollowed := true, recurses := true, apart := false }
def FnExactWhyNotSaid : Prop := fnExactWhyNotRow.holds Try.pinned (OpenSpec.ofChange fnExactWhyNotSpec)

/-- ITS FALSE NEIGHBOUR: 'it returns false'. Refute it at one input. -/
def fnExactWhyNotWrong : ChangeSpec := { name := "fnExactWhyNot", fn := fun _ => fun
  | [d1, d2, d3] => { results := [.lit (.bool false)], args := [d1, d2, d3] }
  | _ => none }
def FnExactWhyNotWrongFalsely : Prop := fnExactWhyNotRow.holds Try.pinned (OpenSpec.ofChange fnExactWhyNotWrong)

/- THE SECOND FORM. 'bulk': how many values and letters a reading holds, each counted each time it is reached (what is shared counts as often as it is met; a slice's spare places count too). A statement '..UptoSaid' is the law's where the arguments, and the package variables that the reading takes, are together of bulk at most 1048576: NARROWER than '..Said'. Prove '..Said' where nothing that the law and all that it calls make is longer than what came in: it says more and counts as full. Else prove '..UptoSaid'. A law counts once. -/
mutual
def uptoBulk {H : Type} : DataW H → Nat
  | .lit (.string bytes) => bytes.length + 1
  | .lit _ => 1
  | .nil => 1
  | .ptr d => uptoBulk d + 1
  | .slice elems spare => uptoBulkAll elems + uptoBulkAll spare + 1
  | .agg parts => uptoBulkAll parts + 1
  | .iface _ d => uptoBulk d + 1
  | .map entries => uptoBulkEntries entries + 1
  | .held _ => 1
def uptoBulkAll {H : Type} : List (DataW H) → Nat
  | [] => 0
  | d :: r => uptoBulk d + uptoBulkAll r
def uptoBulkEntries {H : Type} : List (Lit × DataW H) → Nat
  | [] => 0
  | x :: r => uptoBulkEntry x + uptoBulkEntries r
def uptoBulkEntry {H : Type} : Lit × DataW H → Nat
  | (.string bytes, d) => bytes.length + uptoBulk d + 1
  | (_, d) => uptoBulk d + 1
 end
def uptoSmall : (H : Type) → List (DataW H) → Bool := fun _ ds => decide (uptoBulkAll ds ≤ 1048576)
def OpenSpec.upto (s : _root_.Go.ChangeSpec) : _root_.Go.OpenSpec := { _root_.Go.OpenSpec.ofChange s with cond := some uptoSmall }

/-- 'laws.FnExactFrameOk', WHERE WHAT IT READS IS OF BULK AT MOST 1048576: true; the input reads as it did. -/
def fnExactFrameOkUptoRow : OpenClaim := { program := "ytphpkphklegfeaa", sum := "119f4d35b4202abcad9ddb8532d5264db39b0e7ad62ef4ce6bdb6432a1edafe7", func := "loop.example/signalbox/laws.FnExactFrameOk", spec := "fnExactFrameOk", unfollowed := true, recurses := true, apart := false, narrowed := true }
def FnExactFrameOkUptoSaid : Prop := fnExactFrameOkUptoRow.holds Try.pinned (OpenSpec.upto fnExactFrameOkSpec)

/-- 'laws.FnExactProved', WHERE WHAT IT READS IS OF BULK AT MOST 1048576: true; the input reads as it did. -/
def fnExactProvedUptoRow : OpenClaim := { program := "ytphpkphklegfeaa", sum := "119f4d35b4202abcad9ddb8532d5264db39b0e7ad62ef4ce6bdb6432a1edafe7", func := "loop.example/signalbox/laws.FnExactProved", spec := "fnExactProved", unfollowed := true, recurses := true, apart := false, narrowed := true }
def FnExactProvedUptoSaid : Prop := fnExactProvedUptoRow.holds Try.pinned (OpenSpec.upto fnExactProvedSpec)

/-- 'laws.FnExactLockedBy', WHERE WHAT IT READS IS OF BULK AT MOST 1048576: true; the input reads as it did. -/
def fnExactLockedByUptoRow : OpenClaim := { program := "ytphpkphklegfeaa", sum := "119f4d35b4202abcad9ddb8532d5264db39b0e7ad62ef4ce6bdb6432a1edafe7", func := "loop.example/signalbox/laws.FnExactLockedBy", spec := "fnExactLockedBy", unfollowed := true, recurses := true, apart := false, narrowed := true }
def FnExactLockedByUptoSaid : Prop := fnExactLockedByUptoRow.holds Try.pinned (OpenSpec.upto fnExactLockedBySpec)

/-- 'laws.FnExactWhyNot', WHERE WHAT IT READS IS OF BULK AT MOST 1048576: true; the input reads as it did. -/
def fnExactWhyNotUptoRow : OpenClaim := { program := "ytphpkphklegfeaa", sum := "119f4d35b4202abcad9ddb8532d5264db39b0e7ad62ef4ce6bdb6432a1edafe7", func := "loop.example/signalbox/laws.FnExactWhyNot", spec := "fnExactWhyNot", unfollowed := true, recurses := true, apart := false, narrowed := true }
def FnExactWhyNotUptoSaid : Prop := fnExactWhyNotUptoRow.holds Try.pinned (OpenSpec.upto fnExactWhyNotSpec)

end Rows
end Go.Proofs.Ytphpkphklegfeaa
