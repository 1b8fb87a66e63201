/-
  No cell of these rows narrows 'for every input' (looked for: loops, veiled, ifaces, maps, wideKeys, modest, calm, conditions, laid).
  DERIVED. THE GIVEN ROWS OF THIS SEAT. 3 by the template 'for every input the law returns true; each argument reads behind the call as it read before'; 0 by the template 'total and deterministic' (their statements: YtphpkphklegfeaaGreatTotals.lean).
  GIVEN WITH THE SEED: the statements are not yours to turn. If you find one false, say at which input.
  Laid BY PROGRAM, IN A SANDBOX (cutbox-rows.mjs): the forced cells as the released guide's own fill.sh prints them over the translation 1f24a8663afb3ef0… (all of the seat's roots in one cut). By AI agents, Wed Nov 11 2026. No macro, syntax, notation, axiom, sorry.
-/
import Derived.Test.YtphpkphklegfeaaGreatChecked
import GoSem.Claim
import GoSem.ClaimJoined
import GoSem.ClaimMapViews
import Derived.JoinedTies
import Derived.KernelRfl
namespace Go.Proofs.YtphpkphklegfeaaGreat
/- THE CELL 'sum', in the pinned program and in every row, IS THE sha256 OF THE DUMP (.gsa) THAT YtphpkphklegfeaaGreatProg.lean LOADS. Nothing in Lean hashes anything: it is a label: what it is worth is what the hold of that sum in a sandbox is worth. -/
noncomputable def Tryz.pinned : Pinned := { name := "ytphpkphklegfeaagreat", sum := "1f24a8663afb3ef0a070af77d02a1f980f5f024dea19de9c7d73f31238d4fb15", checked := Tryz.checked }
namespace Rows
def none {H : Type} : Left H := { results := [], args := [] }

/-- 'laws.FnExactPointLock': WHATEVER THE INPUT: true; the input reads as it did. -/
def fnExactPointLockSpec : ChangeSpec := { name := "fnExactPointLock", fn := fun _ => fun
  | [d1, d2, d3] => { results := [.lit (.bool true)], args := [d1, d2, d3] }
  | _ => none }
def fnExactPointLockRow : OpenClaim := { program := "ytphpkphklegfeaagreat", sum := "1f24a8663afb3ef0a070af77d02a1f980f5f024dea19de9c7d73f31238d4fb15", func := "loop.example/signalbox/laws.FnExactPointLock", spec := "fnExactPointLock", unfollowed := true, recurses := true, apart := false }
def FnExactPointLockSaid : Prop := fnExactPointLockRow.holds Tryz.pinned (OpenSpec.ofChange fnExactPointLockSpec)

/-- ITS FALSE NEIGHBOUR: 'it returns false'. Refute it at one input. -/
def fnExactPointLockWrong : ChangeSpec := { name := "fnExactPointLock", fn := fun _ => fun
  | [d1, d2, d3] => { results := [.lit (.bool false)], args := [d1, d2, d3] }
  | _ => none }
def FnExactPointLockWrongFalsely : Prop := fnExactPointLockRow.holds Tryz.pinned (OpenSpec.ofChange fnExactPointLockWrong)

/-- 'laws.FnExactBlocked': WHATEVER THE INPUT: true; the input reads as it did. -/
def fnExactBlockedSpec : ChangeSpec := { name := "fnExactBlocked", fn := fun _ => fun
  | [d1, d2, d3] => { results := [.lit (.bool true)], args := [d1, d2, d3] }
  | _ => none }
def fnExactBlockedRow : OpenClaim := { program := "ytphpkphklegfeaagreat", sum := "1f24a8663afb3ef0a070af77d02a1f980f5f024dea19de9c7d73f31238d4fb15", func := "loop.example/signalbox/laws.FnExactBlocked", spec := "fnExactBlocked", unfollowed := true, recurses := true, apart := false }
def FnExactBlockedSaid : Prop := fnExactBlockedRow.holds Tryz.pinned (OpenSpec.ofChange fnExactBlockedSpec)

/-- ITS FALSE NEIGHBOUR: 'it returns false'. Refute it at one input. -/
def fnExactBlockedWrong : ChangeSpec := { name := "fnExactBlocked", fn := fun _ => fun
  | [d1, d2, d3] => { results := [.lit (.bool false)], args := [d1, d2, d3] }
  | _ => none }
def FnExactBlockedWrongFalsely : Prop := fnExactBlockedRow.holds Tryz.pinned (OpenSpec.ofChange fnExactBlockedWrong)

/-- 'laws.FnExactDoFrame': WHATEVER THE INPUT: true; the input reads as it did. -/
def fnExactDoFrameSpec : ChangeSpec := { name := "fnExactDoFrame", fn := fun _ => fun
  | [d1, d2, d3] => { results := [.lit (.bool true)], args := [d1, d2, d3] }
  | _ => none }
def fnExactDoFrameRow : OpenClaim := { program := "ytphpkphklegfeaagreat", sum := "1f24a8663afb3ef0a070af77d02a1f980f5f024dea19de9c7d73f31238d4fb15", func := "loop.example/signalbox/laws.FnExactDoFrame", spec := "fnExactDoFrame", unfollowed := true, recurses := true, apart := false }
def FnExactDoFrameSaid : Prop := fnExactDoFrameRow.holds Tryz.pinned (OpenSpec.ofChange fnExactDoFrameSpec)

/-- ITS FALSE NEIGHBOUR: 'it returns false'. Refute it at one input. -/
def fnExactDoFrameWrong : ChangeSpec := { name := "fnExactDoFrame", fn := fun _ => fun
  | [d1, d2, d3] => { results := [.lit (.bool false)], args := [d1, d2, d3] }
  | _ => none }
def FnExactDoFrameWrongFalsely : Prop := fnExactDoFrameRow.holds Tryz.pinned (OpenSpec.ofChange fnExactDoFrameWrong)

/- THE SECOND FORM. 'bulk': how many values and letters a reading holds, each counted each time it is reached (what is shared counts as often as it is met; a slice's spare places count too). A statement '..UptoSaid' is the law's where the arguments, and the package variables that the reading takes, are together of bulk at most 1048576: NARROWER than '..Said'. Prove '..Said' where nothing that the law and all that it calls make is longer than what came in: it says more and counts as full. Else prove '..UptoSaid'. A law counts once. -/
mutual
def uptoBulk {H : Type} : DataW H → Nat
  | .lit (.string bytes) => bytes.length + 1
  | .lit _ => 1
  | .nil => 1
  | .ptr d => uptoBulk d + 1
  | .slice elems spare => uptoBulkAll elems + uptoBulkAll spare + 1
  | .agg parts => uptoBulkAll parts + 1
  | .iface _ d => uptoBulk d + 1
  | .map entries => uptoBulkEntries entries + 1
  | .held _ => 1
def uptoBulkAll {H : Type} : List (DataW H) → Nat
  | [] => 0
  | d :: r => uptoBulk d + uptoBulkAll r
def uptoBulkEntries {H : Type} : List (Lit × DataW H) → Nat
  | [] => 0
  | x :: r => uptoBulkEntry x + uptoBulkEntries r
def uptoBulkEntry {H : Type} : Lit × DataW H → Nat
  | (.string bytes, d) => bytes.length + uptoBulk d + 1
  | (_, d) => uptoBulk d + 1
 end
def uptoSmall : (H : Type) → List (DataW H) → Bool := fun _ ds => decide (uptoBulkAll ds ≤ 1048576)
def OpenSpec.upto (s : _root_.Go.ChangeSpec) : _root_.Go.OpenSpec := { _root_.Go.OpenSpec.ofChange s with cond := some uptoSmall }

/-- 'laws.FnExactPointLock', WHERE WHAT IT READS IS OF BULK AT MOST 1048576: true; the input reads as it did. -/
def fnExactPointLockUptoRow : OpenClaim := { program := "ytphpkphklegfeaagreat", sum := "1f24a8663afb3ef0a070af77d02a1f980f5f024dea19de9c7d73f31238d4fb15", func := "loop.example/signalbox/laws.FnExactPointLock", spec := "fnExactPointLock", unfollowed := true, recurses := true, apart := false, narrowed := true }
def FnExactPointLockUptoSaid : Prop := fnExactPointLockUptoRow.holds Tryz.pinned (OpenSpec.upto fnExactPointLockSpec)

/-- 'laws.FnExactBlocked', WHERE WHAT IT READS IS OF BULK AT MOST 1048576: true; the input reads as it did. -/
def fnExactBlockedUptoRow : OpenClaim := { program := "ytphpkphklegfeaagreat", sum := "1f24a8663afb3ef0a070af77d02a1f980f5f024dea19de9c7d73f31238d4fb15", func := "loop.example/signalbox/laws.FnExactBlocked", spec := "fnExactBlocked", unfollowed := true, recurses := true, apart := false, narrowed := true }
def FnExactBlockedUptoSaid : Prop := fnExactBlockedUptoRow.holds Tryz.pinned (OpenSpec.upto fnExactBlockedSpec)

/-- 'laws.FnExactDoFrame', WHERE WHAT IT READS IS OF BULK AT MOST 1048576: true; the input reads as it did. -/
def fnExactDoFrameUptoRow : OpenClaim := { program := "ytphpkphklegfeaagreat", sum := "1f24a8663afb3ef0a070af77d02a1f980f5f024dea19de9c7d73f31238d4fb15", func := "loop.example/signalbox/laws.FnExactDoFrame", spec := "fnExactDoFrame", unfollowed := true, recurses := true, apart := false, narrowed := true }
def FnExactDoFrameUptoSaid : Prop := fnExactDoFrameUptoRow.holds Tryz.pinned (OpenSpec.upto fnExactDoFrameSpec)

end Rows
end Go.Proofs.YtphpkphklegfeaaGreat
