/-
  No cell of these rows narrows 'for every input' (looked for: loops, veiled, ifaces, maps, wideKeys, modest, calm, conditions, laid).
  DERIVED. THE GIVEN ROWS OF THIS SEAT. 5 by the template 'for every input the law returns true; each argument reads behind the call as it read before'; 0 by the template 'total and deterministic' (their statements: YtjklepgidjimfaaGreatTotals.lean).
  GIVEN WITH THE SEED: the statements are not yours to turn. If you find one false, say at which input.
  Laid BY PROGRAM, IN A SANDBOX (cutbox-rows.mjs): the forced cells as the released guide's own fill.sh prints them over the translation 38e7d979f5be38ef… (all of the seat's roots in one cut). By AI agents, Wed Nov 11 2026. No macro, syntax, notation, axiom, sorry.
-/
import Derived.Test.YtjklepgidjimfaaGreatChecked
import GoSem.Claim
import GoSem.ClaimJoined
import GoSem.ClaimMapViews
import Derived.JoinedTies
import Derived.KernelRfl
namespace Go.Proofs.YtjklepgidjimfaaGreat
/- THE CELL 'sum', in the pinned program and in every row, IS THE sha256 OF THE DUMP (.gsa) THAT YtjklepgidjimfaaGreatProg.lean LOADS. Nothing in Lean hashes anything: it is a label: what it is worth is what the hold of that sum in a sandbox is worth. -/
noncomputable def Tryz.pinned : Pinned := { name := "ytjklepgidjimfaagreat", sum := "38e7d979f5be38eff6381041901d25ea1ac5fcb7a2a564c928fac634e552bd6d", checked := Tryz.checked }
namespace Rows
def none {H : Type} : Left H := { results := [], args := [] }

/-- 'laws.FnExactRoutes': WHATEVER THE INPUT: true; the input reads as it did. -/
def fnExactRoutesSpec : ChangeSpec := { name := "fnExactRoutes", fn := fun _ => fun
  | [d1, d2, d3] => { results := [.lit (.bool true)], args := [d1, d2, d3] }
  | _ => none }
def fnExactRoutesRow : OpenClaim := { program := "ytjklepgidjimfaagreat", sum := "38e7d979f5be38eff6381041901d25ea1ac5fcb7a2a564c928fac634e552bd6d", func := "loop.example/signalbox/laws.FnExactRoutes", spec := "fnExactRoutes", unfollowed := true, recurses := true, plainKeys := false, apart := false }
def FnExactRoutesSaid : Prop := fnExactRoutesRow.holds Tryz.pinned (OpenSpec.ofChange fnExactRoutesSpec)

/-- ITS FALSE NEIGHBOUR: 'it returns false'. Refute it at one input. -/
def fnExactRoutesWrong : ChangeSpec := { name := "fnExactRoutes", fn := fun _ => fun
  | [d1, d2, d3] => { results := [.lit (.bool false)], args := [d1, d2, d3] }
  | _ => none }
def FnExactRoutesWrongFalsely : Prop := fnExactRoutesRow.holds Tryz.pinned (OpenSpec.ofChange fnExactRoutesWrong)

/-- 'laws.FnExactSiteOk': WHATEVER THE INPUT: true; the input reads as it did. -/
def fnExactSiteOkSpec : ChangeSpec := { name := "fnExactSiteOk", fn := fun _ => fun
  | [d] => { results := [.lit (.bool true)], args := [d] }
  | _ => none }
def fnExactSiteOkRow : OpenClaim := { program := "ytjklepgidjimfaagreat", sum := "38e7d979f5be38eff6381041901d25ea1ac5fcb7a2a564c928fac634e552bd6d", func := "loop.example/signalbox/laws.FnExactSiteOk", spec := "fnExactSiteOk", unfollowed := true, recurses := true, plainKeys := false, apart := false }
def FnExactSiteOkSaid : Prop := fnExactSiteOkRow.holds Tryz.pinned (OpenSpec.ofChange fnExactSiteOkSpec)

/-- ITS FALSE NEIGHBOUR: 'it returns false'. Refute it at one input. -/
def fnExactSiteOkWrong : ChangeSpec := { name := "fnExactSiteOk", fn := fun _ => fun
  | [d] => { results := [.lit (.bool false)], args := [d] }
  | _ => none }
def FnExactSiteOkWrongFalsely : Prop := fnExactSiteOkRow.holds Tryz.pinned (OpenSpec.ofChange fnExactSiteOkWrong)

/-- 'laws.FnExactLayoutOf': WHATEVER THE INPUT: true; the input reads as it did. -/
def fnExactLayoutOfSpec : ChangeSpec := { name := "fnExactLayoutOf", fn := fun _ => fun
  | [d] => { results := [.lit (.bool true)], args := [d] }
  | _ => none }
def fnExactLayoutOfRow : OpenClaim := { program := "ytjklepgidjimfaagreat", sum := "38e7d979f5be38eff6381041901d25ea1ac5fcb7a2a564c928fac634e552bd6d", func := "loop.example/signalbox/laws.FnExactLayoutOf", spec := "fnExactLayoutOf", unfollowed := true, recurses := true, plainKeys := false, apart := false }
def FnExactLayoutOfSaid : Prop := fnExactLayoutOfRow.holds Tryz.pinned (OpenSpec.ofChange fnExactLayoutOfSpec)

/-- ITS FALSE NEIGHBOUR: 'it returns false'. Refute it at one input. -/
def fnExactLayoutOfWrong : ChangeSpec := { name := "fnExactLayoutOf", fn := fun _ => fun
  | [d] => { results := [.lit (.bool false)], args := [d] }
  | _ => none }
def FnExactLayoutOfWrongFalsely : Prop := fnExactLayoutOfRow.holds Tryz.pinned (OpenSpec.ofChange fnExactLayoutOfWrong)

/-- 'laws.FnExactWays': WHATEVER THE INPUT: true; the input reads as it did. -/
def fnExactWaysSpec : ChangeSpec := { name := "fnExactWays", fn := fun _ => fun
  | [d] => { results := [.lit (.bool true)], args := [d] }
  | _ => none }
def fnExactWaysRow : OpenClaim := { program := "ytjklepgidjimfaagreat", sum := "38e7d979f5be38eff6381041901d25ea1ac5fcb7a2a564c928fac634e552bd6d", func := "loop.example/signalbox/laws.FnExactWays", spec := "fnExactWays", unfollowed := true, recurses := true, plainKeys := false, apart := false }
def FnExactWaysSaid : Prop := fnExactWaysRow.holds Tryz.pinned (OpenSpec.ofChange fnExactWaysSpec)

/-- ITS FALSE NEIGHBOUR: 'it returns false'. Refute it at one input. -/
def fnExactWaysWrong : ChangeSpec := { name := "fnExactWays", fn := fun _ => fun
  | [d] => { results := [.lit (.bool false)], args := [d] }
  | _ => none }
def FnExactWaysWrongFalsely : Prop := fnExactWaysRow.holds Tryz.pinned (OpenSpec.ofChange fnExactWaysWrong)

/-- 'laws.FnHold': WHATEVER THE INPUT: true; the input reads as it did. -/
def fnHoldSpec : ChangeSpec := { name := "fnHold", fn := fun _ => fun
  | [d] => { results := [.lit (.bool true)], args := [d] }
  | _ => none }
def fnHoldRow : OpenClaim := { program := "ytjklepgidjimfaagreat", sum := "38e7d979f5be38eff6381041901d25ea1ac5fcb7a2a564c928fac634e552bd6d", func := "loop.example/signalbox/laws.FnHold", spec := "fnHold", unfollowed := true, recurses := true, plainKeys := false, apart := false }
def FnHoldSaid : Prop := fnHoldRow.holds Tryz.pinned (OpenSpec.ofChange fnHoldSpec)

/-- ITS FALSE NEIGHBOUR: 'it returns false'. Refute it at one input. -/
def fnHoldWrong : ChangeSpec := { name := "fnHold", fn := fun _ => fun
  | [d] => { results := [.lit (.bool false)], args := [d] }
  | _ => none }
def FnHoldWrongFalsely : Prop := fnHoldRow.holds Tryz.pinned (OpenSpec.ofChange fnHoldWrong)

/- THE SECOND FORM. 'bulk': how many values and letters a reading holds, each counted each time it is reached (what is shared counts as often as it is met; a slice's spare places count too). A statement '..UptoSaid' is the law's where the arguments, and the package variables that the reading takes, are together of bulk at most 1048576: NARROWER than '..Said'. Prove '..Said' where nothing that the law and all that it calls make is longer than what came in: it says more and counts as full. Else prove '..UptoSaid'. A law counts once. -/
mutual
def uptoBulk {H : Type} : DataW H → Nat
  | .lit (.string bytes) => bytes.length + 1
  | .lit _ => 1
  | .nil => 1
  | .ptr d => uptoBulk d + 1
  | .slice elems spare => uptoBulkAll elems + uptoBulkAll spare + 1
  | .agg parts => uptoBulkAll parts + 1
  | .iface _ d => uptoBulk d + 1
  | .map entries => uptoBulkEntries entries + 1
  | .held _ => 1
def uptoBulkAll {H : Type} : List (DataW H) → Nat
  | [] => 0
  | d :: r => uptoBulk d + uptoBulkAll r
def uptoBulkEntries {H : Type} : List (Lit × DataW H) → Nat
  | [] => 0
  | x :: r => uptoBulkEntry x + uptoBulkEntries r
def uptoBulkEntry {H : Type} : Lit × DataW H → Nat
  | (.string bytes, d) => bytes.length + uptoBulk d + 1
  | (_, d) => uptoBulk d + 1
 end
def uptoSmall : (H : Type) → List (DataW H) → Bool := fun _ ds => decide (uptoBulkAll ds ≤ 1048576)
def OpenSpec.upto (s : _root_.Go.ChangeSpec) : _root_.Go.OpenSpec := { _root_.Go.OpenSpec.ofChange s with cond := some uptoSmall }

/-- 'laws.FnExactRoutes', WHERE WHAT IT READS IS OF BULK AT MOST 1048576: true; the input reads as it did. -/
def fnExactRoutesUptoRow : OpenClaim := { program := "ytjklepgidjimfaagreat", sum := "38e7d979f5be38eff6381041901d25ea1ac5fcb7a2a564c928fac634e552bd6d", func := "loop.example/signalbox/laws.FnExactRoutes", spec := "fnExactRoutes", unfollowed := true, recurses := true, plainKeys := false, apart := false, narrowed := true }
def FnExactRoutesUptoSaid : Prop := fnExactRoutesUptoRow.holds Tryz.pinned (OpenSpec.upto fnExactRoutesSpec)

/-- 'laws.FnExactSiteOk', WHERE WHAT IT READS IS OF BULK AT MOST 1048576: true; the input reads as it did. -/
def fnExactSiteOkUptoRow : OpenClaim := { program := "ytjklepgidjimfaagreat", sum := "38e7d979f5be38eff6381041901d25ea1ac5fcb7a2a564c928fac634e552bd6d", func := "loop.example/signalbox/laws.FnExactSiteOk", spec := "fnExactSiteOk", unfollowed := true, recurses := true, plainKeys := false, apart := false, narrowed := true }
def FnExactSiteOkUptoSaid : Prop := fnExactSiteOkUptoRow.holds Tryz.pinned (OpenSpec.upto fnExactSiteOkSpec)

/-- 'laws.FnExactLayoutOf', WHERE WHAT IT READS IS OF BULK AT MOST 1048576: true; the input reads as it did. -/
def fnExactLayoutOfUptoRow : OpenClaim := { program := "ytjklepgidjimfaagreat", sum := "38e7d979f5be38eff6381041901d25ea1ac5fcb7a2a564c928fac634e552bd6d", func := "loop.example/signalbox/laws.FnExactLayoutOf", spec := "fnExactLayoutOf", unfollowed := true, recurses := true, plainKeys := false, apart := false, narrowed := true }
def FnExactLayoutOfUptoSaid : Prop := fnExactLayoutOfUptoRow.holds Tryz.pinned (OpenSpec.upto fnExactLayoutOfSpec)

/-- 'laws.FnExactWays', WHERE WHAT IT READS IS OF BULK AT MOST 1048576: true; the input reads as it did. -/
def fnExactWaysUptoRow : OpenClaim := { program := "ytjklepgidjimfaagreat", sum := "38e7d979f5be38eff6381041901d25ea1ac5fcb7a2a564c928fac634e552bd6d", func := "loop.example/signalbox/laws.FnExactWays", spec := "fnExactWays", unfollowed := true, recurses := true, plainKeys := false, apart := false, narrowed := true }
def FnExactWaysUptoSaid : Prop := fnExactWaysUptoRow.holds Tryz.pinned (OpenSpec.upto fnExactWaysSpec)

/-- 'laws.FnHold', WHERE WHAT IT READS IS OF BULK AT MOST 1048576: true; the input reads as it did. -/
def fnHoldUptoRow : OpenClaim := { program := "ytjklepgidjimfaagreat", sum := "38e7d979f5be38eff6381041901d25ea1ac5fcb7a2a564c928fac634e552bd6d", func := "loop.example/signalbox/laws.FnHold", spec := "fnHold", unfollowed := true, recurses := true, plainKeys := false, apart := false, narrowed := true }
def FnHoldUptoSaid : Prop := fnHoldUptoRow.holds Tryz.pinned (OpenSpec.upto fnHoldSpec)

end Rows
end Go.Proofs.YtjklepgidjimfaaGreat
