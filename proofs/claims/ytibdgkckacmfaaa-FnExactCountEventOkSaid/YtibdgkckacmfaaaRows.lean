/-
  No cell of these rows narrows 'for every input' (looked for: loops, veiled, ifaces, maps, wideKeys, modest, calm, conditions, laid).
  DERIVED. THE GIVEN ROWS OF THIS SEAT. 6 by the template 'for every input the law returns true; each argument reads behind the call as it read before'; 0 by the template 'total and deterministic' (their statements: YtibdgkckacmfaaaTotals.lean).
  GIVEN WITH THE SEED: the statements are not yours to turn. If you find one false, say at which input.
  Laid BY PROGRAM, IN A SANDBOX (cutbox-rows.mjs): the forced cells as the released guide's own fill.sh prints them over the translation 82f19648b468df1b… (all of the seat's roots in one cut). By AI agents, Wed Nov 11 2026. No macro, syntax, notation, axiom, sorry.
-/
import Derived.Test.YtibdgkckacmfaaaChecked
import GoSem.Claim
import GoSem.ClaimJoined
import GoSem.ClaimMapViews
import Derived.JoinedTies
import Derived.KernelRfl
namespace Go.Proofs.Ytibdgkckacmfaaa
/- THE CELL 'sum', in the pinned program and in every row, IS THE sha256 OF THE DUMP (.gsa) THAT YtibdgkckacmfaaaProg.lean LOADS. Nothing in Lean hashes anything: it is a label: what it is worth is what the hold of that sum in a sandbox is worth. -/
noncomputable def Try.pinned : Pinned := { name := "ytibdgkckacmfaaa", sum := "82f19648b468df1b7d011873ad830dbc759b10902820c5c62eefe0f42ce3bb1f", checked := Try.checked }
namespace Rows
def none {H : Type} : Left H := { results := [], args := [] }

/-- 'laws.FnExactConstants': WHATEVER THE INPUT: true; the input reads as it did. -/
def fnExactConstantsSpec : ChangeSpec := { name := "fnExactConstants", fn := fun _ => fun
  | [] => { results := [.lit (.bool true)], args := [] }
  | _ => none }
def fnExactConstantsRow : OpenClaim := { program := "ytibdgkckacmfaaa", sum := "82f19648b468df1b7d011873ad830dbc759b10902820c5c62eefe0f42ce3bb1f", func := "loop.example/signalbox/laws.FnExactConstants", spec := "fnExactConstants", apart := false }
def FnExactConstantsSaid : Prop := fnExactConstantsRow.holds Try.pinned (OpenSpec.ofChange fnExactConstantsSpec)

/-- ITS FALSE NEIGHBOUR: 'it returns false'. Refute it at one input. -/
def fnExactConstantsWrong : ChangeSpec := { name := "fnExactConstants", fn := fun _ => fun
  | [] => { results := [.lit (.bool false)], args := [] }
  | _ => none }
def FnExactConstantsWrongFalsely : Prop := fnExactConstantsRow.holds Try.pinned (OpenSpec.ofChange fnExactConstantsWrong)

/-- 'laws.FnExactLayoutOk': WHATEVER THE INPUT: true; the input reads as it did. -/
def fnExactLayoutOkSpec : ChangeSpec := { name := "fnExactLayoutOk", fn := fun _ => fun
  | [d] => { results := [.lit (.bool true)], args := [d] }
  | _ => none }
def fnExactLayoutOkRow : OpenClaim := { program := "ytibdgkckacmfaaa", sum := "82f19648b468df1b7d011873ad830dbc759b10902820c5c62eefe0f42ce3bb1f", func := "loop.example/signalbox/laws.FnExactLayoutOk", spec := "fnExactLayoutOk", unfollowed := true, recurses := true, apart := false }
def FnExactLayoutOkSaid : Prop := fnExactLayoutOkRow.holds Try.pinned (OpenSpec.ofChange fnExactLayoutOkSpec)

/-- ITS FALSE NEIGHBOUR: 'it returns false'. Refute it at one input. -/
def fnExactLayoutOkWrong : ChangeSpec := { name := "fnExactLayoutOk", fn := fun _ => fun
  | [d] => { results := [.lit (.bool false)], args := [d] }
  | _ => none }
def FnExactLayoutOkWrongFalsely : Prop := fnExactLayoutOkRow.holds Try.pinned (OpenSpec.ofChange fnExactLayoutOkWrong)

/-- 'laws.FnExactCountEventOk': WHATEVER THE INPUT: true; the input reads as it did. -/
def fnExactCountEventOkSpec : ChangeSpec := { name := "fnExactCountEventOk", fn := fun _ => fun
  | [d1, d2] => { results := [.lit (.bool true)], args := [d1, d2] }
  | _ => none }
def fnExactCountEventOkRow : OpenClaim := { program := "ytibdgkckacmfaaa", sum := "82f19648b468df1b7d011873ad830dbc759b10902820c5c62eefe0f42ce3bb1f", func := "loop.example/signalbox/laws.FnExactCountEventOk", spec := "fnExactCountEventOk", unfollowed := true, recurses := true, apart := false }
def FnExactCountEventOkSaid : Prop := fnExactCountEventOkRow.holds Try.pinned (OpenSpec.ofChange fnExactCountEventOkSpec)

/-- ITS FALSE NEIGHBOUR: 'it returns false'. Refute it at one input. -/
def fnExactCountEventOkWrong : ChangeSpec := { name := "fnExactCountEventOk", fn := fun _ => fun
  | [d1, d2] => { results := [.lit (.bool false)], args := [d1, d2] }
  | _ => none }
def FnExactCountEventOkWrongFalsely : Prop := fnExactCountEventOkRow.holds Try.pinned (OpenSpec.ofChange fnExactCountEventOkWrong)

/-- 'laws.FnExactAround': WHATEVER THE INPUT: true; the input reads as it did. -/
def fnExactAroundSpec : ChangeSpec := { name := "fnExactAround", fn := fun _ => fun
  | [d1, d2] => { results := [.lit (.bool true)], args := [d1, d2] }
  | _ => none }
def fnExactAroundRow : OpenClaim := { program := "ytibdgkckacmfaaa", sum := "82f19648b468df1b7d011873ad830dbc759b10902820c5c62eefe0f42ce3bb1f", func := "loop.example/signalbox/laws.FnExactAround", spec := "fnExactAround", unfollowed := true, recurses := true, apart := false }
def FnExactAroundSaid : Prop := fnExactAroundRow.holds Try.pinned (OpenSpec.ofChange fnExactAroundSpec)

/-- ITS FALSE NEIGHBOUR: 'it returns false'. Refute it at one input. -/
def fnExactAroundWrong : ChangeSpec := { name := "fnExactAround", fn := fun _ => fun
  | [d1, d2] => { results := [.lit (.bool false)], args := [d1, d2] }
  | _ => none }
def FnExactAroundWrongFalsely : Prop := fnExactAroundRow.holds Try.pinned (OpenSpec.ofChange fnExactAroundWrong)

/-- 'laws.FnExactRowOk': WHATEVER THE INPUT: true; the input reads as it did. -/
def fnExactRowOkSpec : ChangeSpec := { name := "fnExactRowOk", fn := fun _ => fun
  | [d] => { results := [.lit (.bool true)], args := [d] }
  | _ => none }
def fnExactRowOkRow : OpenClaim := { program := "ytibdgkckacmfaaa", sum := "82f19648b468df1b7d011873ad830dbc759b10902820c5c62eefe0f42ce3bb1f", func := "loop.example/signalbox/laws.FnExactRowOk", spec := "fnExactRowOk", apart := false }
def FnExactRowOkSaid : Prop := fnExactRowOkRow.holds Try.pinned (OpenSpec.ofChange fnExactRowOkSpec)

/-- ITS FALSE NEIGHBOUR: 'it returns false'. Refute it at one input. -/
def fnExactRowOkWrong : ChangeSpec := { name := "fnExactRowOk", fn := fun _ => fun
  | [d] => { results := [.lit (.bool false)], args := [d] }
  | _ => none }
def FnExactRowOkWrongFalsely : Prop := fnExactRowOkRow.holds Try.pinned (OpenSpec.ofChange fnExactRowOkWrong)

/-- 'laws.FnExactBeginCount': WHATEVER THE INPUT: true; the input reads as it did. -/
def fnExactBeginCountSpec : ChangeSpec := { name := "fnExactBeginCount", fn := fun _ => fun
  | [d] => { results := [.lit (.bool true)], args := [d] }
  | _ => none }
def fnExactBeginCountRow : OpenClaim := { program := "ytibdgkckacmfaaa", sum := "82f19648b468df1b7d011873ad830dbc759b10902820c5c62eefe0f42ce3bb1f", func := "loop.example/signalbox/laws.FnExactBeginCount", spec := "fnExactBeginCount", unfollowed := true, recurses := true, apart := false }
def FnExactBeginCountSaid : Prop := fnExactBeginCountRow.holds Try.pinned (OpenSpec.ofChange fnExactBeginCountSpec)

/-- ITS FALSE NEIGHBOUR: 'it returns false'. Refute it at one input. -/
def fnExactBeginCountWrong : ChangeSpec := { name := "fnExactBeginCount", fn := fun _ => fun
  | [d] => { results := [.lit (.bool false)], args := [d] }
  | _ => none }
def FnExactBeginCountWrongFalsely : Prop := fnExactBeginCountRow.holds Try.pinned (OpenSpec.ofChange fnExactBeginCountWrong)

/- THE SECOND FORM. 'bulk': how many values and letters a reading holds, each counted each time it is reached (what is shared counts as often as it is met; a slice's spare places count too). A statement '..UptoSaid' is the law's where the arguments, and the package variables that the reading takes, are together of bulk at most 1048576: NARROWER than '..Said'. Prove '..Said' where nothing that the law and all that it calls make is longer than what came in: it says more and counts as full. Else prove '..UptoSaid'. A law counts once. -/
mutual
def uptoBulk {H : Type} : DataW H → Nat
  | .lit (.string bytes) => bytes.length + 1
  | .lit _ => 1
  | .nil => 1
  | .ptr d => uptoBulk d + 1
  | .slice elems spare => uptoBulkAll elems + uptoBulkAll spare + 1
  | .agg parts => uptoBulkAll parts + 1
  | .iface _ d => uptoBulk d + 1
  | .map entries => uptoBulkEntries entries + 1
  | .held _ => 1
def uptoBulkAll {H : Type} : List (DataW H) → Nat
  | [] => 0
  | d :: r => uptoBulk d + uptoBulkAll r
def uptoBulkEntries {H : Type} : List (Lit × DataW H) → Nat
  | [] => 0
  | x :: r => uptoBulkEntry x + uptoBulkEntries r
def uptoBulkEntry {H : Type} : Lit × DataW H → Nat
  | (.string bytes, d) => bytes.length + uptoBulk d + 1
  | (_, d) => uptoBulk d + 1
 end
def uptoSmall : (H : Type) → List (DataW H) → Bool := fun _ ds => decide (uptoBulkAll ds ≤ 1048576)
def OpenSpec.upto (s : _root_.Go.ChangeSpec) : _root_.Go.OpenSpec := { _root_.Go.OpenSpec.ofChange s with cond := some uptoSmall }

/-- 'laws.FnExactConstants', WHERE WHAT IT READS IS OF BULK AT MOST 1048576: true; the input reads as it did. -/
def fnExactConstantsUptoRow : OpenClaim := { program := "ytibdgkckacmfaaa", sum := "82f19648b468df1b7d011873ad830dbc759b10902820c5c62eefe0f42ce3bb1f", func := "loop.example/signalbox/laws.FnExactConstants", spec := "fnExactConstants", apart := false, narrowed := true }
def FnExactConstantsUptoSaid : Prop := fnExactConstantsUptoRow.holds Try.pinned (OpenSpec.upto fnExactConstantsSpec)

/-- 'laws.FnExactLayoutOk', WHERE WHAT IT READS IS OF BULK AT MOST 1048576: true; the input reads as it did. -/
def fnExactLayoutOkUptoRow : OpenClaim := { program := "ytibdgkckacmfaaa", sum := "82f19648b468df1b7d011873ad830dbc759b10902820c5c62eefe0f42ce3bb1f", func := "loop.example/signalbox/laws.FnExactLayoutOk", spec := "fnExactLayoutOk", unfollowed := true, recurses := true, apart := false, narrowed := true }
def FnExactLayoutOkUptoSaid : Prop := fnExactLayoutOkUptoRow.holds Try.pinned (OpenSpec.upto fnExactLayoutOkSpec)

/-- 'laws.FnExactCountEventOk', WHERE WHAT IT READS IS OF BULK AT MOST 1048576: true; the input reads as it did. -/
def fnExactCountEventOkUptoRow : OpenClaim := { program := "ytibdgkckacmfaaa", sum := "82f19648b468df1b7d011873ad830dbc759b10902820c5c62eefe0f42ce3bb1f", func := "loop.example/signalbox/laws.FnExactCountEventOk", spec := "fnExactCountEventOk", unfollowed := true, recurses := true, apart := false, narrowed := true }
def FnExactCountEventOkUptoSaid : Prop := fnExactCountEventOkUptoRow.holds Try.pinned (OpenSpec.upto fnExactCountEventOkSpec)

/-- 'laws.FnExactAround', WHERE WHAT IT READS IS OF BULK AT MOST 1048576: true; the input reads as it did. -/
def fnExactAroundUptoRow : OpenClaim := { program := "ytibdgkckacmfaaa", sum := "82f19648b468df1b7d011873ad830dbc759b10902820c5c62eefe0f42ce3bb1f", func := "loop.example/signalbox/laws.FnExactAround", spec := "fnExactAround", unfollowed := true, recurses := true, apart := false, narrowed := true }
def FnExactAroundUptoSaid : Prop := fnExactAroundUptoRow.holds Try.pinned (OpenSpec.upto fnExactAroundSpec)

/-- 'laws.FnExactRowOk', WHERE WHAT IT READS IS OF BULK AT MOST 1048576: true; the input reads as it did. -/
def fnExactRowOkUptoRow : OpenClaim := { program := "ytibdgkckacmfaaa", sum := "82f19648b468df1b7d011873ad830dbc759b10902820c5c62eefe0f42ce3bb1f", func := "loop.example/signalbox/laws.FnExactRowOk", spec := "fnExactRowOk", apart := false, narrowed := true }
def FnExactRowOkUptoSaid : Prop := fnExactRowOkUptoRow.holds Try.pinned (OpenSpec.upto fnExactRowOkSpec)

/-- 'laws.FnExactBeginCount', WHERE WHAT IT READS IS OF BULK AT MOST 1048576: true; the input reads as it did. -/
def fnExactBeginCountUptoRow : OpenClaim := { program := "ytibdgkckacmfaaa", sum := "82f19648b468df1b7d011873ad830dbc759b10902820c5c62eefe0f42ce3bb1f", func := "loop.example/signalbox/laws.FnExactBeginCount", spec := "fnExactBeginCount", unfollowed := true, recurses := true, apart := false, narrowed := true }
def FnExactBeginCountUptoSaid : Prop := fnExactBeginCountUptoRow.holds Try.pinned (OpenSpec.upto fnExactBeginCountSpec)

end Rows
end Go.Proofs.Ytibdgkckacmfaaa
