/-
  Structs with mutable lists in own blocks; elements that are given up when they come into a list. No conditions.
-/
import Derived.Test.YtphpkphklegfeaaKzf
set_option linter.unusedVariables false
set_option linter.unusedSimpArgs false
namespace Go.Proofs.Ytphpkphklegfeaa.K
section steps
variable {P : Program} {h : Hints} {fk n base : Nat} {lk : Lk} {c : Cx} {ops : Array Oper} {s kk : Bool} {d : Nat} {ty : TypeId} {pos : String} {aft : Array Edge} {l : List (Bool × Bool × Oper)} {Q : St → Prop} {T : Nat → V} {G G' H H0 : Heap} {rs rs' rs1 : List Res} {op : Op} {S F F2 : List Nat}
variable {α : Type} [GoT α]
end steps
end Go.Proofs.Ytphpkphklegfeaa.K

