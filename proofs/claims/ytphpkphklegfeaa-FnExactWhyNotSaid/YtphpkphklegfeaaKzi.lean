/-
  Lists of a call's own that were made or appended to, which it is not known; scalars out of mutable lists. No conditions.
-/
import Derived.Test.YtphpkphklegfeaaKzh
set_option linter.unusedVariables false
set_option linter.unusedSimpArgs false
namespace Go.Proofs.Ytphpkphklegfeaa.K
section
variable {α : Type} [GoT α] {G G' H : Heap} {F : List Nat} {xs : List α} {v : V} {rs : List Res}
end
section steps
variable {P : Program} {h : Hints} {fk n base : Nat} {lk : Lk} {c : Cx} {ops : Array Oper} {s kk : Bool} {d : Nat} {ty : TypeId} {pos : String} {aft : Array Edge} {l : List (Bool × Bool × Oper)} {Q : St → Prop} {T : Nat → V} {G G' H H0 : Heap} {rs : List Res} {op : Op} {S F : List Nat}
variable {α : Type} [GoT α]
end steps
end Go.Proofs.Ytphpkphklegfeaa.K

