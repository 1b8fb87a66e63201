/-
  Steps of a run: places of slice literals, '^' of numbers. No conditions.
-/
import Derived.Test.YtblodpbcinkehaaKv
set_option linter.unusedVariables false
set_option linter.unusedSimpArgs false
namespace Go.Proofs.Ytblodpbcinkehaa.K

/-- '^' of two numbers. -/
def xor64 (a b : Int) : Int := IntKind.wrap .i64 (BitVec.ofInt 64 a ^^^ BitVec.ofInt 64 b).toNat
section
variable {P : Program} {h : Hints} {fk n base : Nat} {lk : Lk} {c : Cx} {ops : Array Oper} {s kk : Bool} {d : Nat} {ty : TypeId} {pos : String} {aft : Array Edge} {l : List (Bool × Bool × Oper)} {Q : St → Prop} {T : Nat → V} {G G' H : Heap} {rs : List Res} {op : Op} {α : Type} [GoT α]
theorem pXt {xs : List α} {i : Int} {x : α} {t e : TypeId} {y z : Operand} {kd : IntKind} (hc : getI xs i = some x) (he : elemT P t = some e) (hz : szOf P e = some (GoT.sz α)) (k : wpR (cxL P h fk n base lk) ops l ⟨upd T d (.lp 0 ((flatL 0) xs) (i.toNat * GoT.sz α)), G⟩ Q)
    (h1 : ev T y = some (.tl xs.length ((flatL 0) xs)) := by rfl) (h2 : ev T z = some (.int kd i) := by rfl) (hd : Nat.blt d n = true := by rfl) :
    wpR (cxL P h fk n base lk) ops ((s, kk, ⟨some d, .indexAddr t y z, ty, pos, aft, none⟩) :: l) ⟨T, G⟩ Q := by
  refine pV ?_ hd k
  rw [opV_indexAddr]
  show (elemT P t).bind _ = _
  rw [he, Option.bind_some]
  show (szOf P e).bind _ = _
  simp only [hz, h1, h2, Option.bind_some, asInt, idxP, lenK]
  rw [if_pos (getI_lt hc)]
  rfl
end

end Go.Proofs.Ytblodpbcinkehaa.K
