/-
  List literals whose elements bear lists that are lent (their makers keep what they are given), and places in such lists. No conditions.
-/
import Derived.Test.YtblodpbcinkehaaKzn
set_option linter.unusedVariables false
set_option linter.unusedSimpArgs false
namespace Go.Proofs.Ytblodpbcinkehaa.K

section
variable {P : Program} {h : Hints} {fk n base : Nat} {lk : Lk} {c : Cx} {ops : Array Oper} {s kk : Bool} {d : Nat} {ty : TypeId} {pos : String} {aft : Array Edge} {l : List (Bool × Bool × Oper)} {Q : St → Prop} {T : Nat → V} {G G' H : Heap} {rs : List Res} {op : Op}
variable {α : Type} [GoT α]
theorem embedL_keep (hkp : h.keep fk = true) : ∀ ps : List (Nat × V), embedL ((cxL P h fk n base lk).care s kk) G ps = some (ps, G)
  | [] => rfl
  | (i, v) :: r => by
    have e : embed ((cxL P h fk n base lk).care s kk) G v = some (v, G) := by
      unfold embed
      rw [show ((cxL P h fk n base lk).care s kk).hints.keep ((cxL P h fk n base lk).care s kk).fn = true from hkp]
      rfl
    simp only [embedL, e, Option.bind_some, embedL_keep hkp r, Option.map_some]
/-- A literal in a function that keeps what its lists are given. -/
theorem pBsK {t e : TypeId} {m : Nat} {parts : Array (Nat × Operand)} {ps : List (Nat × V)} {z : List V} (lm : Nat) (ys : List α) (he : elemT P t = some e) (hz : szOf P e = some (GoT.sz α)) (hz0 : zeroOf P e = some z) (k : wpR (cxL P h fk n base lk) ops l ⟨upd T d (.tl ys.length (flatL lm ys)), G⟩ Q)
    (hzl : z.length = GoT.sz α := by rfl) (hm : Nat.ble (m * GoT.sz α) 1048576 = true := by rfl) (hlen : m = ys.length := by rfl) (hkp : h.keep fk = true := by rfl) (h1 : evP T parts.toList = some ps := by rfl) (h2 : partsK (fun i => some (i * GoT.sz α, GoT.sz α)) (List.replicate m z).flatten ps = some (flatL lm ys) := by rfl) (hd : Nat.blt d n = true := by rfl) :
    wpR (cxL P h fk n base lk) ops ((s, kk, ⟨some d, .buildSlice t m parts, ty, pos, aft, none⟩) :: l) ⟨T, G⟩ Q := by
  refine pV ?_ hd k
  unfold opV opK
  simp only []
  rw [h1]
  simp only [Option.bind_some, embedL_keep hkp]
  show (elemT P t).bind _ = _
  rw [he]
  show (szOf P e).bind _ = _
  rw [hz]
  show (zeroOf P e).bind _ = _
  rw [hz0]
  simp only [Option.bind_some]
  rw [if_pos ⟨hzl, Nat.pos_iff_ne_zero.1 GoT.pos, Nat.le_of_ble_eq_true hm⟩, h2, hlen]
  rfl
theorem pXtK {lm : Nat} {xs : List α} {i : Int} {x : α} {t e : TypeId} {y z : Operand} {kd : IntKind} (hc : getI xs i = some x) (he : elemT P t = some e) (hz : szOf P e = some (GoT.sz α)) (k : wpR (cxL P h fk n base lk) ops l ⟨upd T d (.lp 0 (flatL lm xs) (i.toNat * GoT.sz α)), G⟩ Q)
    (h1 : ev T y = some (.tl xs.length (flatL lm xs)) := by rfl) (h2 : ev T z = some (.int kd i) := by rfl) (hd : Nat.blt d n = true := by rfl) :
    wpR (cxL P h fk n base lk) ops ((s, kk, ⟨some d, .indexAddr t y z, ty, pos, aft, none⟩) :: l) ⟨T, G⟩ Q := by
  refine pV ?_ hd k
  rw [opV_indexAddr]
  show (elemT P t).bind _ = _
  rw [he, Option.bind_some]
  show (szOf P e).bind _ = _
  simp only [hz, h1, h2, Option.bind_some, asInt, idxP, lenK]
  rw [if_pos (getI_lt hc)]
  rfl
end
end Go.Proofs.Ytblodpbcinkehaa.K
