/-
  Steps of a run on mutable values, by reference and on own ones. No conditions.
-/
import Derived.Test.YtphpkphklegfeaaKzb
set_option linter.unusedVariables false
set_option linter.unusedSimpArgs false
namespace Go.Proofs.Ytphpkphklegfeaa.K
section steps
variable {P : Program} {h : Hints} {fk n base : Nat} {lk : Lk} {c : Cx} {ops : Array Oper} {s kk : Bool} {d : Nat} {ty : TypeId} {pos : String} {aft : Array Edge} {l : List (Bool × Bool × Oper)} {Q : St → Prop} {T : Nat → V} {G G' H H0 : Heap} {rs : List Res} {op : Op} {S F : List Nat}
variable {α β : Type} [GoT α] [GoM α] [GoT β] [GoM β]
theorem pXT {xs : List α} {i : Int} {x : α} {t e : TypeId} {y z : Operand} {kd : IntKind} {v : V} (hO : Owns H G rs) (j : Nat) (hc : getI xs i = some x) (he : elemT P t = some e) (hz : szOf P e = some (GoT.sz α)) (k : ∀ b, v = .sl b 0 xs.length → wpR (cxL P h fk n base lk) ops l ⟨upd T d (.ptr b (i.toNat * GoT.sz α)), G⟩ Q)
  (h1 : ev T y = some v := by rfl) (h2 : ev T z = some (.int kd i) := by rfl) (hj : rs[j]? = some (Tree S F xs [v]) := by rfl) (hd : Nat.blt d n = true := by rfl) :
  wpR (cxL P h fk n base lk) ops ((s, kk, ⟨some d, .indexAddr t y z, ty, pos, aft, none⟩) :: l) ⟨T, G⟩ Q := by
 obtain ⟨b, cells, F', rfl, _⟩ := tr_open (hO.tree hj).1 hc
 refine pV ?_ hd (k b rfl)
 rw [opV_indexAddr]
 show (elemT P t).bind _ = _
 rw [he, Option.bind_some]
 show (szOf P e).bind _ = _
 simp only [hz, h1, h2, Option.bind_some, asInt, idxP, lenK]
 rw [if_pos (getI_lt hc)]
 simp
theorem pLenT {xs : List α} {x : Operand} {t : TypeId} {v : V} (hO : Owns H G rs) (j : Nat) (ht : strT P t = some false) (k : wpR (cxL P h fk n base lk) ops l ⟨upd T d (.int .i64 xs.length), G⟩ Q) (h1 : ev T x = some v := by rfl) (hj : rs[j]? = some (Tree S F xs [v]) := by rfl) (hd : Nat.blt d n = true := by rfl) :
  wpR (cxL P h fk n base lk) ops ((s, kk, ⟨some d, .call ⟨.builtin .len, #[x], #[t]⟩, ty, pos, aft, none⟩) :: l) ⟨T, G⟩ Q := by
 refine pLen (b := false) (a := v) ht k h1 ?_ hd
 have := len_tr (hO.tree hj).1
 cases v <;> first | exact this | simp [lenK] at this
theorem store_any {sz m off b : Nat} {t : TypeId} {y z : Operand} {w : V} (hz : szOf P t = some m) {cells : List V} (hm : ((cxL P h fk n base lk).care s kk).mayWrite b = true)
  (hgv : (if b < base then (if h.grow fk then if cleanG 1 w then some (w, G) else none else giveV base depthK G w) else some (w, G)) = some (w, G)) (hg : G[b]? = some (.cells sz cells)) (hf : off + w.cellsOf.length ≤ cells.length) (hl : w.cellsOf.length = m) (hc : w.cellsOf.all V.isCell = true)
  (h1 : ev T y = some (.ptr b off)) (h2 : ev T z = some w) : opV ((cxL P h fk n base lk).care s kk) (.store t y z) ⟨T, G⟩ = some (undefV, G.set b (.cells sz (splice cells off w.cellsOf))) := by
 rw [opV_store]
 simp only [h1, h2, Option.bind_some, storeK]
 rw [if_pos hm]
 have e : (if b < ((cxL P h fk n base lk).care s kk).base then (if ((cxL P h fk n base lk).care s kk).hints.grow ((cxL P h fk n base lk).care s kk).fn then if cleanG 1 w then some (w, G) else none else giveV ((cxL P h fk n base lk).care s kk).base depthK G w) else some (w, G)) = some (w, G) := hgv
 rw [e]
 simp only [Option.bind_some, hg]
 rw [if_pos ⟨by rw [hl]; exact hz, hf, hc⟩]
 rfl
theorem pLT {γ : Type} [GoT γ] [GoM γ] {get : α → List γ} {set : α → List γ → α} {off b : Nat} (L : Foc α (List γ) get set off) {xs : List α} {i : Int} {x : α} {t : TypeId} {y : Operand} {v : V} (hO : Owns H G rs) (j : Nat) (hv : v = .sl b 0 xs.length) (hc : getI xs i = some x) (ha : aggT P t = some false)
  (k : ∀ u Fs, Sub G (fun G' y => TrIn G' (xs.set i.toNat (set x y)) [v] F) F [u] Fs (get x) → wpR (cxL P h fk n base lk) ops l ⟨upd T d u, G⟩ Q) (h1 : ev T y = some (.ptr b (i.toNat * GoT.sz α + off)) := by rfl) (hj : rs[j]? = some (Tree S F xs [v]) := by rfl) (hd : Nat.blt d n = true := by rfl) :
  wpR (cxL P h fk n base lk) ops ((s, kk, ⟨some d, .load t y, ty, pos, aft, none⟩) :: l) ⟨T, G⟩ Q := by
 obtain ⟨cells, c1, c2, c3, Fs, hg, rfl, hl, hl2, hs⟩ := sub_elem L (hO.tree hj).1 hc hv
 obtain ⟨u, rfl⟩ := List.length_eq_one_iff.1 (show c2.length = 1 from hl2)
 refine pLh u hg ?_ (k u Fs hs) h1 hd
 unfold readCells
 rw [ha]
 show (c1 ++ ([u] ++ c3))[i.toNat * GoT.sz α + off]? = some u
 rw [← hl, List.getElem?_append_right (Nat.le_refl _), Nat.sub_self]; rfl
structure U8 where
 n : Int
instance : GoT U8 := ⟨1, Nat.one_pos, fun _ x => [.int .u8 x.n], fun _ => rfl, fun _ => rfl, fun _ => rfl⟩
end steps
end Go.Proofs.Ytphpkphklegfeaa.K

