/-
  Steps of a run, by reference: blocks that came from outside and may be written. No conditions.
-/
import Derived.Test.YtphpkphklegfeaaKx
set_option linter.unusedVariables false
set_option linter.unusedSimpArgs false
namespace Go.Proofs.Ytphpkphklegfeaa.K
def Sees (H0 H : Heap) (S : List Nat) : Prop := H.length = H0.length ∧ ∀ x, x ∉ S → H[x]? = H0[x]?
theorem Sees.refl (H : Heap) (S : List Nat) : Sees H H S := ⟨rfl, fun _ _ => rfl⟩
theorem Sees.set {H0 H : Heap} {S : List Nat} (h : Sees H0 H S) {n : Nat} (hn : n < H.length → n ∈ S) (x : Blk) : Sees H0 (H.set n x) S :=
 ⟨by rw [List.length_set]; exact h.1, fun y hy => by rw [set_get, if_neg (by rintro ⟨rfl, hl⟩; exact hy (hn hl))]; exact h.2 y hy⟩
def LkOk (lk : Lk) (n : Nat) : Prop := ∀ l ∈ lk, ∀ x ∈ l, x < n
theorem LkOk.push {lk : Lk} {n m : Nat} {L : List Nat} (h : LkOk lk n) (hn : n ≤ m) (hL : ∀ x ∈ L, x < m) : LkOk (lk ++ [L]) m := by
 intro l hl x hx
 rcases List.mem_append.1 hl with hl | hl
 ·exact Nat.lt_of_lt_of_le (h l hl x hx) hn
 ·simp only [List.mem_singleton] at hl
  subst hl
  exact hL x hx
theorem LkOk.free {lk : Lk} {n b : Nat} {L : List Nat} (h : LkOk lk n) (hb : n ≤ b) (hL : b ∉ L) : unlocked (lk ++ [L]) b = true := by
 unfold unlocked
 rw [List.all_eq_true]
 intro l hl
 simp only [Bool.not_eq_true', ← Bool.not_eq_true, List.contains_iff_mem]
 intro hx
 rcases List.mem_append.1 hl with hl | hl
 ·exact absurd (h l hl b hx) (Nat.not_lt.2 hb)
 ·simp only [List.mem_singleton] at hl
  subst hl
  exact hL hx
def BoxAt (H : Heap) (q : Nat) (o : V) (d sz n : Nat) (cells : List V) : Prop := H[q]? = some (.cells 1 [o]) ∧ cells.length = n * sz ∧ (o = .tl n cells ∨ ∃ b, o = .snap b n cells ∧ H[b]? = some (.bld d n sz))
def boxS (q : Nat) (o : V) : List Nat := q :: (match o with | .snap b _ _ => [b] | _ => [])
section steps
variable {P : Program} {h : Hints} {fk n base : Nat} {lk : Lk} {c : Cx} {ops : Array Oper} {s kk : Bool} {d : Nat} {ty : TypeId} {pos : String} {aft : Array Edge} {l : List (Bool × Bool × Oper)} {Q : St → Prop} {T : Nat → V} {G G' H H0 : Heap} {rs : List Res} {op : Op} {S : List Nat}
variable {α : Type} [GoT α]
theorem pLr {t : TypeId} {x : Operand} {b off sz : Nat} {cs : List V} (hO : Owns H G rs) (j : Nat) (v : V) (ha : aggT P t = some false) (k : wpR (cxL P h fk n base lk) ops l ⟨upd T d v, G⟩ Q) (h1 : ev T x = some (.ptr b off) := by rfl) (hj : rs[j]? = some (.fblk S b (.cells sz cs)) := by rfl) (h2 : cs[off]? = some v := by rfl) (hd : Nat.blt d n = true := by rfl) :
  wpR (cxL P h fk n base lk) ops ((s, kk, ⟨some d, .load t x, ty, pos, aft, none⟩) :: l) ⟨T, G⟩ Q := by
 refine pLh v (hO.getF hj).1 ?_ k h1 hd
 unfold readCells
 simp only [ha, h2]
theorem ref_may (hS : ∀ b ∈ S, unlocked lk b = true) {b : Nat} (hb : b < H.length → b ∈ S) : ((cxL P h fk n H.length lk).care s kk).mayWrite b = true := by
 unfold Cx.mayWrite
 simp only [Bool.or_eq_true, decide_eq_true_eq]
 rcases Nat.lt_or_ge b H.length with hl | hl
 ·exact .inr (hS b (hb hl))
 ·exact .inl hl
end steps
section cells
variable {P : Program} {h : Hints} {fk n base : Nat} {lk : Lk} {ops : Array Oper} {s kk : Bool} {d : Nat} {ty : TypeId} {pos : String} {aft : Array Edge} {l : List (Bool × Bool × Oper)} {Q : St → Prop} {T : Nat → V} {G G' H : Heap} {rs : List Res}
theorem own_cells {j dd sz m : Nat} {v : V} {cs : List V} (hO : Owns H G rs) (hj : rs[j]? = some (.own v dd sz m cs)) : v.cellsOf = [v] ∧ v.isCell = true := by
 rcases (hO.own hj).2 with rfl | ⟨b, rfl, _⟩ <;> exact ⟨rfl, rfl⟩
theorem all_n : ([] : List V).all V.isCell = true := rfl
theorem all_c {v : V} {vs : List V} (h1 : v.isCell = true) (h2 : vs.all V.isCell = true) : (v :: vs).all V.isCell = true := by rw [List.all_cons, h1, h2]; rfl
theorem one_cell {v : V} (h : v.isCell = true) : [v].all V.isCell = true := by rw [List.all_cons, h]; rfl
end cells
structure BoxOut (H H1 : Heap) (q : Nat) (o o' : V) (d sz n : Nat) (cells : List V) : Prop where
 box : BoxAt H1 q o' d sz n cells
 len : H.length ≤ H1.length
 same : ∀ x, x < H.length → x ∉ boxS q o → H1[x]? = H[x]?
 nums : ∀ b ∈ boxS q o', b ∈ boxS q o ∨ H.length ≤ b
def FinR (P : Program) (h : Hints) (k base d : Nat) (rs : List ResultVar) (Post : V → Heap → Prop) (x : X) (S : St) : Prop :=
 (x = .normal ∨ x = .ret) ∧ ∃ v H1, ((resultsK P S.H S.T rs).bind fun vs => leaveK h k base d (oneOf vs) S.H) = some (v, H1) ∧ Post v H1
theorem run_startR {P : Program} {h : Hints} {lk : Lk} {fn : Func} {body : Code} {k : FuncId} (hfn : P.funcs[k]? = some fn) (hb : fn.body = some body) {m : Nat} (hn : fn.ntmps = m) {args : List V} {H : Heap} {rs : Array ResultVar} (hrs : fn.results = rs) (hlen : Nat.ble args.length m = true) (hname : (fn.name == "runtime.NumGoroutine") = false) {Post : V → Heap → Prop}
  (hr : wpL (cxL P h k m H.length lk) body ⟨argsT args, H⟩ (FinR P h k H.length lk.length rs.toList Post)) (hns : nilShape body = none := by rfl) : ∃ v H1, runL P h k args H lk = some (v, H1) ∧ Post v H1 := by
 obtain ⟨x, S, h1, h2, v, H1, h3, hp⟩ := hr
 exact ⟨v, H1, run_of_wp hfn hb hn hns (Nat.le_of_ble_eq_true hlen) hname hrs ⟨x, S, h1, h2, h3⟩, hp⟩
theorem leave_get {H G : Heap} (hl : H.length ≤ G.length) (d b : Nat) : (G.take H.length ++ (G.drop H.length).map (relevK d))[b]? = if b < H.length then G[b]? else (G[b]?).map (relevK d) := by
 have hl' : (G.take H.length).length = H.length := by rw [List.length_take]; omega
 by_cases h : b < H.length
 ·rw [if_pos h, List.getElem?_append_left (by omega), List.getElem?_take_of_lt h]
 ·rw [if_neg h, List.getElem?_append_right (by omega), hl', List.getElem?_map, List.getElem?_drop]
  congr 2
  omega
theorem lendArgs_lt {c : Cx} {G : Heap} : ∀ (vs vs' : List V) (M : List Nat), lendArgs c [] G vs = some (vs', M, G) → ∀ x ∈ M, x < G.length
 | [], vs', M, h => by
  simp only [lendArgs, Option.some.injEq, Prod.mk.injEq] at h
  obtain ⟨_, rfl, _⟩ := h
  intro x hx; cases hx
 | v :: vs, vs', M, h => by
  simp only [lendArgs, List.headD_nil, lendArg, List.tail_nil, Option.bind_eq_some_iff, Option.map_eq_some_iff, Prod.exists, Prod.mk.injEq] at h
  obtain ⟨v1, M1, H1, ⟨v2, M2, h1, rfl, rfl, rfl⟩, vs2, M3, H3, h2, rfl, rfl, rfl⟩ := h
  intro x hx
  rcases List.mem_append.1 hx with hx | hx
  ·exact lend_lt _ _ _ _ _ _ h1 x hx
  ·exact lendArgs_lt vs vs2 M3 h2 x hx
theorem locks_lt {c : Cx} {g : FuncId} {M : List Nat} {G : Heap} (hM : ∀ x ∈ M, x < G.length) (hb : c.base ≤ G.length) : ∀ x ∈ c.locksFor g M G, x < G.length := by
 intro x hx
 unfold Cx.locksFor at hx
 split at hx
 ·rcases List.mem_append.1 hx with hx | hx
  ·exact hM x hx
  ·exact List.mem_range.1 hx
 ·split at hx
  ·rcases List.mem_append.1 hx with hx | hx
   ·exact hM x hx
   ·exact Nat.lt_of_lt_of_le (List.mem_range.1 hx) hb
  ·exact hM x hx
section calls
variable {P : Program} {h : Hints} {fk n base : Nat} {lk : Lk} {ops : Array Oper} {s kk : Bool} {d : Nat} {ty : TypeId} {pos : String} {aft : Array Edge} {l : List (Bool × Bool × Oper)} {Q : St → Prop} {T : Nat → V} {G G' H : Heap} {rs : List Res}
theorem pCallL {f : Operand} {args : Array Operand} {ats : Array TypeId} {g : FuncId} {caps vs vs' : List V} {M : List Nat} {r : V} (hO : Owns H G rs) (hlo : LkOk lk H.length) (hb : base = H.length) (hr : ∀ L, LkOk (lk ++ [L]) G.length → runL P h g vs' G (lk ++ [L]) = some (r, G')) (k : wpR (cxL P h fk n base lk) ops l ⟨upd T d r, G'⟩ Q) (h1 : ev T f = some (.fn g caps) := by rfl) (h2 : evL T args.toList = some vs := by rfl) (h3 : lendArgs ((cxL P h fk n base lk).care s kk) [] G (vs ++ caps) = some (vs', M, G) := by rfl) (hd : Nat.blt d n = true := by rfl) (hm : h.modes g = [] := by rfl) :
  wpR (cxL P h fk n base lk) ops ((s, kk, ⟨some d, .call ⟨.value f, args, ats⟩, ty, pos, aft, none⟩) :: l) ⟨T, G⟩ Q := by
 refine pV ?_ hd k
 rw [opV_call]
 simp only [h1, h2, Option.bind_some, fnOf]
 show (lendArgs ((cxL P h fk n base lk).care s kk) (h.modes g) G (vs ++ caps)).bind _ = _
 rw [hm, h3]
 exact hr _ (hlo.push hO.len (locks_lt (lendArgs_lt _ _ _ h3) (by show base ≤ _; rw [hb]; exact hO.len)))
end calls
end Go.Proofs.Ytphpkphklegfeaa.K

