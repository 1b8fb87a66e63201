/-
  Values with types: what a Lean value is as cells, lists of such values, and the steps that use them. No conditions.
-/
import Derived.Test.YtblodpbcinkehaaKp
set_option linter.unusedVariables false
set_option linter.unusedSimpArgs false
namespace Go.Proofs.Ytblodpbcinkehaa.K

/-- What a Lean value is as cells, where the lists that it bears have level l (0: for ever). -/
class GoT (α : Type) where
  sz : Nat
  pos : 0 < sz
  encL : Nat → α → List V
  len : ∀ {l} x, (encL l x).length = sz
  cleanM : ∀ {m d} x, (m == 0 || decide (m < d)) = true → clean.cleanL d (encL m x) = true
  cell : ∀ {l} x, (encL l x).all V.isCell = true

theorem GoT.clean {α : Type} [GoT α] (x : α) : clean.cleanL 1 (GoT.encL 0 x) = true := GoT.cleanM x rfl
def flatL {α : Type} [GoT α] (m : Nat) (xs : List α) : List V := xs.flatMap (GoT.encL m)

/-- An int. -/
abbrev iv (x : Int) : V := .int .i64 x
/-- A list that is lent, or given for ever. -/
abbrev litL {α : Type} [GoT α] (l m : Nat) (xs : List α) : V := .lit l xs.length (flatL m xs)
theorem cleanL_append (d : Nat) : ∀ (xs ys : List V), clean.cleanL d (xs ++ ys) = (clean.cleanL d xs && clean.cleanL d ys)
  | [], ys => by simp [clean.cleanL]
  | x :: xs, ys => by simp only [List.cons_append, clean.cleanL, cleanL_append d xs ys, Bool.and_assoc]
theorem flat_cons {α : Type} [GoT α] {m : Nat} (x : α) (xs : List α) : flatL m (x :: xs) = GoT.encL m x ++ flatL m xs := rfl
theorem flat_nil {α : Type} [GoT α] {m : Nat} : flatL m ([] : List α) = [] := rfl
theorem flat_append {α : Type} [GoT α] {m : Nat} (xs ys : List α) : flatL m (xs ++ ys) = flatL m xs ++ flatL m ys := by simp [flatL]
theorem flat_len {α : Type} [GoT α] {m : Nat} : ∀ (xs : List α), (flatL m xs).length = xs.length * GoT.sz α
  | [] => by simp [flatL]
  | x :: xs => by rw [flat_cons, List.length_append, flat_len xs, GoT.len, List.length_cons, Nat.succ_mul, Nat.add_comm]
theorem flat_cleanM {α : Type} [GoT α] {m d : Nat} (h : (m == 0 || decide (m < d)) = true) : ∀ (xs : List α), clean.cleanL d (flatL m xs) = true
  | [] => rfl
  | x :: xs => by rw [flat_cons, cleanL_append, GoT.cleanM x h, flat_cleanM h xs]; rfl
theorem flat_clean {α : Type} [GoT α] (xs : List α) : clean.cleanL 1 ((flatL 0) xs) = true := flat_cleanM rfl xs
theorem flat_cell {α : Type} [GoT α] {m : Nat} : ∀ (xs : List α), (flatL m xs).all V.isCell = true
  | [] => rfl
  | x :: xs => by rw [flat_cons, List.all_append, GoT.cell, flat_cell xs]; rfl

instance : GoT Int := ⟨1, Nat.one_pos, fun _ x => [.int .i64 x], fun _ => rfl, fun _ _ => rfl, fun _ => rfl⟩
instance : GoT Bool := ⟨1, Nat.one_pos, fun _ x => [.bool x], fun _ => rfl, fun _ _ => rfl, fun _ => rfl⟩
instance : GoT ByteArray := ⟨1, Nat.one_pos, fun _ x => [.str x], fun _ => rfl, fun _ _ => rfl, fun _ => rfl⟩
instance {α : Type} [GoT α] : GoT (List α) := ⟨1, Nat.one_pos, fun l x => [.lit l x.length (flatL l x)], fun _ => rfl, fun x h => by simp only [clean.cleanL, K.clean, flat_cleanM h, h]; rfl, fun _ => rfl⟩

abbrev w64 (x : Int) : Int := IntKind.wrap .i64 x
def getI {α : Type} (xs : List α) (i : Int) : Option α := if 0 ≤ i then xs[i.toNat]? else none
theorem getI_lt {α : Type} {xs : List α} {i : Int} {x : α} (h : getI xs i = some x) : 0 ≤ i ∧ i < xs.length := by
  unfold getI at h
  split at h
  · rename_i h0
    have := (List.getElem?_eq_some_iff.1 h).1
    exact ⟨h0, by omega⟩
  · cases h
theorem getI_get {α : Type} {xs : List α} {i : Int} {x : α} (h : getI xs i = some x) : xs[i.toNat]? = some x := by
  unfold getI at h
  split at h
  · exact h
  · cases h
theorem flat_at {α : Type} [GoT α] {m : Nat} : ∀ {xs : List α} {j : Nat} {x : α}, xs[j]? = some x → ∃ a b, flatL m xs = a ++ (GoT.encL m x ++ b) ∧ a.length = j * GoT.sz α
  | [], j, x, h => by simp at h
  | y :: xs, 0, x, h => by
    simp only [List.getElem?_cons_zero, Option.some.injEq] at h
    subst h
    exact ⟨[], flatL m xs, by simp [flat_cons], by simp⟩
  | y :: xs, j + 1, x, h => by
    simp only [List.getElem?_cons_succ] at h
    obtain ⟨a, b, h1, h2⟩ := flat_at h
    exact ⟨GoT.encL m y ++ a, b, by rw [flat_cons, h1, List.append_assoc], by rw [List.length_append, GoT.len, h2, Nat.succ_mul, Nat.add_comm]⟩
theorem flat_cellAt {α : Type} [GoT α] {m : Nat} {xs : List α} {i : Int} {x : α} (h : getI xs i = some x) {off : Nat} (ho : off < GoT.sz α) : (flatL m xs)[i.toNat * GoT.sz α + off]? = (GoT.encL m x)[off]? := by
  obtain ⟨a, b, h1, h2⟩ := flat_at (getI_get h)
  rw [h1, List.getElem?_append_right (by omega), h2, Nat.add_sub_cancel_left, List.getElem?_append_left (by rw [GoT.len]; exact ho)]
theorem flat_part {α : Type} [GoT α] {m : Nat} {xs : List α} {i : Int} {x : α} (h : getI xs i = some x) {off k : Nat} (ho : off + k ≤ GoT.sz α) : ((flatL m xs).drop (i.toNat * GoT.sz α + off)).take k = ((GoT.encL m x).drop off).take k := by
  obtain ⟨a, b, h1, h2⟩ := flat_at (getI_get h)
  rw [h1, ← h2, List.drop_append, List.drop_of_length_le (by omega), List.nil_append]
  rw [show a.length + off - a.length = off by omega, List.drop_append_of_le_length (by rw [GoT.len]; omega), List.take_append_of_le_length (by rw [List.length_drop, GoT.len]; omega)]
theorem flat_fits {α : Type} [GoT α] {m : Nat} {xs : List α} {i : Int} {x : α} (h : getI xs i = some x) : i.toNat * GoT.sz α + GoT.sz α ≤ (flatL m xs).length := by
  obtain ⟨a, b, h1, h2⟩ := flat_at (getI_get h)
  rw [h1, List.length_append, List.length_append, GoT.len]
  omega
theorem flat_set {α : Type} [GoT α] {m : Nat} {xs : List α} {i : Int} {x : α} (h : getI xs i = some x) (y : α) : splice (flatL m xs) (i.toNat * GoT.sz α) (GoT.encL m y) = flatL m (xs.set i.toNat y) := by
  have key : ∀ (xs : List α) (j : Nat), j < xs.length → splice (flatL m xs) (j * GoT.sz α) (GoT.encL m y) = flatL m (xs.set j y) := by
    intro xs
    induction xs with
    | nil => intro j hj; simp at hj
    | cons z xs ih =>
      intro j hj
      cases j with
      | zero =>
        unfold splice
        rw [List.set_cons_zero, flat_cons, flat_cons, Nat.zero_mul, List.take_zero, List.nil_append, Nat.zero_add, GoT.len, List.drop_append, List.drop_of_length_le (by rw [GoT.len]; exact Nat.le_refl _), List.nil_append, GoT.len, Nat.sub_self, List.drop_zero]
      | succ j =>
        have hj' : j < xs.length := by simpa using hj
        rw [List.set_cons_succ, flat_cons, flat_cons, ← ih j hj']
        unfold splice
        have e1 : (j + 1) * GoT.sz α = (GoT.encL m z).length + j * GoT.sz α := by rw [GoT.len, Nat.succ_mul, Nat.add_comm]
        rw [e1, List.take_length_add_append, Nat.add_assoc, List.drop_length_add_append]
        simp [List.append_assoc]
  exact key xs _ (by have := getI_lt h; omega)
theorem flat_rep {α : Type} [GoT α] {m : Nat} (z : α) (n : Nat) : (List.replicate n (GoT.encL m z)).flatten = flatL m (List.replicate n z) := by
  induction n with
  | zero => rfl
  | succ n ih => rw [List.replicate_succ, List.flatten_cons, ih]; rfl

section reads
variable {P : Program} {α : Type} [GoT α] {lm : Nat} {xs : List α} {i : Int} {x : α} {t : TypeId} {off m : Nat} {v : V} {cs : List V}
theorem rd1 (h : getI xs i = some x) (ha : aggT P t = some false) (hv : (GoT.encL lm x)[off]? = some v := by rfl) : readCells P t (flatL lm xs) (i.toNat * GoT.sz α + off) = some v := by
  unfold readCells
  rw [ha]
  have : off < GoT.sz α := by rw [← GoT.len x]; exact (List.getElem?_eq_some_iff.1 hv).1
  simp only [flat_cellAt h this, hv]
theorem rd2 (h : getI xs i = some x) (ha : aggT P t = some true) (hz : szOf P t = some m) (hm : Nat.ble (off + m) (GoT.sz α) = true := by rfl) (hv : ((GoT.encL lm x).drop off).take m = cs := by rfl) : readCells P t (flatL lm xs) (i.toNat * GoT.sz α + off) = some (.agg cs) := by
  have hm := Nat.le_of_ble_eq_true hm
  unfold readCells
  rw [ha, hz]
  simp only [Option.bind_some]
  rw [if_pos (by have := flat_fits (m := lm) h; omega), flat_part h hm, hv]
end reads

theorem clean_up {d d' : Nat} (hd : d ≤ d') (hd0 : 0 < d) : ∀ (v : V), clean d v = true → clean d' v = true := by
  have key : ∀ (v : V), (clean d v = true → clean d' v = true) := by
    intro v
    refine V.rec (motive_1 := fun v => clean d v = true → clean d' v = true) (motive_2 := fun vs => clean.cleanL d vs = true → clean.cleanL d' vs = true) ?_ ?_ ?_ ?_ ?_ ?_ ?_ ?_ ?_ ?_ ?_ ?_ ?_ ?_ ?_ ?_ ?_ ?_ v
    all_goals intros
    all_goals (try (simp only [clean, Bool.and_eq_true, Bool.or_eq_true, decide_eq_true_eq] at *))
    all_goals (try trivial)
    · rename_i lv n cs ih h
      exact ⟨by rcases h.1 with h1 | h1; exact .inl h1; exact .inr (by omega), ih h.2⟩
    all_goals (try (rename_i ih h; exact ih h))
    · rename_i a as h1 h2 h
      simp only [clean.cleanL, Bool.and_eq_true] at h ⊢
      exact ⟨h1 h.1, h2 h.2⟩
  exact key
theorem cleanL_up {d d' : Nat} (hd : d ≤ d') (hd0 : 0 < d) : ∀ (vs : List V), clean.cleanL d vs = true → clean.cleanL d' vs = true
  | [], _ => rfl
  | v :: vs, h => by
    simp only [clean.cleanL, Bool.and_eq_true] at h ⊢
    exact ⟨clean_up hd hd0 v h.1, cleanL_up hd hd0 vs h.2⟩

/-- Clean cells leave as they are. -/
theorem resL_clean {th : Bool} {lo d k : Nat} {X : Heap × List Blk} : ∀ (vs : List V), clean.cleanL d vs = true → vs.all V.isCell = true → resV.resL (resV th lo d (k + 1)) X vs = some (vs, X)
  | [], _, _ => rfl
  | v :: vs, h, hc => by
    simp only [clean.cleanL, Bool.and_eq_true] at h
    simp only [List.all_cons, Bool.and_eq_true] at hc
    have : resV th lo d (k + 1) X v = some (v, X) := by
      cases v with
      | lit lv n cs => simp only [resV]; rw [if_pos h.1]
      | int _ _ => rfl
      | bool _ => rfl
      | str _ => rfl
      | nilp => rfl
      | nilfn => rfl
      | agg cs => cases hc.1
      | tup cs => cases hc.1
      | _ => simp [clean] at h
    simp only [resV.resL, this, Option.bind_some, resL_clean vs h.2 hc.2, Option.map_some]
theorem lendL_clean {lv : Nat} {H : Heap} {k : Nat} : ∀ (vs : List V), clean.cleanL 1 vs = true → vs.all V.isCell = true → lendV.lendL (lendV lv H (k + 1)) vs = some (vs, [])
  | [], _, _ => rfl
  | v :: vs, h, hc => by
    simp only [clean.cleanL, Bool.and_eq_true] at h
    simp only [List.all_cons, Bool.and_eq_true] at hc
    have : lendV lv H (k + 1) v = some (v, []) := by
      cases v with
      | lit lv n cs => rfl
      | int _ _ => rfl
      | bool _ => rfl
      | str _ => rfl
      | nilp => rfl
      | nilfn => rfl
      | agg cs => cases hc.1
      | tup cs => cases hc.1
      | _ => simp [clean] at h
    simp only [lendV.lendL, this, Option.bind_some, lendL_clean vs h.2 hc.2, Option.map_some, List.append_nil]

theorem resL_clean' {th : Bool} {lo d k : Nat} {X : Heap × List Blk} (hk : 0 < k) (vs : List V) (h : clean.cleanL d vs = true) (hc : vs.all V.isCell = true) : resV.resL (resV th lo d k) X vs = some (vs, X) := by
  obtain ⟨k, rfl⟩ := Nat.exists_eq_succ_of_ne_zero (Nat.pos_iff_ne_zero.1 hk)
  exact resL_clean vs h hc
theorem lendL_clean' {lv k : Nat} {H : Heap} (hk : 0 < k) (vs : List V) (h : clean.cleanL 1 vs = true) (hc : vs.all V.isCell = true) : lendV.lendL (lendV lv H k) vs = some (vs, []) := by
  obtain ⟨k, rfl⟩ := Nat.exists_eq_succ_of_ne_zero (Nat.pos_iff_ne_zero.1 hk)
  exact lendL_clean vs h hc

/-- 'make': how many. -/
def makeB (bytes : Nat) (n : Int) : Option Nat := if 0 ≤ n ∧ n * (bytes + 1) ≤ 70368744177664 then some n.toNat else none

section steps
variable {P : Program} {h : Hints} {fk n base : Nat} {lk : Lk} {c : Cx} {ops : Array Oper} {s kk : Bool} {d : Nat} {ty : TypeId} {pos : String} {aft : Array Edge} {l : List (Bool × Bool × Oper)} {Q : St → Prop} {T : Nat → V} {G G' H : Heap} {rs : List Res} {op : Op}
variable {α : Type} [GoT α]

theorem pX {lm : Nat} {xs : List α} {i : Int} {x : α} {t e : TypeId} {y z : Operand} {lv : Nat} {kd : IntKind} (hc : getI xs i = some x) (he : elemT P t = some e) (hz : szOf P e = some (GoT.sz α)) (k : wpR (cxL P h fk n base lk) ops l ⟨upd T d (.lp lv (flatL lm xs) (i.toNat * GoT.sz α)), G⟩ Q)
    (h1 : ev T y = some (.lit lv xs.length (flatL lm xs)) := by rfl) (h2 : ev T z = some (.int kd i) := by rfl) (hd : Nat.blt d n = true := by rfl) :
    wpR (cxL P h fk n base lk) ops ((s, kk, ⟨some d, .indexAddr t y z, ty, pos, aft, none⟩) :: l) ⟨T, G⟩ Q := by
  refine pV ?_ hd k
  rw [opV_indexAddr]
  show (elemT P t).bind _ = _
  rw [he, Option.bind_some]
  show (szOf P e).bind _ = _
  simp only [hz, h1, h2, Option.bind_some, asInt, idxP, lenK]
  rw [if_pos (getI_lt hc)]
  rfl
/-- The place of an element of a made list. -/
theorem pXm {xs : List α} {i : Int} {x : α} {t e : TypeId} {y z : Operand} {b m : Nat} {kd : IntKind} (hl : xs.length = m) (hc : getI xs i = some x) (he : elemT P t = some e) (hz : szOf P e = some (GoT.sz α)) (k : wpR (cxL P h fk n base lk) ops l ⟨upd T d (.ptr b (i.toNat * GoT.sz α)), G⟩ Q)
    (h1 : ev T y = some (.sl b 0 m) := by rfl) (h2 : ev T z = some (.int kd i) := by rfl) (hd : Nat.blt d n = true := by rfl) :
    wpR (cxL P h fk n base lk) ops ((s, kk, ⟨some d, .indexAddr t y z, ty, pos, aft, none⟩) :: l) ⟨T, G⟩ Q := by
  subst hl
  refine pV ?_ hd k
  rw [opV_indexAddr]
  show (elemT P t).bind _ = _
  rw [he, Option.bind_some]
  show (szOf P e).bind _ = _
  simp only [hz, h1, h2, Option.bind_some, asInt, idxP, lenK]
  rw [if_pos (getI_lt hc)]
  simp
theorem pMk {a : Int} {m by_ : Nat} {t e : TypeId} {y z' : Operand} (hO : Owns H G rs) (hm : makeB by_ a = some m) (zv : α) (he : elemT P t = some e) (hz : szOf P e = some (GoT.sz α)) (hb : bytesOf P e = some by_) {z : List V} (hzero : zeroOf P e = some z)
    (k : ∀ b G', Owns H G' (.blk b (.cells (GoT.sz α) ((flatL 0) (List.replicate m zv))) :: rs) → wpR (cxL P h fk n base lk) ops l ⟨upd T d (.sl b 0 m), G'⟩ Q)
    (h0 : z.map (nilIf (h.keep fk)) = (GoT.encL 0) zv := by rfl) (h1 : ev T y = some (.int .i64 a) := by rfl) (h2 : ev T z' = some (.int .i64 a) := by rfl) (hd : Nat.blt d n = true := by rfl) :
    wpR (cxL P h fk n base lk) ops ((s, kk, ⟨some d, .makeSlice t y z', ty, pos, aft, none⟩) :: l) ⟨T, G⟩ Q := by
  unfold makeB at hm
  split at hm
  case isFalse => cases hm
  rename_i hc
  simp only [Option.some.injEq] at hm
  subst hm
  refine pV ?_ hd (k _ _ (hO.alloc _))
  rw [opV_makeSlice]
  simp only [h1, h2, Option.bind_some, makeK]
  show (elemT P t).bind _ = _
  rw [he, Option.bind_some]
  show (szOf P e).bind _ = _
  rw [hz, Option.bind_some]
  show (bytesOf P e).bind _ = _
  rw [hb, Option.bind_some]
  show (zeroOf P e).bind _ = _
  rw [hzero, Option.bind_some, if_pos ⟨trivial, hc.1, hc.2, by rw [← List.length_map (f := nilIf (h.keep fk)), h0]; exact GoT.len zv, Nat.pos_iff_ne_zero.1 (GoT.pos)⟩]
  show some (V.sl G.length 0 a.toNat, G ++ [Blk.cells (GoT.sz α) (List.replicate a.toNat (z.map (nilIf (h.keep fk)))).flatten]) = _
  rw [h0, flat_rep]
/-- A store of a whole element of a made list. -/
theorem pSm {xs : List α} {i : Int} {x : α} {t : TypeId} {y z : Operand} {b sz : Nat} (hO : Owns H G rs) (j : Nat) (hc : getI xs i = some x) (hz : szOf P t = some (GoT.sz α)) (hb : base = H.length) (yv : α) (v : V)
    (k : ∀ G', Owns H G' (rs.set j (.blk b (.cells sz ((flatL 0) (xs.set i.toNat yv))))) → wpR (cxL P h fk n base lk) ops l ⟨T, G'⟩ Q)
    (h1 : ev T y = some (.ptr b (i.toNat * GoT.sz α)) := by rfl) (hj : rs[j]? = some (.blk b (.cells sz ((flatL 0) xs))) := by rfl) (h2 : ev T z = some v := by rfl) (h3 : v.cellsOf = (GoT.encL 0) yv := by rfl) :
    wpR (cxL P h fk n base lk) ops ((s, kk, ⟨none, .store t y z, ty, pos, aft, none⟩) :: l) ⟨T, G⟩ Q := by
  subst hb
  obtain ⟨hg, hbb⟩ := hO.get hj
  have hlt : b < G.length := (List.getElem?_eq_some_iff.1 hg).1
  refine pV0 (v := undefV) ?_ (k _ (hO.set (x := .cells sz ((flatL 0) (xs.set i.toNat yv))) hj rfl rfl ⟨hbb, by rw [set_get, if_pos ⟨rfl, hlt⟩]⟩))
  rw [opV_store]
  simp only [h1, h2, Option.bind_some, storeK]
  have hm : ((cxL P h fk n H.length lk).care s kk).mayWrite b = true := by
    unfold Cx.mayWrite
    simp only [Bool.or_eq_true, decide_eq_true_eq]
    exact .inl hbb
  have hnb : ¬ b < ((cxL P h fk n H.length lk).care s kk).base := Nat.not_lt.2 hbb
  rw [if_pos hm, if_neg hnb]
  simp only [Option.bind_some, hg, h3]
  have e1 : szOf P t = some ((GoT.encL 0) yv).length := by rw [GoT.len]; exact hz
  have e2 : i.toNat * GoT.sz α + ((GoT.encL 0) yv).length ≤ ((flatL 0) xs).length := by rw [GoT.len]; exact flat_fits hc
  rw [flat_set hc]
  exact congrArg (fun x : Option Heap => x.map fun H => (undefV, H)) (if_pos ⟨e1, e2, GoT.cell yv⟩)
end steps

theorem resV_sl {α : Type} [GoT α] {xs : List α} {lo d k b : Nat} {G : Heap} (hd : 0 < d) (hbb : lo ≤ b) (hgb : G[b]? = some (.cells (GoT.sz α) ((flatL 0) xs))) : resV false lo d (k + 2) (G, []) (.sl b 0 xs.length) = some (.lit 0 xs.length ((flatL 0) xs), (G.set b .dead, [])) := by
  rw [resV]
  rw [if_neg (Nat.not_lt.2 hbb)]
  simp only [hgb]
  have e0 : ¬ (((flatL 0) xs).length < 0 + xs.length * GoT.sz α) := by rw [flat_len]; omega
  have e1 : (List.drop 0 ((flatL 0) xs)).take (xs.length * GoT.sz α) = (flatL 0) xs := by rw [List.drop_zero]; exact List.take_of_length_le (by rw [flat_len]; exact Nat.le_refl _)
  have e2 := resL_clean' (th := false) (lo := lo) (d := d) (k := k + 1) (X := (G.set b .dead, [])) (Nat.succ_pos k) ((flatL 0) xs) (cleanL_up hd Nat.one_pos _ (flat_clean xs)) (flat_cell xs)
  rw [if_neg e0, e1, e2]
  rfl
/-- A made list as a result. -/
theorem finM {P : Program} {h : Hints} {k d : Nat} {lr : List ResultVar} {T : Nat → V} {G H : Heap} {rs : List Res} {vs : List V} {α : Type} [GoT α] {xs : List α} {b sz m : Nat} {x : X} (hO : Owns H G rs) (j : Nat) (hl : xs.length = m) (hd : 0 < d) (hsz : sz = GoT.sz α := by rfl) (hg : h.grow k = false := by rfl) (ht : h.thaw k = false := by rfl) (h1 : resultsK P G T lr = some vs := by rfl) (h2 : oneOf vs = .sl b 0 m := by rfl)
    (hj : rs[j]? = some (.blk b (.cells sz ((flatL 0) xs))) := by rfl) (hx : x = .normal ∨ x = .ret := by first | exact Or.inl rfl | exact Or.inr rfl) : Fin P h k H.length d lr (.lit 0 xs.length ((flatL 0) xs), H) x ⟨T, G⟩ := by
  subst hsz hl
  obtain ⟨hgb, hbb⟩ := hO.get hj
  have hlt : b < G.length := (List.getElem?_eq_some_iff.1 hgb).1
  refine fin (v' := .lit 0 xs.length ((flatL 0) xs)) (G2 := G.set b .dead) hO hg hx h1 h2 ?_ ?_
  · rw [ht]
    exact resV_sl (k := 6) hd hbb hgb
  · apply List.ext_getElem?
    intro i
    rw [List.getElem?_take]
    split
    · rename_i hi
      rw [set_get, if_neg (by omega)]
      exact hO.pre i hi
    · rename_i hi; rw [List.getElem?_eq_none (by omega)]

section ends
variable {P : Program} {h : Hints} {k d : Nat} {lr : List ResultVar} {T : Nat → V} {G H : Heap} {rs : List Res} {vs : List V} {α : Type} [GoT α] {x : X}
theorem wpL_drw {c : Cx} {ops : Array Oper} {S : St} {Q : X → St → Prop} {id : Nat} (l : List (Nat × Bool)) (l' : List (Bool × Bool × Oper)) (h : drawL ops l = true) (hl : drawnL ops l = l') (hq : wpR c ops l' S (Q .normal)) : wpL c (.region id ops true) S Q := by
  subst hl; exact wpL_draw l h hq
theorem wpL_drp {c : Cx} {ops : Array Oper} {S : St} {Q : X → St → Prop} {id : Nat} (l : List (Nat × Bool)) (ps : List (Nat × Nat)) (l' : List (Bool × Bool × Oper)) (h : drawP ops l ps = true) (hl : drawnL ops l = l') (hq : wpR c ops l' S fun S' => (ps.all fun p => placesOk c.base (S'.T p.1) (S'.T p.2)) = true ∧ Q .normal S') : wpL c (.region id ops true) S Q := by
  subst hl; exact wpL_drawP l ps h hq
theorem resC {t b off sz m : Nat} {a : Nat} {cs : List V} (hO : Owns H G rs) (j : Nat) (cs' : List V) (ha : aggT P t = some true) (hz : szOf P t = some m) (h1 : T a = .ptr b off := by rfl) (hj : rs[j]? = some (.blk b (.cells sz cs)) := by rfl) (h2 : Nat.ble (off + m) cs.length = true := by rfl) (h3 : (cs.drop off).take m = cs' := by rfl) : resultsK P G T [.cell a t] = some [.agg cs'] := by
  subst h3
  simp only [resultsK, h1, loadK, (hO.get hj).1, readCells, ha, hz, Option.bind_some, if_pos (Nat.le_of_ble_eq_true h2), Option.map_some]
theorem resV_agg {lo d k : Nat} {X : Heap × List Blk} (hd : 0 < d) (rv : α) : resV false lo d (k + 2) X (.agg ((GoT.encL 0) rv)) = some (.agg ((GoT.encL 0) rv), X) := by
  rw [resV, resL_clean' (Nat.succ_pos k) _ (cleanL_up hd Nat.one_pos _ (GoT.clean rv)) (GoT.cell rv)]
  rfl
/-- A struct as a result. -/
theorem finA (rv : α) (hO : Owns H G rs) (hd : 0 < d) (h1 : resultsK P G T lr = some vs) (h2 : oneOf vs = .agg ((GoT.encL 0) rv) := by rfl) (hg : h.grow k = false := by rfl) (ht : h.thaw k = false := by rfl) (hx : x = .normal ∨ x = .ret := by first | exact Or.inl rfl | exact Or.inr rfl) : Fin P h k H.length d lr (.agg ((GoT.encL 0) rv), H) x ⟨T, G⟩ := by
  refine fin hO hg hx h1 h2 (v' := .agg ((GoT.encL 0) rv)) (G2 := G) ?_ hO.out
  rw [ht]
  exact resV_agg (k := 6) hd rv
/-- A list that is for ever as a result. -/
theorem finL (xs : List α) (hO : Owns H G rs) (hd : 0 < d) (h1 : resultsK P G T lr = some vs := by rfl) (h2 : oneOf vs = .lit 0 xs.length ((flatL 0) xs) := by rfl) (hg : h.grow k = false := by rfl) (hx : x = .normal ∨ x = .ret := by first | exact Or.inl rfl | exact Or.inr rfl) : Fin P h k H.length d lr (.lit 0 xs.length ((flatL 0) xs), H) x ⟨T, G⟩ := by
  refine fin hO hg hx h1 h2 (v' := .lit 0 xs.length ((flatL 0) xs)) (G2 := G) ?_ hO.out
  show resV (h.thaw k) H.length d (7 + 1) (G, []) _ = _
  rw [resV, if_pos]
  simp only [clean, beq_self_eq_true, Bool.true_or, Bool.true_and]
  exact cleanL_up hd Nat.one_pos _ (flat_clean xs)
end ends

end Go.Proofs.Ytblodpbcinkehaa.K
