/-
 Part of a proof. No conditions.
-/
import Derived.Test.YtjklepgidjimfaaGreatK1
import Derived.WalkKit
import Derived.ProofKit
import Derived.OpenShut
import Derived.ShutString
import Derived.ChangeOld
import Derived.Below
import Derived.SizedLaws
import Derived.Carry
import Derived.IntWalk
import GoSem.ClaimFn
import Derived.KernelRfl
set_option linter.unusedVariables false
set_option linter.unusedSimpArgs false
namespace Go.Proofs.YtjklepgidjimfaaGreat.K
open Go renaming Oper → fc, Operand → ed, TypeId → ea, FuncId → jc, Program → ep, ResultVar → ir, IntKind → jo, World → je, Value → eu
open Option.some renaming injEq → an, inj → dv
open Prod.mk renaming injEq → dk
open Nat renaming le_refl → dz, lt_of_lt_of_le → fw, lt_irrefl → lq, lt_or_ge → fp, le_max_left → kz, le_max_right → km, blt → fj, le_of_ble_eq_true → fb, ble → jn, not_lt → ib, succ_mul → kr, add_comm → lu, one_pos → ig, add_sub_cancel_left → nq, zero_add → kb, sub_self → kh, add_assoc → la, pos_iff_ne_zero → jt, zero_le → ga, add_zero → nr, eq_zero_or_pos → ke, add_mul → kq, sub_add_cancel → qe, beq → gp
open List renaming map_cons → gq, range → gj, ext_getElem? → lj, getElem?_map → ic, getElem?_eq_none → en, map_map → pc, all_eq_true → gb, mem_map → iw, mem_cons_self → fh, mem_cons_of_mem → fm, getElem?_cons_zero → iz, mem_singleton → dt, getElem?_eq_some_iff → du, getElem?_eq_getElem → dr, getElem?_append_left → eh, length_append → dw, mem_cons → fi, pairwise_cons → il, pairwise_iff_getElem → fx, length_set → fa, getElem_set → iu, mem_of_getElem? → ee, mem_iff_getElem → ij, getElem_mem → gl, getElem?_take → gm, cons_append → ie, append_nil → gi, length_cons → er, all_append → gk, getElem?_cons_succ → nj, append_assoc → eo, getElem?_append_right → fe, drop_append → ob, drop_of_length_le → ln, nil_append → gu, length_drop → ko, set_cons_zero → pz, take_zero → qt, drop_zero → mn, take_length_add_append → oc, drop_length_add_append → od, replicate → gf, replicate_succ → ny, all_cons → jr, length_map → ja, mapM_cons → nu, drop_drop → qu, take_append_drop → pe, take_of_length_le → jy, set_append_right → pf, length_take → gh, length_replicate → mh, map_append → ju, eq_nil_of_length_eq_zero → ff, getElem?_set → mb, getElem_eraseIdx → ph, length_eraseIdx → nm, eraseIdx_sublist → jq, headD_nil → qv, tail_nil → qx, take_length → mi, all_nil → re, length_singleton → jm, mem_append → eb, contains_iff_mem → pj, mem_range → ik, nodup_append → fy, mem_append_right → ft, mem_append_left → ew, drop → qj, nodup_cons → ia, length_eq_one_iff → nh
open List.cons renaming injEq → js
open Option renaming map_some → dq, map_eq_some_iff → dn, bind_some → ba, bind_eq_some_iff → dj, pure_def → my, bind_eq_bind → nk, map_none → kl
open Bool renaming and_eq_true → ec, false_eq_true → ei, or_eq_true → gg, eq_iff_iff → gz, and_true → pw, true_or → rf, not_eq_true' → jj, not_eq_true → qi
open Classical renaming choose → iy, choose_spec → fz
open Int renaming toNat_natCast → jv
def HC (c : Cx) (b : Code) (S : St) (Q : X → St → Prop) : Prop := ∃ x S', EN c b S = some (x, S') ∧ Q x S'
def QM (k : St → Prop) (Q : X → St → Prop) (x : X) (S : St) : Prop := match x with | .normal => k S | x => Q x S
def D6 (T : Nat → V) (d : Nat) (v : V) : Nat → V := fun i => if i = d then v else T i
theorem Oy (T : Nat → V) (d : Nat) (v : V) (i : Nat) : D6 T d v i = if i = d then v else T i := rfl
def NF (c : Cx) (ops : Array fc) : List (Bool × Bool × fc) → St → Option St
 | [], S => some S
 | (s, k, o) :: l, S => (C1 (c.Ay s k) ops o S).bind fun S' => NF c ops l S'
def BZ (c : Cx) (ops : Array fc) (l : List (Bool × Bool × fc)) (S : St) (Q : St → Prop) : Prop := ∃ S', NF c ops l S = some S' ∧ Q S'
def oI (x : Option (V × A5)) (Q : V → A5 → Prop) : Prop := ∃ v H, x = some (v, H) ∧ Q v H
def oH {α : Type} (x : Option α) (Q : α → Prop) : Prop := ∃ v, x = some v ∧ Q v
def He (c : Cx) (op : Op) (S : St) : Option (V × A5) := Cn c ⟨none, op, 0, "", #[], none⟩ S
theorem TP (c : Cx) (o : fc) (S : St) : Cn c o S = He c o.op S := rfl
theorem fA {α : Type} (a : α) (Q : α → Prop) : oH (some a) Q = Q a := by
 apply propext
 simp [oH]
section
variable {c : Cx} {ops : Array fc} {S : St} {Q : X → St → Prop}
theorem Wv {x : X} : (∃ x' S', some (x, S) = some (x', S') ∧ Q x' S') ↔ Q x S := by
 constructor
 ·rintro ⟨x', S', h, hq⟩
  simp only [an, dk] at h
  obtain ⟨rfl, rfl⟩ := h
  exact hq
 ·exact fun h => ⟨_, _, rfl, h⟩
theorem eZ : HC c .skip S Q = Q .normal S := by
 apply propext; unfold HC; rw [Vo]; exact Wv
theorem eX (id : Nat) : HC c (.exit id) S Q = Q (.exit id) S := by
 apply propext; unfold HC; rw [Vm]; exact Wv
theorem k9 : HC c .ret S Q = Q .ret S := by
 apply propext; unfold HC; rw [Y2]; exact Wv
theorem Xq (p q : Code) : HC c (.seq p q) S Q = HC c p S (QM (fun S' => HC c q S' Q) Q) := by
 apply propext
 unfold HC
 simp only [Y3, VK]
 constructor
 ·rintro ⟨x, S', h, hq⟩
  split at h
  ·rename_i S1 h1
   exact ⟨.normal, S1, h1, x, S', h, hq⟩
  ·rename_i sq
   refine ⟨x, S', h, ?_⟩
   cases x with
   | normal => exact absurd h (sq S')
   | exit i => exact hq
   | ret => exact hq
 ·rintro ⟨x, S', h, hq⟩
  rw [h]
  cases x with
  | normal => exact hq
  | exit i => exact ⟨_, _, rfl, hq⟩
  | ret => exact ⟨_, _, rfl, hq⟩
def nW (v : V) (A B : Prop) : Prop := match v with | .bool true => A | .bool false => B | _ => False
theorem Z2 (b : Bool) (A B : Prop) : nW (.bool b) A B = if b then A else B := by cases b <;> rfl
theorem eV (y : ed) (p q : Code) : HC c (.cond y p q) S Q = oH (ev S.T y) fun v => nW v (HC c p S Q) (HC c q S Q) := by
 apply propext
 unfold HC
 simp only [Vk, oH]
 constructor
 ·rintro ⟨x, S', h, hq⟩
  split at h
  ·rename_i hy; exact ⟨_, hy, x, S', h, hq⟩
  ·rename_i hy; exact ⟨_, hy, x, S', h, hq⟩
  ·cases h
 ·rintro ⟨v, hv, h⟩
  rw [hv]
  unfold nW at h
  split at h
  ·exact h
  ·exact h
  ·exact h.elim
theorem Z3 (id : Nat) (p : Code) : HC c (.block id p) S Q = HC c p S fun x S' => match x with | .exit i => if i = id then Q .normal S' else Q (.exit i) S' | x => Q x S' := by
 apply propext
 unfold HC
 simp only [UC]
 constructor
 ·rintro ⟨x, S', h, hq⟩
  split at h
  ·rename_i i S1 h1
   refine ⟨_, _, h1, ?_⟩
   split at h <;>
   ·rename_i hi
    simp only [an, dk] at h
    obtain ⟨rfl, rfl⟩ := h
    simp only [hi, if_true, if_false]
    exact hq
  ·rename_i sq
   refine ⟨x, S', h, ?_⟩
   cases x with
   | normal => exact hq
   | exit i => exact absurd h (sq i S')
   | ret => exact hq
 ·rintro ⟨x, S', h, hq⟩
  rw [h]
  cases x with
  | normal => exact ⟨_, _, rfl, hq⟩
  | exit i =>
   simp only [] at hq ⊢
   split at hq
   ·rename_i hi; rw [ru hi]; exact ⟨_, _, rfl, hq⟩
   ·rename_i hi; rw [rr hi]; exact ⟨_, _, rfl, hq⟩
  | ret => exact ⟨_, _, rfl, hq⟩
theorem Mq {b : Code} {Q' : X → St → Prop} (h : HC c b S Q) (hq : ∀ x S, Q x S → Q' x S) : HC c b S Q' :=
 let ⟨x, S', h1, h2⟩ := h; ⟨x, S', h1, hq _ _ h2⟩
theorem eY {p : Code} (I : Nat → St → Prop) : ∀ (n : Nat) {S : St}, I n S → (∀ k S, k ≤ n → I k S → HC c p S (QM (fun S' => ∃ j, j < k ∧ I j S') Q)) → HC c (.loop p) S Q := by
 intro n
 induction n using Nat.strongRecOn with
 | _ n ih =>
  intro S h0 uk
  obtain ⟨x, S1, h1, h2⟩ := uk n S (dz _) h0
  unfold HC
  rw [Vn, h1]
  unfold QM at h2
  cases x with
  | normal =>
   obtain ⟨j, hj, hI⟩ := h2
   exact ih j hj hI fun k S hk hI => uk k S (by omega) hI
  | exit i => exact ⟨_, _, rfl, h2⟩
  | ret => exact ⟨_, _, rfl, h2⟩
theorem TS {cf : Nat → Cx} {fl : Nat → Bool × Bool} (hcf : ∀ i, cf i = c.Ay (fl i).1 (fl i).2) : ∀ (l : List Nat) (l' : List (Bool × Bool × fc)) (S : St), (l.map fun i => (ops[i]?).map fun o => ((fl i).1, (fl i).2, o)) = l'.map some → Dr cf ops l S = NF c ops l' S
 | [], l', S, h => by
  cases l' with
  | nil => rfl
  | cons x l' => simp at h
 | i :: l, l', S, h => by
  cases l' with
  | nil => simp at h
  | cons x l' =>
   simp only [gq, js] at h
   obtain ⟨h1, h2⟩ := h
   cases ho : ops[i]? with
   | none => rw [ho] at h1; cases h1
   | some o =>
    rw [ho] at h1
    simp only [dq, an] at h1
    subst h1
    simp only [Dr, ho, NF, hcf i]
    congr 1
    funext S'
    exact TS hcf l l' S' h2
def WZ (ops : Array fc) : List (Bool × Bool × fc) := ops.toList.map fun o => (false, false, o)
theorem Ym (l : List fc) : (gj l.length).map (fun i => l[i]?) = l.map some := by
 apply lj
 intro i
 simp only [ic]
 by_cases h : i < l.length
 ·simp [h]
 ·rw [en (by simp; omega), en (by omega)]
  rfl
theorem Wu (hc : c.still = false ∧ c.calm = false) (id : Nat) (ops : Array fc) : HC c (.region id ops false) S Q = BZ c ops (WZ ops) S (Q .normal) := by
 have h1 : Dr (fun _ => c) ops (gj ops.size) S = NF c ops (WZ ops) S := by
  refine TS (fl := fun _ => (false, false)) (fun i => ?_) _ _ _ ?_
  ·unfold Cx.Ay
   cases c
   simp only [Cx.mk.injEq, true_and] at hc ⊢
   exact ⟨hc.1, hc.2, trivial⟩
  ·have := Ym ops.toList
   unfold WZ
   rw [pc]
   have h2 := congrArg (List.map (Option.map fun o => (false, false, o))) this
   simp only [pc] at h2
   simpa [Function.comp_def] using h2
 apply propext
 unfold HC BZ
 rw [Sq, h1]
 constructor
 ·rintro ⟨x, S', h, hq⟩
  simp only [dn, dk] at h
  obtain ⟨S1, h1, rfl, rfl⟩ := h
  exact ⟨S1, h1, hq⟩
 ·rintro ⟨S', h, hq⟩
  exact ⟨.normal, S', by rw [h]; rfl, hq⟩
def ZQ (ow : Bool) (ops : Array fc) (l : List (Nat × Bool)) (ps : List (Nat × Nat)) : Bool := Js ow ops && RV ow ops == l.map (·.1) && (l.all fun x => L4 ops (G7 ops) x.1 == x.2) && dL ops (G7 ops) == ps
def ZP (ow : Bool) (ops : Array fc) (l : List (Nat × Bool)) : Bool := ZQ ow ops l []
def Mu (ops : Array fc) (l : List (Nat × Bool)) : List (Bool × Bool × fc) := l.filterMap fun x => (ops[x.1]?).map fun o => (true, x.2, o)
theorem Z4 {id : Nat} (l : List (Nat × Bool)) (ps : List (Nat × Nat)) (h : ZQ c.lits ops l ps = true) (hq : BZ c ops (Mu ops l) S fun S' => (ps.all fun p => H6 c.base (S'.T p.1) (S'.T p.2)) = true ∧ Q .normal S') : HC c (.region id ops true) S Q := by
 unfold ZQ at h
 rw [ec, beq_iff_eq] at h
 obtain ⟨h, hps⟩ := h
 simp only [ec, beq_iff_eq, gb] at h
 obtain ⟨⟨vm, hord⟩, yx⟩ := h
 obtain ⟨S', h1, vp, h2⟩ := hq
 refine ⟨.normal, S', ?_, h2⟩
 rw [Vl, ru vm, hord]
 have sd : ∀ x ∈ l, x.1 < ops.size := by
  intro x hx
  refine (Jt vm).2.1 x.1 ?_
  rw [hord]
  exact iw.2 ⟨x, hx, rfl⟩
 have : Dr (Fv c ops) ops (l.map (·.1)) S = NF c ops (Mu ops l) S := by
  refine TS (fl := fun i => (true, L4 ops (G7 ops) i)) (fun i => rfl) _ _ _ ?_
  clear h1 hord
  unfold Mu
  induction l with
  | nil => rfl
  | cons x l ih =>
   have hx := sd x (fh ..)
   have hcx := yx x (fh ..)
   have ih := ih (fun y hy => yx y (fm _ hy)) (fun y hy => sd y (fm _ hy))
   simp only [gq, List.filterMap_cons, Array.getElem?_eq_getElem hx, dq, hcx, js, true_and]
   exact ih
 rw [this, h1, ba, ru]
 ·rfl
 ·unfold LN
  rw [hps]
  exact vp
theorem eW {id : Nat} (l : List (Nat × Bool)) (h : ZP c.lits ops l = true) (hq : BZ c ops (Mu ops l) S (Q .normal)) : HC c (.region id ops true) S Q :=
 Z4 l [] h (by obtain ⟨S', h1, h2⟩ := hq; exact ⟨S', h1, rfl, h2⟩)
theorem kA (Q : St → Prop) : BZ c ops [] S Q = Q S := by
 apply propext; simp [BZ, NF]
theorem fC {s k : Bool} {d : Nat} {op : Op} {ty : ea} {pos : String} {aft : Array Edge} {l : List (Bool × Bool × fc)} {Q : St → Prop} :
  BZ c ops ((s, k, ⟨some d, op, ty, pos, aft, none⟩) :: l) S Q = (d < c.ntmps ∧ oI (He (c.Ay s k) op S) fun v H => BZ c ops l ⟨D6 S.T d v, H⟩ Q) := by
 apply propext
 unfold BZ oI
 simp only [NF, C1, DF, ba, if_true, Jg]
 constructor
 ·rintro ⟨S', h, hq⟩
  simp only [dj] at h
  obtain ⟨S1, h1, h2⟩ := h
  split at h1
  case isFalse => cases h1
  rename_i hd
  simp only [dn, Prod.exists] at h1
  obtain ⟨v, H, h3, rfl⟩ := h1
  exact ⟨hd, v, H, h3, S', h2, hq⟩
 ·rintro ⟨hd, v, H, h3, S', h2, hq⟩
  refine ⟨S', ?_, hq⟩
  have zq : d < (c.Ay s k).ntmps := hd
  rw [ru zq, TP, h3]
  exact h2
theorem fB {s k : Bool} {op : Op} {ty : ea} {pos : String} {aft : Array Edge} {l : List (Bool × Bool × fc)} {Q : St → Prop} :
  BZ c ops ((s, k, ⟨none, op, ty, pos, aft, none⟩) :: l) S Q = oI (He (c.Ay s k) op S) fun v H => BZ c ops l ⟨S.T, H⟩ Q := by
 apply propext
 unfold BZ oI
 simp only [NF, C1, DF, ba, if_true, Jg]
 constructor
 ·rintro ⟨S', h, hq⟩
  simp only [dj, dn, Prod.exists] at h
  obtain ⟨S1, ⟨v, H, h3, rfl⟩, h2⟩ := h
  exact ⟨v, H, h3, S', h2, hq⟩
 ·rintro ⟨v, H, h3, S', h2, hq⟩
  refine ⟨S', ?_, hq⟩
  rw [TP, h3]
  exact h2
def QQ (ops : Array fc) (T : Nat → V) (j : Nat) (w : Bool) : Option Bool :=
 ((ops[j]?).bind (·.dst)).bind fun t => match T t with
  | .bool b => some (b == w)
  | .Ei [] => some false
  | _ => none
theorem SU {s k : Bool} {d : Nat} {op : Op} {ty : ea} {pos : String} {aft : Array Edge} {j : Nat} {w : Bool} {l : List (Bool × Bool × fc)} {Q : St → Prop} :
  BZ c ops ((s, k, ⟨some d, op, ty, pos, aft, some (j, w)⟩) :: l) S Q = (d < c.ntmps ∧ oH (QQ ops S.T j w) fun b => if b then oI (He (c.Ay s k) op S) fun v H => BZ c ops l ⟨D6 S.T d v, H⟩ Q else BZ c ops l ⟨D6 S.T d CT, S.H⟩ Q) := by
 have hw : DF ops S.T ⟨some d, op, ty, pos, aft, some (j, w)⟩ = QQ ops S.T j w := by
  unfold DF QQ
  simp only []
  cases (ops[j]?).bind (·.dst) <;> rfl
 apply propext
 unfold BZ oI oH
 simp only [NF, C1, hw, Jg]
 constructor
 ·rintro ⟨S', h, hq⟩
  simp only [dj] at h
  obtain ⟨S1, ⟨b, hb, h1⟩, h2⟩ := h
  cases b with
  | true =>
   simp only [if_true] at h1
   split at h1
   case isFalse => cases h1
   rename_i hd
   simp only [dn, Prod.exists] at h1
   obtain ⟨v, H, h3, rfl⟩ := h1
   exact ⟨hd, true, hb, by rw [ru rfl]; exact ⟨v, H, h3, S', h2, hq⟩⟩
  | false =>
   simp only [ei, if_false] at h1
   split at h1
   case isFalse => cases h1
   rename_i hd
   simp only [an] at h1
   subst h1
   exact ⟨hd, false, hb, by rw [rr (by simp)]; exact ⟨S', h2, hq⟩⟩
 ·rintro ⟨hd, b, hb, h⟩
  have zq : d < (c.Ay s k).ntmps := hd
  cases b with
  | true =>
   rw [ru rfl] at h
   obtain ⟨v, H, h3, S', h2, hq⟩ := h
   refine ⟨S', ?_, hq⟩
   simp only [hb, ba, if_true, ru zq, TP, h3]
   exact h2
  | false =>
   rw [rr (by simp)] at h
   obtain ⟨S', h2, hq⟩ := h
   refine ⟨S', ?_, hq⟩
   simp only [hb, ba, ei, if_false, ru zq]
   exact h2
theorem dS (x : ed) : He c (.move x) S = (ev S.T x).map fun v => (v, S.H) := rfl
theorem WU (x : ed) : He c (.assign x) S = (ev S.T x).map fun v => (v, S.H) := rfl
def XT (v : V) (x y : Option V) : Option V := match v with | .bool true => x | .bool false => y | _ => none
theorem WY (x y : Option V) : XT (.bool true) x y = x := rfl
theorem V2 (x y : Option V) : XT (.bool false) x y = y := rfl
theorem Uy (a x y : ed) : He c (.pick a x y) S = ((ev S.T a).bind fun v => XT v (ev S.T x) (ev S.T y)).map fun v => (v, S.H) := by
 unfold He Cn XT
 simp only []
 cases ev S.T a with
 | none => rfl
 | some v =>
  cases v with
  | bool b => cases b <;> rfl
  | _ => rfl
theorem Yf (t : ea) : He c (.alloc t) S = (B3 c.P t).bind fun sz => (BH c.P t).bind fun z => some (.ptr S.H.length 0, S.H ++ [.cells sz z]) := rfl
theorem XP (t : ea) (x : ed) : He c (.box t x) S = (B3 c.P t).bind fun sz => (ev S.T x).bind fun v => if v.cellsOf.all V.Bm then some (.ptr S.H.length 0, S.H ++ [.cells sz v.cellsOf]) else none := rfl
theorem Yh (t : ea) (ps : Array (Nat × ed)) : He c (.build t ps) S = (Sp S.T ps.toList).bind fun ps => (BH c.P t).bind fun z => (Dy c.P t).bind fun pl => ((Eo (fun i => pl[i]?) z ps).map .agg).map fun v => (v, S.H) := rfl
theorem J3 (t : ea) (a : ed) : He c (.load t a) S = (ev S.T a).bind fun v => (Fg c.P t S.H v).map fun v => (v, S.H) := rfl
theorem Ka (t : ea) (a x : ed) : He c (.store t a x) S = (ev S.T a).bind fun p => (ev S.T x).bind fun v => (G0 c t S.H p v).map fun H => (CT, H) := rfl
def Vf (v : V) : Option V := match v with | .ptr b off => some (.ptr b off) | .lp lv cs off => some (.lp lv cs off) | _ => none
theorem TR (x : ed) : He c (.nilCheck x) S = (ev S.T x).bind fun v => (Vf v).map fun v => (v, S.H) := by
 unfold He Cn Vf
 simp only []
 cases ev S.T x with
 | none => rfl
 | some v => cases v <;> rfl
theorem Yg (op : BinOp) (t x y) (t2) : He c (.binOp op t x y t2) S = (ev S.T x).bind fun a => (ev S.T y).bind fun b => (Tz c.P op t a b).map fun v => (v, S.H) := rfl
theorem dT (op : UnOp) (t x) : He c (.unOp op t x) S = (ev S.T x).bind fun a => (sQ op a).map fun v => (v, S.H) := rfl
theorem TQ (f : jc) (caps : Array ed) : He c (.makeFunc (.func f) #[] caps) S = (Ld S.T caps.toList).bind fun vs => some (.fn f vs, S.H) := rfl
def iZ (v : V) (off : Nat) : Option V := match v with | .ptr b o => some (.ptr b (o + off)) | .lp lv cs o => some (.lp lv cs (o + off)) | _ => none
theorem RU (s : ea) (x : ed) (f : Nat) : He c (.fieldAddr s x f) S = (AL c.P s f).bind fun off => (ev S.T x).bind fun v => (iZ v off).map fun v => (v, S.H) := by
 unfold He Cn iZ
 simp only []
 cases AL c.P s f with
 | none => rfl
 | some off =>
  simp only [ba]
  cases ev S.T x with
  | none => rfl
  | some v => cases v <;> rfl
def asInt (v : V) : Option Int := match v with | .int _ n => some n | _ => none
def RO (d sz : Nat) (v : V) (n : Int) : Option V := (D4 v).bind fun len => if 0 ≤ n ∧ n < len then
 match v with
 | .lit lv _ cs => some (.lp lv cs (n.toNat * sz))
 | .tl _ cs => some (.lp 0 cs (n.toNat * sz))
 | .snap _ _ cs => some (.lp d cs (n.toNat * sz))
 | .pre _ _ _ cs => some (.lp d cs (n.toNat * sz))
 | .sl b off _ => some (.ptr b (off + n.toNat * sz))
 | _ => none
 else none
theorem Ef (t : ea) (x i : ed) : He c (.indexAddr t x i) S = (B0 c.P t).bind fun e => (B3 c.P e).bind fun sz => (ev S.T x).bind fun v => (ev S.T i).bind fun w => (asInt w).bind fun n => (RO c.d sz v n).map fun v => (v, S.H) := by
 unfold He Cn asInt RO
 simp only []
 cases B0 c.P t with
 | none => rfl
 | some e =>
  simp only [ba]
  cases B3 c.P e with
  | none => rfl
  | some sz =>
   simp only [ba]
   cases ev S.T x with
   | none => rfl
   | some v =>
    simp only [ba]
    cases ev S.T i with
    | none => rfl
    | some w =>
     cases w with
     | int k n =>
      simp only [ba]
      cases D4 v with
      | none => rfl
      | some len =>
       simp only [ba]
       split
       ·cases v <;> rfl
       ·rfl
     | _ => rfl
theorem Kt (t : ea) (n m : ed) : He c (.makeSlice t n m) S = (ev S.T n).bind fun a => (ev S.T m).bind fun b => K5 c.P (c.hints.Ih c.fn) t S.H a b := rfl
def eT (v : V) (i : Nat) : Option V := match v with | .Ei vs => vs[i]? | _ => none
theorem Ux (x : ed) (i : Nat) : He c (.extract x i) S = (ev S.T x).bind fun v => (eT v i).map fun v => (v, S.H) := by
 unfold He Cn eT
 simp only []
 cases ev S.T x with
 | none => rfl
 | some v => cases v <;> rfl
def Pz (v : V) : Option (jc × List V) := match v with | .fn g caps => some (g, caps) | _ => none
theorem GF (f : ed) (args : Array ed) (ats : Array ea) : He c (.call ⟨.value f, args, ats⟩) S = (ev S.T f).bind fun fv => (Pz fv).bind fun g => (Ld S.T args.toList).bind fun vs =>
  (AW c (c.hints.Df g.1) S.H (vs ++ g.2)).bind fun r => c.Γ g.1 r.1 r.2.2 (c.lk ++ [c.C6 g.1 r.2.1 r.2.2]) := by
 unfold He Cn Pz
 simp only []
 cases ev S.T f with
 | none => rfl
 | some v => cases v <;> rfl
def iR (v : V) (isStr : Bool) : Option Nat := match v with | .str s => if isStr then some s.size else none | v => if isStr then none else D4 v
def IA (P : ep) (t : ea) : Option Bool := match P.underlying t with | some .string => some true | some (.slice _) => some false | _ => none
theorem j7 (x : ed) (t : ea) : He c (.call ⟨.builtin .len, #[x], #[t]⟩) S = (IA c.P t).bind fun b => (ev S.T x).bind fun v => (iR v b).map fun n => (.int .i64 n, S.H) := by
 unfold He Cn IA iR
 simp only [List.getElem?_toArray, iz]
 cases c.P.underlying t with
 | none => rfl
 | some d =>
  cases d with
  | string =>
   simp only [ba, if_true]
   cases ev S.T x with
   | none => rfl
   | some v => cases v <;> rfl
  | slice e =>
   simp only [ba, ei, if_false]
   cases ev S.T x with
   | none => rfl
   | some v =>
    simp only [ba]
    cases v <;> simp [D4]
  | _ => rfl
theorem LL (a b : ed) (st xt : ea) : He c (.call ⟨.builtin .append, #[a, b], #[st, xt]⟩) S = (ev S.T a).bind fun x => (ev S.T b).bind fun y => (ER c st xt S.H x y).bind (MM c) := rfl
theorem TA {c : Cx} (h : c.hints.XE c.fn = false) (r : Option (V × A5)) : r.bind (MM c) = r := by
 cases r with
 | none => rfl
 | some r => simp [MM, h]
theorem SF {P : ep} {h : BX} {k : jc} {fn : Func} {body : Code} (zo : P.funcs[k]? = some fn) (hb : fn.body = some body) {args : List V} {H : A5} {lk : Lk} {n : Nat} (hn : fn.ntmps = n) (hns : Fh body = none) (hlen : args.length ≤ n) (ud : (fn.name == "runtime.NumGoroutine") = false) {rs : Array ir} (hrs : fn.results = rs) {r : V × A5}
  (hr : HC (Ar P h k n H.length lk) body ⟨Ko args, H⟩ fun x S => (x = .normal ∨ x = .ret) ∧ ((BP P S.H S.T rs.toList).bind fun vs => En h k H.length lk.length (FT vs) S.H) = some r) : Aw P h k args H lk = some r := by
 subst hn hrs
 obtain ⟨x, S, h1, h2, h3⟩ := hr
 refine Wb zo hb hns hlen ud ?_
 rw [h1]
 rcases h2 with rfl | rfl
 ·exact h3
 ·exact h3
end
inductive B8 where
 | Au (n : Nat) (b : Bv)
 | own (v : V) (d sz n : Nat) (cells : List V)
 | Aj (S : List Nat) (n : Nat) (b : Bv)
 | N4 (S : List Nat) (v : V) (d d1 sz n : Nat) (cells : List V)
 | tree (S F : List Nat) (p : A5 → Prop)
def B8.CP : B8 → List Nat
 | .Au n _ => [n]
 | .own (.snap b _ _) _ _ _ _ => [b]
 | .Aj _ n _ => [n]
 | .N4 _ (.snap b _ _) _ _ _ _ _ => [b]
 | .tree _ F _ => F
 | _ => []
def B8.XK : B8 → Bool
 | .Au .. => true
 | .own .. => true
 | _ => false
def B8.ok (H G : A5) : B8 → Prop
 | .Au n b => H.length ≤ n ∧ G[n]? = some b
 | .own v d sz n cells => cells.length = n * sz ∧ (v = .tl n cells ∨ ∃ b, v = .snap b n cells ∧ H.length ≤ b ∧ G[b]? = some (.Bt d n sz))
 | .Aj S n b => (n < H.length → n ∈ S) ∧ G[n]? = some b
 | .N4 S v d d1 sz n cells => cells.length = n * sz ∧ (v = .tl n cells ∨ ∃ b l, v = .snap b n cells ∧ G[b]? = some (.Bt l n sz) ∧ ((b < H.length ∧ b ∈ S ∧ l = d) ∨ (H.length ≤ b ∧ l = d1)))
 | .tree S F p => (∀ b ∈ F, b < G.length ∧ (b < H.length → b ∈ S)) ∧ ∀ G', (∀ b ∈ F, G'[b]? = G[b]?) → p G'
structure A6 (H G : A5) (rs : List B8) : Prop where
 pre : ∀ b, b < H.length → G[b]? = H[b]?
 len : H.length ≤ G.length
 ok : ∀ r ∈ rs, r.ok H G
 apart : rs.Pairwise fun r r' => ∀ x ∈ r.CP, x ∉ r'.CP
theorem A6.nil (H : A5) : A6 H H [] := ⟨fun _ _ => rfl, dz _, fun _ h => absurd h (by simp), .nil⟩
theorem A6.drop {H G : A5} {rs uz : List B8} (h : A6 H G rs) (hs : uz.Sublist rs) : A6 H G uz := ⟨h.pre, h.len, fun r hr => h.ok r (hs.subset hr), h.apart.sublist hs⟩
theorem B8.Er {H G : A5} {r : B8} (h : r.ok H G) {x : Nat} (hx : x ∈ r.CP) : x < G.length := by
 cases r with
 | Au n b =>
  simp only [B8.CP, dt] at hx
  subst hx
  exact (du.1 h.2).1
 | own v d sz n cells =>
  obtain ⟨_, rfl | ⟨b, rfl, h1, h2⟩⟩ := h
  ·simp [B8.CP] at hx
  ·simp only [B8.CP, dt] at hx
   subst hx
   exact (du.1 h2).1
 | Aj S n b =>
  simp only [B8.CP, dt] at hx
  subst hx
  exact (du.1 h.2).1
 | N4 S v d d1 sz n cells =>
  obtain ⟨_, rfl | ⟨b, l, rfl, h1, h2⟩⟩ := h
  ·simp [B8.CP] at hx
  ·simp only [B8.CP, dt] at hx
   subst hx
   exact (du.1 h1).1
 | tree S F p => exact (h.1 x hx).1
theorem B8.Mb {H G : A5} {r : B8} (h : r.ok H G) (ho : r.XK = true) {x : Nat} (hx : x ∈ r.CP) : H.length ≤ x := by
 cases r with
 | Au n b =>
  simp only [B8.CP, dt] at hx
  subst hx
  exact h.1
 | own v d sz n cells =>
  obtain ⟨_, rfl | ⟨b, rfl, h1, h2⟩⟩ := h
  ·simp [B8.CP] at hx
  ·simp only [B8.CP, dt] at hx
   subst hx
   exact h1
 | Aj S n b => cases ho
 | N4 S v d d1 sz n cells => cases ho
 | tree S F p => cases ho
theorem B8.Et {H G G' : A5} {r : B8} (h : r.ok H G) (hg : ∀ x ∈ r.CP, G'[x]? = G[x]?) : r.ok H G' := by
 cases r with
 | Au n b => exact ⟨h.1, by rw [hg n (by simp [B8.CP])]; exact h.2⟩
 | own v d sz n cells =>
  obtain ⟨hc, h | ⟨b, rfl, h1, h2⟩⟩ := h
  ·exact ⟨hc, .inl h⟩
  ·exact ⟨hc, .inr ⟨b, rfl, h1, by rw [hg b (by simp [B8.CP])]; exact h2⟩⟩
 | Aj S n b => exact ⟨h.1, by rw [hg n (by simp [B8.CP])]; exact h.2⟩
 | N4 S v d d1 sz n cells =>
  obtain ⟨hc, h | ⟨b, l, rfl, h1, h2⟩⟩ := h
  ·exact ⟨hc, .inl h⟩
  ·exact ⟨hc, .inr ⟨b, l, rfl, by rw [hg b (by simp [B8.CP])]; exact h1, h2⟩⟩
 | tree S F p =>
  refine ⟨fun b hb => ⟨?_, (h.1 b hb).2⟩, fun G2 h2 => h.2 G2 fun b hb => by rw [h2 b hb, hg b hb]⟩
  have e := dr (h.1 b hb).1
  rw [← hg b hb] at e
  exact (du.1 e).1
theorem B8.TO {H H' G : A5} {r : B8} (hl : H'.length = H.length) (h : r.ok H G) : r.ok H' G := by
 cases r with
 | Au n b => exact ⟨by rw [hl]; exact h.1, h.2⟩
 | own v d sz n cells => unfold B8.ok at h ⊢; rw [hl]; exact h
 | Aj S n b => unfold B8.ok at h ⊢; rw [hl]; exact h
 | N4 S v d d1 sz n cells => unfold B8.ok at h ⊢; rw [hl]; exact h
 | tree S F p => unfold B8.ok at h ⊢; rw [hl]; exact h
theorem A6.push {H G : A5} {rs : List B8} (h : A6 H G rs) (x : Bv) {r : B8} (hn : r.CP = [G.length]) (hr : r.ok H (G ++ [x])) : A6 H (G ++ [x]) (r :: rs) where
 pre := fun b hb => by rw [eh (fw hb h.len)]; exact h.pre b hb
 len := by rw [dw]; have := h.len; omega
 ok := fun r' hr' => by
  rcases fi.1 hr' with rfl | hr'
  ·exact hr
  ·have h1 := h.ok r' hr'
   exact B8.Et h1 fun x hx => by rw [eh (B8.Er h1 hx)]
 apart := by
  refine il.2 ⟨fun r' hr' x hx um => ?_, h.apart⟩
  rw [hn] at hx
  simp only [dt] at hx
  subst hx
  exact absurd (B8.Er (h.ok r' hr') um) (lq _)
theorem H7 (G : A5) (x : Bv) : (G ++ [x])[G.length]? = some x := by simp
theorem A6.alloc {H G : A5} {rs : List B8} (h : A6 H G rs) (x : Bv) : A6 H (G ++ [x]) (.Au G.length x :: rs) := h.push x rfl ⟨h.len, H7 G x⟩
theorem FP {rs : List B8} (h : rs.Pairwise fun r r' => ∀ x ∈ r.CP, x ∉ r'.CP) {k : Nat} {r r' : B8} (hk : rs[k]? = some r) (hn : ∀ x ∈ r'.CP, x ∈ r.CP) : (rs.set k r').Pairwise fun r r' => ∀ x ∈ r.CP, x ∉ r'.CP := by
 rw [fx] at h ⊢
 intro i j hi hj hij x hx um
 simp only [fa] at hi hj
 simp only [iu] at hx um
 obtain ⟨zr, hk2⟩ := du.1 hk
 split at hx
 ·rename_i e
  subst e
  rw [rr (by omega)] at um
  refine h k j zr hj hij x ?_ um
  rw [hk2]; exact hn x hx
 ·split at um
  ·rename_i e
   subst e
   refine h i k hi zr hij x hx ?_
   rw [hk2]; exact hn x um
  ·exact h i j hi hj hij x hx um
theorem A6.set {H G : A5} {rs : List B8} (h : A6 H G rs) {k n : Nat} {r r' : B8} {x : Bv} (hk : rs[k]? = some r) (hr : r.CP = [n]) (hn : r'.CP = [n]) (ho : r'.ok H (G.set n x)) (hw : r.XK = true := by rfl) : A6 H (G.set n x) (rs.set k r') where
 pre := fun b hb => by
  rw [AX, rr]
  ·exact h.pre b hb
  ·rintro ⟨rfl, _⟩
   have := B8.Mb (h.ok r (ee hk)) hw (x := n) (by rw [hr]; simp)
   omega
 len := by rw [fa]; exact h.len
 ok := fun r2 hr2 => by
  obtain ⟨j, hj, e⟩ := ij.1 hr2
  simp only [fa] at hj
  rw [iu] at e
  split at e
  ·rw [← e]; exact ho
  ·rename_i sq
   subst e
   obtain ⟨zr, hk2⟩ := du.1 hk
   have h1 := h.ok _ (gl hj)
   refine B8.Et h1 fun y hy => ?_
   rw [AX, rr]
   rintro ⟨rfl, _⟩
   have hp := fx.1 h.apart
   rcases fp k j with hkj | hkj
   ·exact hp k j zr hj hkj n (by rw [hk2, hr]; simp) hy
   ·exact hp j k hj zr (by omega) n hy (by rw [hk2, hr]; simp)
 apart := FP h.apart hk (by rw [hr, hn]; exact fun _ h => h)
theorem A6.rR {H G : A5} {rs : List B8} (h : A6 H G rs) {k n : Nat} {r r' : B8} {x : Bv} (hk : rs[k]? = some r) (hr : r.CP = [n]) (hn : r'.CP = [n]) (ho : r'.ok H (G.set n x)) : A6 (H.set n x) (G.set n x) (rs.set k r') where
 pre := fun b hb => by
  rw [fa] at hb
  have hg := B8.Er (h.ok r (ee hk)) (x := n) (by rw [hr]; simp)
  rw [AX, AX]
  by_cases e : b = n
  ·subst e; rw [ru ⟨rfl, hg⟩, ru ⟨rfl, hb⟩]
  ·rw [rr (fun q => e q.1.symm), rr (fun q => e q.1.symm)]; exact h.pre b hb
 len := by rw [fa, fa]; exact h.len
 ok := fun r2 hr2 => by
  refine B8.TO (fa ..) ?_
  obtain ⟨j, hj, e⟩ := ij.1 hr2
  simp only [fa] at hj
  rw [iu] at e
  split at e
  ·rw [← e]; exact ho
  ·rename_i sq
   subst e
   obtain ⟨zr, hk2⟩ := du.1 hk
   have h1 := h.ok _ (gl hj)
   refine B8.Et h1 fun y hy => ?_
   rw [AX, rr]
   rintro ⟨rfl, _⟩
   have hp := fx.1 h.apart
   rcases fp k j with hkj | hkj
   ·exact hp k j zr hj hkj n (by rw [hk2, hr]; simp) hy
   ·exact hp j k hj zr (by omega) n hy (by rw [hk2, hr]; simp)
 apart := FP h.apart hk (by rw [hr, hn]; exact fun _ h => h)
theorem A6.W1 {H G : A5} {rs : List B8} (h : A6 H G rs) {k n : Nat} {S : List Nat} {b : Bv} (hk : rs[k]? = some (.Aj S n b)) : G[n]? = some b ∧ (n < H.length → n ∈ S) :=
 let x := h.ok _ (ee hk); ⟨x.2, x.1⟩
theorem A6.get {H G : A5} {rs : List B8} (h : A6 H G rs) {k n : Nat} {b : Bv} (hk : rs[k]? = some (.Au n b)) : G[n]? = some b ∧ H.length ≤ n :=
 let x := h.ok _ (ee hk); ⟨x.2, x.1⟩
theorem A6.out {H G : A5} {rs : List B8} (h : A6 H G rs) : G.take H.length = H := by
 apply lj
 intro i
 rw [gm]
 split
 ·rename_i hi; exact h.pre i hi
 ·rename_i hi; rw [en (by omega)]
def Ao (l : List (Nat × V)) (J : Nat → V) : Nat → V := l.foldr (fun p f => D6 f p.1 p.2) J
def Ww (T : Nat → V) : List (Nat × V) → Prop
 | [] => True
 | (d, v) :: l => T d = v ∧ Ww T l
theorem eU {T : Nat → V} {d : Nat} {v : V} (h : T d = v) : D6 T d v = T := by
 funext i
 unfold D6
 split
 ·rename_i e; rw [e, h]
 ·rfl
theorem Ue {T : Nat → V} : ∀ {l : List (Nat × V)}, Ww T l → Ao l T = T
 | [], _ => rfl
 | (d, v) :: l, h => by
  show D6 (Ao l T) d v = T
  rw [Ue h.2]
  exact eU h.1
theorem bc {p : Prop} {b : Bool} (h1 : b = true → p) (h2 : b = false → p) : p := by cases b; exact h2 rfl; exact h1 rfl
theorem St.Ao {T : Nat → V} {G : A5} (l : List (Nat × V)) (h : Ww T l) : (⟨T, G⟩ : St) = ⟨K.Ao l T, G⟩ := by rw [Ue h]
theorem sh {T : Nat → V} {G : A5} {l : List (Nat × V)} (h : Ww T l := by repeat (first | exact trivial | refine ⟨rfl, ?_⟩)) : (⟨T, G⟩ : St) = ⟨K.Ao l T, G⟩ := St.Ao l h
def GO {σ ρ : Type} (F : σ → Option (σ ⊕ ρ)) : Nat → σ → Option ρ
 | 0, _ => none
 | n + 1, s => match F s with
  | some (.inl s') => GO F n s'
  | some (.inr r) => some r
  | none => none
theorem Qc {σ ρ : Type} {F : σ → Option (σ ⊕ ρ)} : ∀ {n m : Nat}, n ≤ m → ∀ {s : σ} {r : ρ}, GO F n s = some r → GO F m s = some r
 | 0, m, _, s, r, h => by simp [GO] at h
 | n + 1, 0, yg, s, r, h => by omega
 | n + 1, m + 1, yg, s, r, h => by
  simp only [GO] at h ⊢
  split at h
  ·exact Qc (by omega) h
  ·exact h
  ·cases h
open Classical in
noncomputable def AQ {σ ρ : Type} (F : σ → Option (σ ⊕ ρ)) (s : σ) : Option ρ :=
 if h : ∃ n r, GO F n s = some r then some (iy (fz h)) else none
theorem Qd {σ ρ : Type} {F : σ → Option (σ ⊕ ρ)} {n : Nat} {s : σ} {r : ρ} (h : GO F n s = some r) : AQ F s = some r := by
 have hx : ∃ n r, GO F n s = some r := ⟨n, r, h⟩
 unfold AQ
 rw [dif_pos hx]
 have h1 := fz (fz hx)
 have h2 := Qc (kz n (iy hx)) h
 have h3 := Qc (km n (iy hx)) h1
 rw [← h3, h2]
theorem MV {σ ρ : Type} {F : σ → Option (σ ⊕ ρ)} {s : σ} {r : ρ} (h : AQ F s = some r) : ∃ n, GO F n s = some r := by
 unfold AQ at h
 split at h
 ·rename_i hx
  simp only [an] at h
  exact ⟨_, h ▸ fz (fz hx)⟩
 ·cases h
theorem Ap {σ ρ : Type} (F : σ → Option (σ ⊕ ρ)) (s : σ) : AQ F s = (F s).bind fun x => match x with | .inl s' => AQ F s' | .inr r => some r := by
 cases h : F s with
 | none =>
  simp only [Option.bind_none]
  cases hl : AQ F s with
  | none => rfl
  | some r =>
   obtain ⟨n, hn⟩ := MV hl
   cases n with
   | zero => simp [GO] at hn
   | succ n => simp [GO, h] at hn
 | some x =>
  simp only [ba]
  cases x with
  | inr r => exact Qd (n := 1) (by simp [GO, h])
  | inl s' =>
   simp only []
   cases hl : AQ F s' with
   | some r =>
    obtain ⟨n, hn⟩ := MV hl
    exact Qd (n := n + 1) (by simp [GO, h, hn])
   | none =>
    cases ye : AQ F s with
    | none => rfl
    | some r =>
     obtain ⟨n, hn⟩ := MV ye
     cases n with
     | zero => simp [GO] at hn
     | succ n =>
      simp only [GO, h] at hn
      rw [Qd hn] at hl
      cases hl
section
variable {P : ep} {h : BX} {fk n base : Nat} {lk : Lk} {c : Cx} {ops : Array fc} {S : St} {Q : X → St → Prop}
theorem AE {p : Code} {σ ρ : Type} {F : σ → Option (σ ⊕ ρ)} {r : ρ} (Rel : σ → St → Prop) {s : σ} (hl : AQ F s = some r) (h0 : Rel s S)
  (step : ∀ s S x, Rel s S → F s = some x → (∀ r', x = .inr r' → r' = r) → HC c p S (QM (fun S' => ∃ s', x = .inl s' ∧ Rel s' S') Q)) : HC c (.loop p) S Q := by
 obtain ⟨m, hm⟩ := MV hl
 clear hl
 refine eY (fun k S => ∃ s, Rel s S ∧ GO F k s = some r) m ⟨s, h0, hm⟩ ?_
 rintro k S1 _ ⟨s1, hr, hl⟩
 cases k with
 | zero => simp [GO] at hl
 | succ k =>
  simp only [GO] at hl
  split at hl
  ·rename_i s2 hs2
   refine Mq (step s1 S1 _ hr hs2 (fun r' e => by cases e)) ?_
   intro x S' hx
   cases x with
   | normal =>
    obtain ⟨s', e, hr'⟩ := hx
    simp only [Sum.inl.injEq] at e
    subst e
    exact ⟨k, Nat.lt_succ_self k, s2, hr', hl⟩
   | exit i => exact hx
   | ret => exact hx
  ·rename_i r' hs2
   simp only [an] at hl
   refine Mq (step s1 S1 _ hr hs2 (fun r'' e => by cases e; exact hl)) ?_
   intro x S' hx
   cases x with
   | normal => obtain ⟨s', e, _⟩ := hx; cases e
   | exit i => exact hx
   | ret => exact hx
  ·cases hl
theorem CX {p q : Code} (M : St → Prop) (h1 : HC c p S (QM M Q)) (h2 : ∀ S', M S' → HC c q S' Q) : HC c (.seq p q) S Q := by
 rw [Xq]
 refine Mq h1 fun x S' hx => ?_
 cases x with
 | normal => exact h2 S' hx
 | exit i => exact hx
 | ret => exact hx
theorem AU {p q : Code} (h1 : HC c p S (QM (fun S' => HC c q S' Q) Q)) : HC c (.seq p q) S Q := by rw [Xq]; exact h1
theorem Cj {id : Nat} {l : List fc} (hq : BZ (Ar P h fk n base lk) l.toArray (l.map fun o => (false, false, o)) S (Q .normal)) : HC (Ar P h fk n base lk) (.region id l.toArray false) S Q := by
 rw [Wu ⟨rfl, rfl⟩]; exact hq
def Vb (id : Nat) (Q : X → St → Prop) : X → St → Prop := fun x S' => match x with | .exit i => if i = id then Q .normal S' else Q (.exit i) S' | x => Q x S'
theorem Bn {id : Nat} {p : Code} (h1 : HC c p S (Vb id Q)) : HC c (.block id p) S Q := by
 rw [Z3]
 refine Mq h1 fun x S' hx => ?_
 cases x <;> exact hx
theorem bn {id : Nat} (h : Q .normal S) : Vb id Q .normal S := h
theorem be {id : Nat} (h : Q .normal S) : Vb id Q (.exit id) S := by unfold Vb; simp only [if_true]; exact h
theorem bo {id i : Nat} (hi : (i == id) = false := by rfl) (h : Q (.exit i) S) : Vb id Q (.exit i) S := by
 unfold Vb
 simp only [beq_eq_false_iff_ne, ne_eq] at hi
 simp only [hi, if_false]
 exact h
theorem br {id : Nat} (h : Q .ret S) : Vb id Q .ret S := h
theorem gn {k : St → Prop} (h : k S) : QM k Q .normal S := h
theorem ge {k : St → Prop} {i : Nat} (h : Q (.exit i) S) : QM k Q (.exit i) S := h
theorem gr {k : St → Prop} (h : Q .ret S) : QM k Q .ret S := h
theorem bs {α β : Type} {x : Option α} {f : α → Option β} {r : β} (h : x.bind f = some r) : ∃ v, x = some v ∧ f v = some r := dj.1 h
theorem bk {α β : Type} {x : Option α} {f : α → Option β} {r : β} {P : Prop} (h : x.bind f = some r) (k : ∀ v, x = some v → f v = some r → P) : P := by
 obtain ⟨v, h1, h2⟩ := bs h
 exact k v h1 h2
theorem ct {α : Type} {b : Bool} {x y z : α} (hb : b = true) (h : (bif b then x else y) = z) : x = z := by subst hb; exact h
theorem cf {α : Type} {b : Bool} {x y z : α} (hb : b = false) (h : (bif b then x else y) = z) : y = z := by subst hb; exact h
theorem lx {σ ρ : Type} {x : σ ⊕ ρ} {r : ρ} {y : Option ρ} (hx : ∀ r', x = .inr r' → r' = r) (h : y.map Sum.inr = some x) : y = some r := by
 rw [dn] at h
 obtain ⟨r', h1, h2⟩ := h
 rw [h1, hx r' h2.symm]
theorem vG {y : ed} {p q : Code} {b : Bool} (h1 : b = true → HC c p S Q) (h2 : b = false → HC c q S Q) (hy : ev S.T y = some (.bool b) := by rfl) : HC c (.cond y p q) S Q := by
 rw [eV, hy, fA, Z2]
 cases b with
 | true => exact h1 rfl
 | false => exact h2 rfl
theorem As {y : ed} {p q : Code} {b : Bool} {α : Type} {x1 x2 z : α} (hk : (bif b then x1 else x2) = z) (h1 : x1 = z → HC c p S Q) (h2 : x2 = z → HC c q S Q) (hy : ev S.T y = some (.bool b) := by rfl) : HC c (.cond y p q) S Q := vG (fun hb => h1 (ct hb hk)) (fun hb => h2 (cf hb hk)) hy
theorem Av (h : Q .normal S) : HC c .skip S Q := by rw [eZ]; exact h
theorem Dh {id : Nat} (h : Q (.exit id) S) : HC c (.exit id) S Q := by rw [eX]; exact h
theorem Ax (h : Q .ret S) : HC c .ret S Q := by rw [k9]; exact h
theorem Aa {l1 l2 : List (Bool × Bool × fc)} {Q : St → Prop} (M : St → Prop) (h1 : BZ c ops l1 S M) (h2 : ∀ S', M S' → BZ c ops l2 S' Q) : BZ c ops (l1 ++ l2) S Q := by
 obtain ⟨S1, h3, h4⟩ := h1
 obtain ⟨S2, h5, h6⟩ := h2 S1 h4
 refine ⟨S2, ?_, h6⟩
 clear h2 h4 h6
 induction l1 generalizing S with
 | nil => simp only [NF, an] at h3; subst h3; exact h5
 | cons x l1 ih =>
  obtain ⟨s, k, o⟩ := x
  simp only [NF, ie, dj] at h3 ⊢
  obtain ⟨S3, h7, h8⟩ := h3
  exact ⟨S3, h7, ih h8⟩
section steps
variable {s kk : Bool} {d : Nat} {ty : ea} {pos : String} {aft : Array Edge} {l : List (Bool × Bool × fc)} {Q : St → Prop} {T : Nat → V} {G G' H : A5} {rs : List B8} {op : Op}
theorem pV {v : V} (hv : He ((Ar P h fk n base lk).Ay s kk) op ⟨T, G⟩ = some (v, G')) (hd : fj d n = true) (k : BZ (Ar P h fk n base lk) ops l ⟨D6 T d v, G'⟩ Q) :
  BZ (Ar P h fk n base lk) ops ((s, kk, ⟨some d, op, ty, pos, aft, none⟩) :: l) ⟨T, G⟩ Q := by
 rw [fC]
 exact ⟨fb hd, v, G', hv, k⟩
theorem fF {v : V} (hv : He ((Ar P h fk n base lk).Ay s kk) op ⟨T, G⟩ = some (v, G')) (k : BZ (Ar P h fk n base lk) ops l ⟨T, G'⟩ Q) :
  BZ (Ar P h fk n base lk) ops ((s, kk, ⟨none, op, ty, pos, aft, none⟩) :: l) ⟨T, G⟩ Q := by
 rw [fB]
 exact ⟨v, G', hv, k⟩
theorem pE (k : Q ⟨T, G⟩) : BZ c ops [] ⟨T, G⟩ Q := by rw [kA]; exact k
theorem pM {x : ed} (v : V) (k : BZ (Ar P h fk n base lk) ops l ⟨D6 T d v, G⟩ Q) (h1 : ev T x = some v := by rfl) (hd : fj d n = true := by rfl) :
  BZ (Ar P h fk n base lk) ops ((s, kk, ⟨some d, .move x, ty, pos, aft, none⟩) :: l) ⟨T, G⟩ Q := pV (by rw [dS]; simp only [h1, dq]) hd k
theorem pA {x : ed} (v : V) (k : BZ (Ar P h fk n base lk) ops l ⟨D6 T d v, G⟩ Q) (h1 : ev T x = some v := by rfl) (hd : fj d n = true := by rfl) :
  BZ (Ar P h fk n base lk) ops ((s, kk, ⟨some d, .assign x, ty, pos, aft, none⟩) :: l) ⟨T, G⟩ Q := pV (by rw [WU]; simp only [h1, dq]) hd k
theorem pB {bo : BinOp} {t t2 : ea} {x y : ed} {a b v : V} (k : BZ (Ar P h fk n base lk) ops l ⟨D6 T d v, G⟩ Q) (h1 : ev T x = some a := by rfl) (h2 : ev T y = some b := by rfl) (h3 : Tz P bo t a b = some v := by rfl) (hd : fj d n = true := by rfl) :
  BZ (Ar P h fk n base lk) ops ((s, kk, ⟨some d, .binOp bo t x y t2, ty, pos, aft, none⟩) :: l) ⟨T, G⟩ Q := by
 refine pV ?_ hd k
 rw [Yg]
 simp only [h1, h2, ba]
 show (Tz P bo t a b).map _ = _
 rw [h3]; rfl
theorem AO {bo : BinOp} {t t2 : ea} {x y : ed} {kd : jo} {a b : Int} {v : V} (k : BZ (Ar P h fk n base lk) ops l ⟨D6 T d v, G⟩ Q) (h1 : ev T x = some (.int kd a) := by rfl) (h2 : ev T y = some (.int kd b) := by rfl) (h3 : XJ bo kd a b = some v := by rfl) (hd : fj d n = true := by rfl) :
  BZ (Ar P h fk n base lk) ops ((s, kk, ⟨some d, .binOp bo t x y t2, ty, pos, aft, none⟩) :: l) ⟨T, G⟩ Q := pB k h1 h2 ((ru rfl).trans h3) hd
theorem pU {uo : UnOp} {t : ea} {x : ed} {a v : V} (k : BZ (Ar P h fk n base lk) ops l ⟨D6 T d v, G⟩ Q) (h1 : ev T x = some a := by rfl) (h3 : sQ uo a = some v := by rfl) (hd : fj d n = true := by rfl) :
  BZ (Ar P h fk n base lk) ops ((s, kk, ⟨some d, .unOp uo t x, ty, pos, aft, none⟩) :: l) ⟨T, G⟩ Q := by
 refine pV ?_ hd k
 rw [dT]
 simp only [h1, h3, ba, dq]
theorem pF {st : ea} {x : ed} {f off : Nat} {a v : V} (hf : AL P st f = some off) (k : BZ (Ar P h fk n base lk) ops l ⟨D6 T d v, G⟩ Q) (h1 : ev T x = some a := by rfl) (h3 : iZ a off = some v := by rfl) (hd : fj d n = true := by rfl) :
  BZ (Ar P h fk n base lk) ops ((s, kk, ⟨some d, .fieldAddr st x f, ty, pos, aft, none⟩) :: l) ⟨T, G⟩ Q := by
 refine pV ?_ hd k
 rw [RU]
 show (AL P st f).bind _ = _
 simp only [hf, h1, h3, ba, dq]
theorem BE {x : ed} {t : ea} {b : Bool} {a : V} {m : Nat} (ht : IA P t = some b) (k : BZ (Ar P h fk n base lk) ops l ⟨D6 T d (.int .i64 m), G⟩ Q) (h1 : ev T x = some a := by rfl) (h3 : iR a b = some m := by rfl) (hd : fj d n = true := by rfl) :
  BZ (Ar P h fk n base lk) ops ((s, kk, ⟨some d, .call ⟨.builtin .len, #[x], #[t]⟩, ty, pos, aft, none⟩) :: l) ⟨T, G⟩ Q := by
 refine pV ?_ hd k
 rw [j7]
 show (IA P t).bind _ = _
 simp only [ht, h1, h3, ba, dq]
theorem Eg {t : ea} {x : ed} {b off sz : Nat} {cs : List V} (hO : A6 H G rs) (j : Nat) (v : V) (ha : D7 P t = some false) (k : BZ (Ar P h fk n base lk) ops l ⟨D6 T d v, G⟩ Q) (h1 : ev T x = some (.ptr b off) := by rfl) (hj : rs[j]? = some (.Au b (.cells sz cs)) := by rfl) (h2 : cs[off]? = some v := by rfl) (hd : fj d n = true := by rfl) :
  BZ (Ar P h fk n base lk) ops ((s, kk, ⟨some d, .load t x, ty, pos, aft, none⟩) :: l) ⟨T, G⟩ Q := by
 refine pV ?_ hd k
 rw [J3]
 simp only [h1, ba, Fg, (hO.get hj).1]
 show (BN P t cs off).map _ = _
 unfold BN
 simp only [ha, h2, dq]
theorem Eh {t : ea} {x : ed} {b off sz m : Nat} {cs : List V} (hO : A6 H G rs) (j : Nat) (sk : List V) (ha : D7 P t = some true) (hz : B3 P t = some m) (k : BZ (Ar P h fk n base lk) ops l ⟨D6 T d (.agg sk), G⟩ Q) (h1 : ev T x = some (.ptr b off) := by rfl) (hj : rs[j]? = some (.Au b (.cells sz cs)) := by rfl) (h2 : jn (off + m) cs.length = true := by rfl) (h3 : (cs.drop off).take m = sk := by rfl) (hd : fj d n = true := by rfl) :
  BZ (Ar P h fk n base lk) ops ((s, kk, ⟨some d, .load t x, ty, pos, aft, none⟩) :: l) ⟨T, G⟩ Q := by
 subst h3
 refine pV ?_ hd k
 rw [J3]
 simp only [h1, ba, Fg, (hO.get hj).1]
 show (BN P t cs off).map _ = _
 unfold BN
 simp only [ha, hz, ba, ru (fb h2), dq]
theorem vL {t : ea} {x : ed} {b off sz m : Nat} {cs : List V} (sk : List V) (hO : A6 H G rs) (hb : H[b]? = some (.cells sz cs)) (ha : D7 P t = some true) (hz : B3 P t = some m) (k : BZ (Ar P h fk n base lk) ops l ⟨D6 T d (.agg sk), G⟩ Q) (h1 : ev T x = some (.ptr b off) := by rfl) (h2 : jn (off + m) cs.length = true := by rfl) (h3 : (cs.drop off).take m = sk := by rfl) (hd : fj d n = true := by rfl) :
  BZ (Ar P h fk n base lk) ops ((s, kk, ⟨some d, .load t x, ty, pos, aft, none⟩) :: l) ⟨T, G⟩ Q := by
 subst h3
 refine pV ?_ hd k
 rw [J3]
 have hg : G[b]? = some (.cells sz cs) := by rw [hO.pre b (du.1 hb).1]; exact hb
 simp only [h1, ba, Fg, hg]
 show (BN P t cs off).map _ = _
 unfold BN
 simp only [ha, hz, ba, ru (fb h2), dq]
theorem kO {t : ea} {x : ed} {b off sz : Nat} {cs : List V} (v : V) (hO : A6 H G rs) (hb : H[b]? = some (.cells sz cs)) (ha : D7 P t = some false) (k : BZ (Ar P h fk n base lk) ops l ⟨D6 T d v, G⟩ Q) (h1 : ev T x = some (.ptr b off) := by rfl) (h2 : cs[off]? = some v := by rfl) (hd : fj d n = true := by rfl) :
  BZ (Ar P h fk n base lk) ops ((s, kk, ⟨some d, .load t x, ty, pos, aft, none⟩) :: l) ⟨T, G⟩ Q := by
 refine pV ?_ hd k
 rw [J3]
 have hg : G[b]? = some (.cells sz cs) := by rw [hO.pre b (du.1 hb).1]; exact hb
 simp only [h1, ba, Fg, hg]
 show (BN P t cs off).map _ = _
 unfold BN
 simp only [ha, h2, dq]
theorem CQ {t : ea} {x : ed} {lv off : Nat} {cs : List V} (v : V) (hr : BN P t cs off = some v) (k : BZ (Ar P h fk n base lk) ops l ⟨D6 T d v, G⟩ Q) (h1 : ev T x = some (.lp lv cs off) := by rfl) (hd : fj d n = true := by rfl) :
  BZ (Ar P h fk n base lk) ops ((s, kk, ⟨some d, .load t x, ty, pos, aft, none⟩) :: l) ⟨T, G⟩ Q := by
 refine pV ?_ hd k
 rw [J3]
 simp only [h1, ba, Fg]
 show (BN P t cs off).map _ = _
 rw [hr]; rfl
theorem oE {t : ea} {x : ed} {b off sz : Nat} {cs : List V} (v : V) (hb : G[b]? = some (.cells sz cs)) (hr : BN P t cs off = some v) (k : BZ (Ar P h fk n base lk) ops l ⟨D6 T d v, G⟩ Q) (h1 : ev T x = some (.ptr b off) := by rfl) (hd : fj d n = true := by rfl) :
  BZ (Ar P h fk n base lk) ops ((s, kk, ⟨some d, .load t x, ty, pos, aft, none⟩) :: l) ⟨T, G⟩ Q := by
 refine pV ?_ hd k
 rw [J3]
 simp only [h1, ba, Fg, hb]
 show (BN P t cs off).map _ = _
 rw [hr]; rfl
theorem C0 {t : ea} {x : ed} {m : Nat} {v : V} {cs : List V} (hO : A6 H G rs) (hz : B3 P t = some m) (k : ∀ b G', A6 H G' (.Au b (.cells m cs) :: rs) → BZ (Ar P h fk n base lk) ops l ⟨D6 T d (.ptr b 0), G'⟩ Q) (h1 : ev T x = some v := by rfl) (h2 : v.cellsOf = cs := by rfl) (h3 : cs.all V.Bm = true := by rfl) (hd : fj d n = true := by rfl) :
  BZ (Ar P h fk n base lk) ops ((s, kk, ⟨some d, .box t x, ty, pos, aft, none⟩) :: l) ⟨T, G⟩ Q := by
 refine pV ?_ hd (k _ _ (hO.alloc (.cells m cs)))
 rw [XP]
 show (B3 P t).bind _ = _
 simp only [hz, h1, h2, h3, ba, if_true]
theorem C9 {t : ea} {m : Nat} {z : List V} (hO : A6 H G rs) (hz : B3 P t = some m) (h1 : BH P t = some z) (k : ∀ b G', A6 H G' (.Au b (.cells m z) :: rs) → BZ (Ar P h fk n base lk) ops l ⟨D6 T d (.ptr b 0), G'⟩ Q) (hd : fj d n = true := by rfl) :
  BZ (Ar P h fk n base lk) ops ((s, kk, ⟨some d, .alloc t, ty, pos, aft, none⟩) :: l) ⟨T, G⟩ Q := by
 refine pV ?_ hd (k _ _ (hO.alloc (.cells m z)))
 rw [Yf]
 show (B3 P t).bind _ = _
 simp only [hz]
 show (BH P t).bind _ = _
 simp only [h1, ba]
theorem DR {t : ea} {x y : ed} {b off sz m : Nat} {cs xs : List V} {v : V} (hO : A6 H G rs) (j : Nat) (hz : B3 P t = some m) (hb : base = H.length) (k : ∀ G', A6 H G' (rs.set j (.Au b (.cells sz (CA cs off xs)))) → BZ (Ar P h fk n base lk) ops l ⟨T, G'⟩ Q) (h1 : ev T x = some (.ptr b off) := by rfl) (hj : rs[j]? = some (.Au b (.cells sz cs)) := by rfl) (h2 : ev T y = some v := by rfl) (h3 : v.cellsOf = xs := by rfl) (h4 : xs.length = m := by rfl) (h5 : jn (off + m) cs.length = true := by rfl) (h6 : xs.all V.Bm = true := by rfl) :
  BZ (Ar P h fk n base lk) ops ((s, kk, ⟨none, .store t x y, ty, pos, aft, none⟩) :: l) ⟨T, G⟩ Q := by
 subst hb h3 h4
 obtain ⟨hg, tj⟩ := hO.get hj
 have sd : b < G.length := (du.1 hg).1
 refine fF (v := CT) ?_ (k _ (hO.set (x := .cells sz (CA cs off v.cellsOf)) hj rfl rfl ⟨tj, by rw [AX, ru ⟨rfl, sd⟩]⟩))
 rw [Ka]
 simp only [h1, h2, ba, G0]
 have hm : ((Ar P h fk n H.length lk).Ay s kk).Bi b = true := by
  unfold Cx.Bi
  simp only [gg, ry]
  exact .inl tj
 have va : ¬ b < ((Ar P h fk n H.length lk).Ay s kk).base := ib.2 tj
 rw [ru hm, rr va]
 simp only [ba, hg]
 rw [ru ⟨hz, fb h5, h6⟩]
 rfl
theorem Ev {x y z : ed} {b : Bool} (hb : b = true) (v : V) (k : BZ (Ar P h fk n base lk) ops l ⟨D6 T d v, G⟩ Q) (h1 : ev T x = some (.bool b) := by rfl) (h2 : ev T y = some v := by rfl) (hd : fj d n = true := by rfl) :
  BZ (Ar P h fk n base lk) ops ((s, kk, ⟨some d, .pick x y z, ty, pos, aft, none⟩) :: l) ⟨T, G⟩ Q := by subst hb; exact pV (by rw [Uy]; simp only [h1, h2, ba, WY, dq]) hd k
theorem Eu {x y z : ed} {b : Bool} (hb : b = false) (v : V) (k : BZ (Ar P h fk n base lk) ops l ⟨D6 T d v, G⟩ Q) (h1 : ev T x = some (.bool b) := by rfl) (h2 : ev T z = some v := by rfl) (hd : fj d n = true := by rfl) :
  BZ (Ar P h fk n base lk) ops ((s, kk, ⟨some d, .pick x y z, ty, pos, aft, none⟩) :: l) ⟨T, G⟩ Q := by subst hb; exact pV (by rw [Uy]; simp only [h1, h2, ba, V2, dq]) hd k
theorem AZ {dst : Option Nat} {j t : Nat} {w b : Bool} (hb : b = w) (k : BZ c ops ((s, kk, ⟨dst, op, ty, pos, aft, none⟩) :: l) ⟨T, G⟩ Q) (hj : (ops[j]?).bind (·.dst) = some t := by rfl) (ht : T t = .bool b := by rfl) : BZ c ops ((s, kk, ⟨dst, op, ty, pos, aft, some (j, w)⟩) :: l) ⟨T, G⟩ Q := by
 subst hb
 obtain ⟨S', h1, h2⟩ := k
 refine ⟨S', ?_, h2⟩
 simp only [NF] at h1 ⊢
 rw [← h1]
 have : C1 (c.Ay s kk) ops ⟨dst, op, ty, pos, aft, some (j, b)⟩ ⟨T, G⟩ = C1 (c.Ay s kk) ops ⟨dst, op, ty, pos, aft, none⟩ ⟨T, G⟩ := by
  unfold C1 DF
  simp only [hj, ht, sa, ba, if_true]
  rfl
 rw [this]
theorem CK {j t : Nat} {w b : Bool} (hb : b = !w) (k : BZ (Ar P h fk n base lk) ops l ⟨D6 T d CT, G⟩ Q) (hj : (ops[j]?).bind (·.dst) = some t := by rfl) (ht : T t = .bool b := by rfl) (hd : fj d n = true := by rfl) :
  BZ (Ar P h fk n base lk) ops ((s, kk, ⟨some d, op, ty, pos, aft, some (j, w)⟩) :: l) ⟨T, G⟩ Q := by
 subst hb
 rw [SU]
 refine ⟨fb hd, false, ?_, ?_⟩
 ·unfold QQ
  simp only [hj, ba, ht]
  cases w <;> rfl
 ·simp only [ei, if_false]; exact k
theorem E9 {j t : Nat} {w : Bool} (k : BZ (Ar P h fk n base lk) ops l ⟨D6 T d CT, G⟩ Q) (hj : (ops[j]?).bind (·.dst) = some t := by rfl) (ht : T t = CT := by rfl) (hd : fj d n = true := by rfl) :
  BZ (Ar P h fk n base lk) ops ((s, kk, ⟨some d, op, ty, pos, aft, some (j, w)⟩) :: l) ⟨T, G⟩ Q := by
 rw [SU]
 refine ⟨fb hd, false, ?_, ?_⟩
 ·unfold QQ
  simp only [hj, ba, ht, CT]
 ·simp only [ei, if_false]; exact k
theorem vJ {f : jc} {caps : Array ed} {vs : List V} (k : BZ (Ar P h fk n base lk) ops l ⟨D6 T d (.fn f vs), G⟩ Q) (h1 : Ld T caps.toList = some vs := by rfl) (hd : fj d n = true := by rfl) :
  BZ (Ar P h fk n base lk) ops ((s, kk, ⟨some d, .makeFunc (.func f) #[] caps, ty, pos, aft, none⟩) :: l) ⟨T, G⟩ Q := by
 refine pV ?_ hd k
 rw [TQ]
 simp only [h1, ba]
theorem Ae {f : ed} {args : Array ed} {ats : Array ea} {g : jc} {caps vs so : List V} {M : List Nat} {r : V} (hr : ∀ L, Aw P h g so G (lk ++ [L]) = some (r, G')) (k : BZ (Ar P h fk n base lk) ops l ⟨D6 T d r, G'⟩ Q) (h1 : ev T f = some (.fn g caps) := by rfl) (h2 : Ld T args.toList = some vs := by rfl) (h3 : AW ((Ar P h fk n base lk).Ay s kk) (h.Df g) G (vs ++ caps) = some (so, M, G) := by rfl) (hd : fj d n = true := by rfl) :
  BZ (Ar P h fk n base lk) ops ((s, kk, ⟨some d, .call ⟨.value f, args, ats⟩, ty, pos, aft, none⟩) :: l) ⟨T, G⟩ Q := by
 refine pV ?_ hd k
 rw [GF]
 simp only [h1, h2, ba, Pz]
 show (AW ((Ar P h fk n base lk).Ay s kk) (h.Df g) G (vs ++ caps)).bind _ = _
 rw [h3]
 exact hr _
theorem B4 {st t : ea} {x y : ed} {f off o2 b sz d2 : Nat} {a a' : V} {cs : List V} {s2 k2 : Bool} {ty2 : ea} {pos2 : String} {aft2 : Array Edge} (hf : AL P st f = some off) (hO : A6 H G rs) (j : Nat) (v : V) (ha : D7 P t = some false) (k : BZ (Ar P h fk n base lk) ops l ⟨D6 (D6 T d a') d2 v, G⟩ Q) (h1 : ev T x = some a := by rfl) (h3 : iZ a off = some a' := by rfl) (hd : fj d n = true := by rfl) (h4 : ev (D6 T d a') y = some (.ptr b o2) := by rfl) (hj : rs[j]? = some (.Au b (.cells sz cs)) := by rfl) (h2 : cs[o2]? = some v := by rfl) (hd2 : fj d2 n = true := by rfl) :
  BZ (Ar P h fk n base lk) ops ((s, kk, ⟨some d, .fieldAddr st x f, ty, pos, aft, none⟩) :: (s2, k2, ⟨some d2, .load t y, ty2, pos2, aft2, none⟩) :: l) ⟨T, G⟩ Q := pF hf (Eg hO j v ha k h4 hj h2 hd2) h1 h3 hd
end steps
def sV (P : ep) (h : BX) (k base d : Nat) (rs : List ir) (out : V × A5) (x : X) (S : St) : Prop :=
 (x = .normal ∨ x = .ret) ∧ ((BP P S.H S.T rs).bind fun vs => En h k base d (FT vs) S.H) = some out
theorem AH {fn : Func} {body : Code} {k : jc} (zo : P.funcs[k]? = some fn) (hb : fn.body = some body) {m : Nat} (hn : fn.ntmps = m) {args : List V} {H : A5} {rs : Array ir} (hrs : fn.results = rs) (hlen : jn args.length m = true) (ud : (fn.name == "runtime.NumGoroutine") = false) {out : V × A5}
  (hr : A6 H H [] → HC (Ar P h k m H.length lk) body ⟨Ko args, H⟩ (sV P h k H.length lk.length rs.toList out)) (hns : Fh body = none := by rfl) : Aw P h k args H lk = some out :=
 SF zo hb hn hns (fb hlen) ud hrs (hr (A6.nil H))
theorem vE {k d : Nat} {lr : List ir} {x : X} {T : Nat → V} {G H : A5} {rs : List B8} {vs : List V} {v v' : V} {G2 : A5} (hO : A6 H G rs) (hg : h.grow k = false) (hx : x = .normal ∨ x = .ret) (h1 : BP P G T lr = some vs := by rfl) (h2 : FT vs = v := by rfl)
  (h3 : BO (h.Ti k) H.length d Ba (G, []) v = some (v', (G2, []))) (h4 : G2.take H.length = H) : sV P h k H.length d lr (v', H) x ⟨T, G⟩ := by
 refine ⟨hx, ?_⟩
 simp only [h1, ba, h2, En, hg, ei, if_false, h3, dq, h4, gi]
theorem Ah {k d : Nat} {lr : List ir} {T : Nat → V} {G H : A5} {rs : List B8} {vs : List V} {v v' : V} (hO : A6 H G rs) (hg : h.grow k = false := by rfl) (h1 : BP P G T lr = some vs := by rfl) (h2 : FT vs = v := by rfl)
  (h3 : BO (h.Ti k) H.length d Ba (G, []) v = some (v', (G, [])) := by rfl) {x : X} (hx : x = .normal ∨ x = .ret := by first | exact Or.inl rfl | exact Or.inr rfl) : sV P h k H.length d lr (v', H) x ⟨T, G⟩ := vE hO hg hx h1 h2 h3 hO.out
end
class AF (α : Type) where
 sz : Nat
 pos : 0 < sz
 BD : Nat → α → List V
 len : ∀ {l} x, (BD l x).length = sz
 Ej : ∀ {m d} x, (m == 0 || decide (m < d)) = true → clean.cleanL d (BD m x) = true
 cell : ∀ {l} x, (BD l x).all V.Bm = true
theorem AF.clean {α : Type} [AF α] (x : α) : clean.cleanL 1 (AF.BD 0 x) = true := AF.Ej x rfl
def AB {α : Type} [AF α] (m : Nat) (xs : List α) : List V := xs.flatMap (AF.BD m)
abbrev iv (x : Int) : V := .int .i64 x
abbrev A0 {α : Type} [AF α] (l m : Nat) (xs : List α) : V := .lit l xs.length (AB m xs)
theorem Bc (d : Nat) : ∀ (xs ys : List V), clean.cleanL d (xs ++ ys) = (clean.cleanL d xs && clean.cleanL d ys)
 | [], ys => by simp [clean.cleanL]
 | x :: xs, ys => by simp only [ie, clean.cleanL, Bc d xs ys, Bool.and_assoc]
theorem Cl {α : Type} [AF α] {m : Nat} (x : α) (xs : List α) : AB m (x :: xs) = AF.BD m x ++ AB m xs := rfl
theorem cI {α : Type} [AF α] {m : Nat} : AB m ([] : List α) = [] := rfl
theorem Gv {α : Type} [AF α] {m : Nat} (xs ys : List α) : AB m (xs ++ ys) = AB m xs ++ AB m ys := by simp [AB]
theorem By {α : Type} [AF α] {m : Nat} : ∀ (xs : List α), (AB m xs).length = xs.length * AF.sz α
 | [] => by simp [AB]
 | x :: xs => by rw [Cl, dw, By xs, AF.len, er, kr, lu]
theorem Jy {α : Type} [AF α] {m d : Nat} (h : (m == 0 || decide (m < d)) = true) : ∀ (xs : List α), clean.cleanL d (AB m xs) = true
 | [] => rfl
 | x :: xs => by rw [Cl, Bc, AF.Ej x h, Jy h xs]; rfl
theorem CH {α : Type} [AF α] (xs : List α) : clean.cleanL 1 ((AB 0) xs) = true := Jy rfl xs
theorem CY {α : Type} [AF α] {m : Nat} : ∀ (xs : List α), (AB m xs).all V.Bm = true
 | [] => rfl
 | x :: xs => by rw [Cl, gk, AF.cell, CY xs]; rfl
instance : AF Int := ⟨1, ig, fun _ x => [.int .i64 x], fun _ => rfl, fun _ _ => rfl, fun _ => rfl⟩
instance : AF Bool := ⟨1, ig, fun _ x => [.bool x], fun _ => rfl, fun _ _ => rfl, fun _ => rfl⟩
instance : AF ByteArray := ⟨1, ig, fun _ x => [.str x], fun _ => rfl, fun _ _ => rfl, fun _ => rfl⟩
instance {α : Type} [AF α] : AF (List α) := ⟨1, ig, fun l x => [.lit l x.length (AB l x)], fun _ => rfl, fun x h => by simp only [clean.cleanL, K.clean, Jy h, h]; rfl, fun _ => rfl⟩
abbrev AN (x : Int) : Int := IntKind.wrap .i64 x
def AR {α : Type} (xs : List α) (i : Int) : Option α := if 0 ≤ i then xs[i.toNat]? else none
theorem Fj {α : Type} {xs : List α} {i : Int} {x : α} (h : AR xs i = some x) : 0 ≤ i ∧ i < xs.length := by
 unfold AR at h
 split at h
 ·rename_i h0
  have := (du.1 h).1
  exact ⟨h0, by omega⟩
 ·cases h
theorem Jz {α : Type} {xs : List α} {i : Int} {x : α} (h : AR xs i = some x) : xs[i.toNat]? = some x := by
 unfold AR at h
 split at h
 ·exact h
 ·cases h
theorem Oa {α : Type} [AF α] {m : Nat} : ∀ {xs : List α} {j : Nat} {x : α}, xs[j]? = some x → ∃ a b, AB m xs = a ++ (AF.BD m x ++ b) ∧ a.length = j * AF.sz α
 | [], j, x, h => by simp at h
 | y :: xs, 0, x, h => by
  simp only [iz, an] at h
  subst h
  exact ⟨[], AB m xs, by simp [Cl], by simp⟩
 | y :: xs, j + 1, x, h => by
  simp only [nj] at h
  obtain ⟨a, b, h1, h2⟩ := Oa h
  exact ⟨AF.BD m y ++ a, b, by rw [Cl, h1, eo], by rw [dw, AF.len, h2, kr, lu]⟩
theorem UT {α : Type} [AF α] {m : Nat} {xs : List α} {i : Int} {x : α} (h : AR xs i = some x) {off : Nat} (ho : off < AF.sz α) : (AB m xs)[i.toNat * AF.sz α + off]? = (AF.BD m x)[off]? := by
 obtain ⟨a, b, h1, h2⟩ := Oa (Jz h)
 rw [h1, fe (by omega), h2, nq, eh (by rw [AF.len]; exact ho)]
theorem YL {α : Type} [AF α] {m : Nat} {xs : List α} {i : Int} {x : α} (h : AR xs i = some x) {off k : Nat} (ho : off + k ≤ AF.sz α) : ((AB m xs).drop (i.toNat * AF.sz α + off)).take k = ((AF.BD m x).drop off).take k := by
 obtain ⟨a, b, h1, h2⟩ := Oa (Jz h)
 rw [h1, ← h2, ob, ln (by omega), gu]
 rw [show a.length + off - a.length = off by omega, List.drop_append_of_le_length (by rw [AF.len]; omega), List.take_append_of_le_length (by rw [ko, AF.len]; omega)]
theorem Rl {α : Type} [AF α] {m : Nat} {xs : List α} {i : Int} {x : α} (h : AR xs i = some x) : i.toNat * AF.sz α + AF.sz α ≤ (AB m xs).length := by
 obtain ⟨a, b, h1, h2⟩ := Oa (Jz h)
 rw [h1, dw, dw, AF.len]
 omega
theorem cK {α : Type} [AF α] {m : Nat} {xs : List α} {i : Int} {x : α} (h : AR xs i = some x) (y : α) : CA (AB m xs) (i.toNat * AF.sz α) (AF.BD m y) = AB m (xs.set i.toNat y) := by
 have key : ∀ (xs : List α) (j : Nat), j < xs.length → CA (AB m xs) (j * AF.sz α) (AF.BD m y) = AB m (xs.set j y) := by
  intro xs
  induction xs with
  | nil => intro j hj; simp at hj
  | cons z xs ih =>
   intro j hj
   cases j with
   | zero =>
    unfold CA
    rw [pz, Cl, Cl, Nat.zero_mul, qt, gu, kb, AF.len, ob, ln (by rw [AF.len]; exact dz _), gu, AF.len, kh, mn]
   | succ j =>
    have zg : j < xs.length := by simpa using hj
    rw [List.set_cons_succ, Cl, Cl, ← ih j zg]
    unfold CA
    have e1 : (j + 1) * AF.sz α = (AF.BD m z).length + j * AF.sz α := by rw [AF.len, kr, lu]
    rw [e1, oc, la, od]
    simp [eo]
 exact key xs _ (by have := Fj h; omega)
theorem cJ {α : Type} [AF α] {m : Nat} (z : α) (n : Nat) : (gf n (AF.BD m z)).flatten = AB m (gf n z) := by
 induction n with
 | zero => rfl
 | succ n ih => rw [ny, List.flatten_cons, ih]; rfl
section reads
variable {P : ep} {α : Type} [AF α] {lm : Nat} {xs : List α} {i : Int} {x : α} {t : ea} {off m : Nat} {v : V} {cs : List V}
theorem Gj (h : AR xs i = some x) (ha : D7 P t = some false) (hv : (AF.BD lm x)[off]? = some v := by rfl) : BN P t (AB lm xs) (i.toNat * AF.sz α + off) = some v := by
 unfold BN
 rw [ha]
 have : off < AF.sz α := by rw [← AF.len x]; exact (du.1 hv).1
 simp only [UT h this, hv]
theorem EA (h : AR xs i = some x) (ha : D7 P t = some true) (hz : B3 P t = some m) (hm : jn (off + m) (AF.sz α) = true := by rfl) (hv : ((AF.BD lm x).drop off).take m = cs := by rfl) : BN P t (AB lm xs) (i.toNat * AF.sz α + off) = some (.agg cs) := by
 have hm := fb hm
 unfold BN
 rw [ha, hz]
 simp only [ba]
 rw [ru (by have := Rl (m := lm) h; omega), YL h hm, hv]
end reads
theorem ZN {d d' : Nat} (hd : d ≤ d') (hd0 : 0 < d) : ∀ (v : V), clean d v = true → clean d' v = true := by
 have key : ∀ (v : V), (clean d v = true → clean d' v = true) := by
  intro v
  refine V.rec (motive_1 := fun v => clean d v = true → clean d' v = true) (motive_2 := fun vs => clean.cleanL d vs = true → clean.cleanL d' vs = true) ?_ ?_ ?_ ?_ ?_ ?_ ?_ ?_ ?_ ?_ ?_ ?_ ?_ ?_ ?_ ?_ ?_ ?_ v
  all_goals intros
  all_goals (try (simp only [clean, ec, gg, ry] at *))
  all_goals (try trivial)
  ·rename_i lv n cs ih h
   exact ⟨by rcases h.1 with h1 | h1; exact .inl h1; exact .inr (by omega), ih h.2⟩
  all_goals (try (rename_i ih h; exact ih h))
  ·rename_i a as h1 h2 h
   simp only [clean.cleanL, ec] at h ⊢
   exact ⟨h1 h.1, h2 h.2⟩
 exact key
theorem GV {d d' : Nat} (hd : d ≤ d') (hd0 : 0 < d) : ∀ (vs : List V), clean.cleanL d vs = true → clean.cleanL d' vs = true
 | [], _ => rfl
 | v :: vs, h => by
  simp only [clean.cleanL, ec] at h ⊢
  exact ⟨ZN hd hd0 v h.1, GV hd hd0 vs h.2⟩
theorem Gc {th : Bool} {lo d k : Nat} {X : A5 × List Bv} : ∀ (vs : List V), clean.cleanL d vs = true → vs.all V.Bm = true → BO.resL (BO th lo d (k + 1)) X vs = some (vs, X)
 | [], _, _ => rfl
 | v :: vs, h, hc => by
  simp only [clean.cleanL, ec] at h
  simp only [jr, ec] at hc
  have : BO th lo d (k + 1) X v = some (v, X) := by
   cases v with
   | lit lv n cs => simp only [BO]; rw [ru h.1]
   | int _ _ => rfl
   | bool _ => rfl
   | str _ => rfl
   | HV => rfl
   | EI => rfl
   | agg cs => cases hc.1
   | Ei cs => cases hc.1
   | _ => simp [clean] at h
  simp only [BO.resL, this, ba, Gc vs h.2 hc.2, dq]
theorem K3 {lv : Nat} {H : A5} {k : Nat} : ∀ (vs : List V), clean.cleanL 1 vs = true → vs.all V.Bm = true → Al.lendL (Al lv H (k + 1)) vs = some (vs, [])
 | [], _, _ => rfl
 | v :: vs, h, hc => by
  simp only [clean.cleanL, ec] at h
  simp only [jr, ec] at hc
  have : Al lv H (k + 1) v = some (v, []) := by
   cases v with
   | lit lv n cs => rfl
   | int _ _ => rfl
   | bool _ => rfl
   | str _ => rfl
   | HV => rfl
   | EI => rfl
   | agg cs => cases hc.1
   | Ei cs => cases hc.1
   | _ => simp [clean] at h
  simp only [Al.lendL, this, ba, K3 vs h.2 hc.2, dq, gi]
def Ks (bytes : Nat) (n : Int) : Option Nat := if 0 ≤ n ∧ n * (bytes + 1) ≤ 70368744177664 then some n.toNat else none
section steps
variable {P : ep} {h : BX} {fk n base : Nat} {lk : Lk} {c : Cx} {ops : Array fc} {s kk : Bool} {d : Nat} {ty : ea} {pos : String} {aft : Array Edge} {l : List (Bool × Bool × fc)} {Q : St → Prop} {T : Nat → V} {G G' H : A5} {rs : List B8} {op : Op}
variable {α : Type} [AF α]
theorem pX {lm : Nat} {xs : List α} {i : Int} {x : α} {t e : ea} {y z : ed} {lv : Nat} {kd : jo} (hc : AR xs i = some x) (he : B0 P t = some e) (hz : B3 P e = some (AF.sz α)) (k : BZ (Ar P h fk n base lk) ops l ⟨D6 T d (.lp lv (AB lm xs) (i.toNat * AF.sz α)), G⟩ Q)
  (h1 : ev T y = some (.lit lv xs.length (AB lm xs)) := by rfl) (h2 : ev T z = some (.int kd i) := by rfl) (hd : fj d n = true := by rfl) :
  BZ (Ar P h fk n base lk) ops ((s, kk, ⟨some d, .indexAddr t y z, ty, pos, aft, none⟩) :: l) ⟨T, G⟩ Q := by
 refine pV ?_ hd k
 rw [Ef]
 show (B0 P t).bind _ = _
 rw [he, ba]
 show (B3 P e).bind _ = _
 simp only [hz, h1, h2, ba, asInt, RO, D4]
 rw [ru (Fj hc)]
 rfl
theorem uN {xs : List α} {i : Int} {x : α} {t e : ea} {y z : ed} {b m : Nat} {kd : jo} (hl : xs.length = m) (hc : AR xs i = some x) (he : B0 P t = some e) (hz : B3 P e = some (AF.sz α)) (k : BZ (Ar P h fk n base lk) ops l ⟨D6 T d (.ptr b (i.toNat * AF.sz α)), G⟩ Q)
  (h1 : ev T y = some (.sl b 0 m) := by rfl) (h2 : ev T z = some (.int kd i) := by rfl) (hd : fj d n = true := by rfl) :
  BZ (Ar P h fk n base lk) ops ((s, kk, ⟨some d, .indexAddr t y z, ty, pos, aft, none⟩) :: l) ⟨T, G⟩ Q := by
 subst hl
 refine pV ?_ hd k
 rw [Ef]
 show (B0 P t).bind _ = _
 rw [he, ba]
 show (B3 P e).bind _ = _
 simp only [hz, h1, h2, ba, asInt, RO, D4]
 rw [ru (Fj hc)]
 simp
theorem uF {a : Int} {m by_ : Nat} {t e : ea} {y z' : ed} (hO : A6 H G rs) (hm : Ks by_ a = some m) (zv : α) (he : B0 P t = some e) (hz : B3 P e = some (AF.sz α)) (hb : C3 P e = some by_) {z : List V} (hzero : BH P e = some z)
  (k : ∀ b G', A6 H G' (.Au b (.cells (AF.sz α) ((AB 0) (gf m zv))) :: rs) → BZ (Ar P h fk n base lk) ops l ⟨D6 T d (.sl b 0 m), G'⟩ Q)
  (h0 : z.map (IQ (h.Ih fk)) = (AF.BD 0) zv := by rfl) (h1 : ev T y = some (.int .i64 a) := by rfl) (h2 : ev T z' = some (.int .i64 a) := by rfl) (hd : fj d n = true := by rfl) :
  BZ (Ar P h fk n base lk) ops ((s, kk, ⟨some d, .makeSlice t y z', ty, pos, aft, none⟩) :: l) ⟨T, G⟩ Q := by
 unfold Ks at hm
 split at hm
 case isFalse => cases hm
 rename_i hc
 simp only [an] at hm
 subst hm
 refine pV ?_ hd (k _ _ (hO.alloc _))
 rw [Kt]
 simp only [h1, h2, ba, K5]
 show (B0 P t).bind _ = _
 rw [he, ba]
 show (B3 P e).bind _ = _
 rw [hz, ba]
 show (C3 P e).bind _ = _
 rw [hb, ba]
 show (BH P e).bind _ = _
 rw [hzero, ba, ru ⟨trivial, hc.1, hc.2, by rw [← ja (f := IQ (h.Ih fk)), h0]; exact AF.len zv, jt.1 (AF.pos)⟩]
 show some (V.sl G.length 0 a.toNat, G ++ [Bv.cells (AF.sz α) (gf a.toNat (z.map (IQ (h.Ih fk)))).flatten]) = _
 rw [h0, cJ]
theorem uJ {xs : List α} {i : Int} {x : α} {t : ea} {y z : ed} {b sz : Nat} (hO : A6 H G rs) (j : Nat) (hc : AR xs i = some x) (hz : B3 P t = some (AF.sz α)) (hb : base = H.length) (yv : α) (v : V)
  (k : ∀ G', A6 H G' (rs.set j (.Au b (.cells sz ((AB 0) (xs.set i.toNat yv))))) → BZ (Ar P h fk n base lk) ops l ⟨T, G'⟩ Q)
  (h1 : ev T y = some (.ptr b (i.toNat * AF.sz α)) := by rfl) (hj : rs[j]? = some (.Au b (.cells sz ((AB 0) xs))) := by rfl) (h2 : ev T z = some v := by rfl) (h3 : v.cellsOf = (AF.BD 0) yv := by rfl) :
  BZ (Ar P h fk n base lk) ops ((s, kk, ⟨none, .store t y z, ty, pos, aft, none⟩) :: l) ⟨T, G⟩ Q := by
 subst hb
 obtain ⟨hg, tj⟩ := hO.get hj
 have sd : b < G.length := (du.1 hg).1
 refine fF (v := CT) ?_ (k _ (hO.set (x := .cells sz ((AB 0) (xs.set i.toNat yv))) hj rfl rfl ⟨tj, by rw [AX, ru ⟨rfl, sd⟩]⟩))
 rw [Ka]
 simp only [h1, h2, ba, G0]
 have hm : ((Ar P h fk n H.length lk).Ay s kk).Bi b = true := by
  unfold Cx.Bi
  simp only [gg, ry]
  exact .inl tj
 have va : ¬ b < ((Ar P h fk n H.length lk).Ay s kk).base := ib.2 tj
 rw [ru hm, rr va]
 simp only [ba, hg, h3]
 have e1 : B3 P t = some ((AF.BD 0) yv).length := by rw [AF.len]; exact hz
 have e2 : i.toNat * AF.sz α + ((AF.BD 0) yv).length ≤ ((AB 0) xs).length := by rw [AF.len]; exact Rl hc
 rw [cK hc]
 exact congrArg (fun x : Option A5 => x.map fun H => (CT, H)) (ru ⟨e1, e2, AF.cell yv⟩)
end steps
section ends
variable {P : ep} {h : BX} {k d : Nat} {lr : List ir} {T : Nat → V} {G H : A5} {rs : List B8} {vs : List V} {α : Type} [AF α] {x : X}
theorem k8 {P : ep} {hs : BX} {fk n base : Nat} {lk : Lk} {ops : Array fc} {S : St} {Q : X → St → Prop} {id : Nat} (l : List (Nat × Bool)) (l' : List (Bool × Bool × fc)) (h : ZP (hs.lits fk || hs.iO fk) ops l = true) (hl : Mu ops l = l') (hq : BZ (Ar P hs fk n base lk) ops l' S (Q .normal)) : HC (Ar P hs fk n base lk) (.region id ops true) S Q := by
 subst hl; exact eW l h hq
end ends
section
open Go.RowKit
def GX (W : je) : Ab := { w := W, φ := fun b => b, H := [], lk := [], n := 0, m := 0, Bl := [] }
theorem cQ (W : je) (lv : Option Nat) (g i : Nat) : ¬ (GX W).U lv g i := by
 intro h
 rcases h with h | h
 ·cases h
 cases lv with
 | some lv =>
  obtain ⟨b, _, _, h⟩ := h
  have h : match ([] : A5)[b]? with
   | some (.cells _ _) | some (.mp _) => True
   | some (.Bt l n sz) => lv < l ∨ n * sz ≤ i
   | _ => False := h
  simp at h
 | none =>
  obtain ⟨b, _, h⟩ := h
  have h : match ([] : A5)[b]? with
   | some (.cells _ _) | some (.mp _) => True
   | some (.Bt _ n sz) => n * sz ≤ i
   | _ => False := h
  simp at h
theorem W8 (W : je) : Ch (GX W) where
 cells := fun b sz cs h => by have h : ([] : A5)[b]? = some (.cells sz cs) := h; simp at h
 Bt := fun b l n sz h => by have h : ([] : A5)[b]? = some (.Bt l n sz) := h; simp at h
 lvl := fun b l n sz h => by have h : ([] : A5)[b]? = some (.Bt l n sz) := h; simp at h
 dm := dz _
 inj := fun b b' h _ _ => by have h : live ([] : A5)[b]? := h; simp [live] at h
 maps := fun b BC h => by have h : ([] : A5)[b]? = some (.mp BC) := h; simp at h
 Bl := fun g hg => by cases hg
theorem dD {P : ep} (hfol : P.follows .mixedOrders = true) {h : BX} {k : jc} {args : Array eu} {W : je} {vs : List V} (xh : AM (GX W) vs args.toList) (ui : Aw P h k vs [] [[]] = some (.bool true, [])) :
  Calls P k args W fun e W' => e = .returned (.bool true) ∧ Below W.heap.size W W' := by
 have hc := (Wc P hfol h).run k vs [] [] [] (.bool true) [] ui (GX W) args.toList rfl rfl rfl rfl (W8 W) (by simp) ((Ca.Dv (GX W) [] (dz _)).Hz _ _ xh)
 have he : args.toList.toArray = args := by simp
 rw [he] at hc
 refine hc.mono fun e W' hR => ?_
 cases e with
 | returned u =>
  obtain ⟨E1, rfl, hb, hr⟩ := hR
  simp only [AA] at hr
  subst hr
  refine ⟨rfl, hb.Cz.os, hb.Cz.tape, hb.Cz.output, hb.Cz.size, fun g hg => hb.Cz.block g hg fun i hu => ?_⟩
  rcases hu with hu | ⟨b, _, _, hu⟩
  ·cases hu
  have hx : ((GX W).lock []).H[b]? = none := by show ([] : A5)[b]? = none; rfl
  rw [hx] at hu
  exact hu
 | _ => exact hR.elim
def Hi (P : ep) (t : ea) (α : Type) [AF α] (fits : α → Prop) : Prop :=
 ∀ {K : Type} (enc : ea × eu → K) (W : je) (sp : Nat → Bool) (fuel : Nat) (cs : List eu) (d : DataW K) (ps : List MemPlace), DataW.trod enc P W 0 sp true fuel t cs = some (d, ps) → ∃ x : α, AM (GX W) ((AF.BD 0) x) cs ∧ fits x
abbrev Iv (x : Int) : Prop := -9223372036854775808 ≤ x ∧ x ≤ 9223372036854775807
abbrev G4 {α : Type} (f : α → Prop) (xs : List α) : Prop := xs.length ≤ 9223372036854775807 ∧ ∀ x ∈ xs, f x
section
variable {P : ep} {t : ea}
theorem Yn (ht : P.underlying t = some (.int .i64)) : Hi P t Int Iv := by
 intro K enc W sp fuel cs d ps h
 cases fuel with
 | zero => simp [DataW.trod] at h
 | succ fuel =>
  simp only [DataW.trod, ht] at h
  split at h <;> try (simp_all; done)
  rename_i k k' n heq
  split at h
  case isFalse => cases h
  rename_i hc
  simp only [an, TypeDesc.int.injEq] at heq
  subst heq
  obtain ⟨rfl, hw⟩ := hc
  simp only [Lit.wf, ec, ry] at hw
  refine ⟨n, ?_, ?_⟩
  ·show AM _ [.int .i64 n] _
   simp only [AM, AA]
   exact ⟨_, _, rfl, rfl, rfl⟩
  ·have h1 : IntKind.min .i64 = -9223372036854775808 := rfl
   have h2 : IntKind.max .i64 = 9223372036854775807 := rfl
   rw [h1, h2] at hw
   exact hw
theorem Yo (ht : P.underlying t = some .string) : Hi P t ByteArray fun s => s.size ≤ 9223372036854775807 := by
 intro K enc W sp fuel cs d ps h
 cases fuel with
 | zero => simp [DataW.trod] at h
 | succ fuel =>
  simp only [DataW.trod, ht] at h
  split at h <;> try (simp_all; done)
  rename_i s heq
  split at h
  case isFalse => cases h
  rename_i hc
  refine ⟨s, ?_, hc⟩
  show AM _ [.str s] _
  simp only [AM, AA]
  exact ⟨_, _, rfl, rfl, rfl⟩
theorem Xu {W : je} {a : Addr} {n : Nat} {cs : List eu} (h : W.cells? 0 a n = some cs) : cs.length = n ∧ ∀ i, i < n → ∃ u, cs[i]? = some u ∧ W.cell? (a.add i) = some u := by
 unfold World.cells? at h
 rw [ru (ga _)] at h
 have key : ∀ (l : List Nat) (cs : List eu), (l.mapM fun i => W.cell? (a.add i)) = some cs → cs.length = l.length ∧ ∀ (i j : Nat), l[i]? = some j → ∃ u, cs[i]? = some u ∧ W.cell? (a.add j) = some u := by
  intro l
  induction l with
  | nil =>
   intro cs h
   simp only [List.mapM_nil, my, an] at h
   subst h
   exact ⟨rfl, fun i j h => by simp at h⟩
  | cons x l ih =>
   intro cs h
   simp only [nu, nk, dj, my, an] at h
   obtain ⟨u, hu, us, hus, rfl⟩ := h
   obtain ⟨h1, h2⟩ := ih us hus
   refine ⟨by simp [h1], fun i j hij => ?_⟩
   cases i with
   | zero =>
    simp only [iz, an] at hij
    subst hij
    exact ⟨u, rfl, hu⟩
   | succ i => exact h2 i j (by simpa using hij)
 obtain ⟨h1, h2⟩ := key _ _ h
 refine ⟨by simpa using h1, fun i hi => h2 i i ?_⟩
 rw [List.getElem?_range hi]
theorem XV {W : je} {lv : Option Nat} {g : Nat} : ∀ {vs : List V} {cs : List eu} {o : Nat}, AM (GX W) vs cs → (∀ i u, cs[i]? = some u → W.cell? ⟨g, o + i, none⟩ = some u) → CR (GX W) lv g o vs
 | [], cs, o, _, _ => by simp only [CR]
 | v :: vs, cs, o, h, hc => by
  simp only [AM] at h
  obtain ⟨u, us, rfl, h1, h2⟩ := h
  simp only [CR]
  refine ⟨⟨u, hc 0 u rfl, h1⟩, cQ _ _ _ _, XV h2 fun i u hi => ?_⟩
  have := hc (i + 1) u (by simpa using hi)
  rw [show o + 1 + i = o + (i + 1) by omega]
  exact this
theorem V3 {W : je} {lv : Option Nat} {g : Nat} : ∀ {vs ws : List V} {o : Nat}, CR (GX W) lv g o vs → CR (GX W) lv g (o + vs.length) ws → CR (GX W) lv g o (vs ++ ws)
 | [], ws, o, _, h => h
 | v :: vs, ws, o, h, h' => by
  simp only [CR, ie] at h ⊢
  exact ⟨h.1, h.2.1, V3 h.2.2 (by rw [show o + 1 + vs.length = o + (v :: vs).length by simp; omega]; exact h')⟩
theorem IT {e : ea} {α : Type} [AF α] {f : α → Prop} (ht : P.underlying t = some (.slice e)) (hz : P.cellsOf e = AF.sz α) (he : Hi P e α f) : Hi P t (List α) (G4 f) := by
 intro K enc W sp fuel cs d ps h
 cases fuel with
 | zero => simp [DataW.trod] at h
 | succ fuel =>
  simp only [DataW.trod, ht] at h
  split at h <;> try (simp_all; done)
  ·refine ⟨[], ?_, by simp [G4]⟩
   show AM _ [.lit 0 0 []] _
   simp only [AM, AA]
   exact ⟨_, _, rfl, ⟨dz _, none, 0, rfl, dz _, .inl trivial⟩, rfl⟩
  ·rename_i e' a len cap heq
   simp only [an, TypeDesc.slice.injEq] at heq
   subst heq
   split at h
   case isFalse => cases h
   rename_i hc
   simp only [dj] at h
   obtain ⟨es, hes, _⟩ := h
   have key : ∀ (n k : Nat) (es : List (DataW K × List MemPlace)), ((List.range' k n).mapM fun i => (W.cells? 0 (a.add (i * P.cellsOf e)) (P.cellsOf e)).bind (DataW.trod enc P W 0 sp true fuel e)) = some es →
     ∃ xs : List α, xs.length = n ∧ (∀ x ∈ xs, f x) ∧ ((0 < n → k = 0 → a.spot = none) ∧ (n = 0 ∨ 0 < k ∨ a.spot = none) → ∀ lv, CR (GX W) lv a.block (a.off + k * AF.sz α) ((AB 0) xs)) ∧ (0 < n → k = 0 → a.spot = none) := by
    intro n
    induction n with
    | zero => intro k es _; exact ⟨[], rfl, by simp, fun _ lv => by rw [cI]; simp only [CR], fun h => absurd h (lq _)⟩
    | succ n ih =>
     intro k es h
     rw [List.range'_succ] at h
     simp only [nu, nk, dj, my, an] at h
     obtain ⟨y, ⟨cs, hcs, hy⟩, ys, hys, rfl⟩ := h
     obtain ⟨x, hx, hfx⟩ := he enc W sp fuel cs y.1 y.2 hy
     obtain ⟨xs, h1, h2, h3, _⟩ := ih (k + 1) ys hys
     obtain ⟨c1, c2⟩ := Xu hcs
     have hpos : 0 < P.cellsOf e := by rw [hz]; exact AF.pos
     have hspot : k = 0 → a.spot = none := by
      intro hk
      subst hk
      obtain ⟨u, _, hu⟩ := c2 0 hpos
      have e1 : ((a.add (0 * P.cellsOf e)).add 0) = a := by simp [Addr.add]
      rw [e1] at hu
      unfold World.cell? at hu
      split at hu
      ·split at hu
       ·cases hu
       ·rename_i hs; simpa using hs
      ·cases hu
     refine ⟨x :: xs, by simp [h1], fun z hz' => ?_, fun _ lv => ?_, fun _ => hspot⟩
     ·rcases fi.1 hz' with rfl | hz'
      ·exact hfx
      ·exact h2 z hz'
     ·rw [Cl]
      refine V3 (XV hx fun i u hi => ?_) ?_
      ·have sd : i < P.cellsOf e := by rw [← c1]; exact (du.1 hi).1
       obtain ⟨u', hu1, hu2⟩ := c2 i sd
       rw [hi] at hu1
       simp only [an] at hu1
       subst hu1
       have e1 : W.cell? ((a.add (k * P.cellsOf e)).add i) = W.cell? ⟨a.block, a.off + k * AF.sz α + i, none⟩ := by
        congr 1
        rw [← hz]
        unfold Addr.add
        by_cases h1 : k * P.cellsOf e = 0
        ·have hk : k = 0 := by
          rcases Nat.mul_eq_zero.1 h1 with h | h
          ·exact h
          ·omega
         have hs := hspot hk
         by_cases h2 : i = 0
         ·simp only [h1, h2, if_true, nr]
          cases a; simp_all
         ·simp only [h1, h2, if_true, if_false, nr]
        ·by_cases h2 : i = 0
         ·simp only [h1, h2, if_true, if_false, nr]
         ·simp only [h1, h2, if_false]
       rw [← e1]
       exact hu2
      ·rw [AF.len, show a.off + k * AF.sz α + AF.sz α = a.off + (k + 1) * AF.sz α by rw [kr]; omega]
       exact h3 ⟨fun _ h => by omega, .inr (.inl (Nat.succ_pos k))⟩ lv
   rw [List.range_eq_range'] at hes
   obtain ⟨xs, h1, h2, h3, h4⟩ := key len 0 es hes
   refine ⟨xs, ?_, ?_, h2⟩
   ·show AM _ [.lit 0 xs.length ((AB 0) xs)] _
    simp only [AM, AA]
    refine ⟨_, _, rfl, ⟨dz _, some a, cap, by rw [h1], by rw [h1]; exact hc.2.1, ?_⟩, rfl⟩
    rcases ke len with hl | hl
    ·exact .inl (by rw [h1, hl])
    ·have hs := h4 hl rfl
     refine .inr ⟨a.block, a.off, by cases a; simp_all, ?_⟩
     have := h3 ⟨fun _ _ => hs, .inr (.inr hs)⟩ (some 0)
     simpa using this
   ·rw [h1]
    have := hc.2.2
    have hm : maxLen = 9223372036854775807 := rfl
    omega
theorem fE {E : Ab} {xs ys : List V} {cs : List eu} {off sz : Nat} (h1 : AM E xs ((cs.drop off).take sz)) (h2 : AM E ys (cs.drop (off + sz))) : AM E (xs ++ ys) (cs.drop off) := by
 have := EU h1 (by rw [← qu] at h2; exact h2)
 rwa [pe] at this
theorem MK {E : Ab} {xs : List V} {cs : List eu} {off sz : Nat} (hl : cs.length = off + sz) (h1 : AM E xs ((cs.drop off).take sz)) : AM E xs (cs.drop off) := by
 rwa [jy (by rw [ko]; omega)] at h1
theorem HB {K : Type} {enc : ea × eu → K} {W : je} {sp : Nat → Bool} {fuel : Nat} {cs : List eu} {d : DataW K} {ps : List MemPlace} {fs : Array Field} (ht : P.underlying t = some (.struct fs)) (h : DataW.trod enc P W 0 sp true fuel t cs = some (d, ps)) :
  ∃ fuel', cs.length = P.cellsOf t ∧ ∀ f ∈ fs.toList, ∃ d' wu, DataW.trod enc P W 0 sp true fuel' f.type ((cs.drop f.offset).take (P.cellsOf f.type)) = some (d', wu) := by
 cases fuel with
 | zero => simp [DataW.trod] at h
 | succ fuel =>
  simp only [DataW.trod, ht] at h
  split at h
  case isFalse => cases h
  rename_i hc
  simp only [dn] at h
  obtain ⟨xs, hxs, wj⟩ := h
  refine ⟨fuel, hc, ?_⟩
  clear ht hc wj
  generalize fs.toList = l at hxs ⊢
  induction l generalizing xs with
  | nil => simp
  | cons f l ih =>
   simp only [nu, nk, dj, my, an] at hxs
   obtain ⟨y, hy, ys, hys, rfl⟩ := hxs
   intro g hg
   rcases fi.1 hg with rfl | hg
   ·exact ⟨y.1, y.2, hy⟩
   ·exact ih ys hys g hg
end
def XO (P : ep) (t : ea) : Bool := match P.underlying t with | some (.int _) | some .bool | some .string | some (.slice _) => true | _ => false
theorem Tu {P : ep} {t : ea} {W : je} {base : Nat} {v : eu} (ht : XO P t = true) (ho : Value.okWide P W .any base t v) (cs : Array eu) : v ≠ .agg cs := by
 rintro rfl
 unfold XO at ht
 unfold Value.okWide Cell.okWide Cell.ok at ho
 split at ht <;> rename_i hu
 all_goals (try (rw [hu] at ho; simp at ho; done))
 all_goals cases ht
theorem VZ {P : ep} {t : ea} {fs : Array Field} {W : je} {base : Nat} {v : eu} (ht : P.underlying t = some (.struct fs)) (ho : Value.okWide P W .any base t v) : ∃ cs, v = .agg cs := by
 unfold Value.okWide at ho
 rw [ht] at ho
 obtain ⟨cs, h, _⟩ := ho
 exact ⟨cs, h⟩
theorem tM {E : Ab} {xs : List V} {v : eu} (hv : ∃ cs, v = .agg cs) (h : AM E xs v.cells.toList) : AA E (.agg xs) v := by
 obtain ⟨cs, rfl⟩ := hv
 simp only [AA]
 exact ⟨cs, rfl, h⟩
theorem oQ {E : Ab} {x : V} {v : eu} (hv : ∀ cs, v ≠ .agg cs) (h : AM E [x] v.cells.toList) : AA E x v := by
 have hc : v.cells = #[v] := by
  cases v <;> first | rfl | exact absurd rfl (hv _)
 rw [hc] at h
 simp only [AM] at h
 obtain ⟨u, us, h1, h2, _⟩ := h
 simp only [js] at h1
 rw [h1.1]
 exact h2
theorem oR (E : Ab) : AM E [] [] := by simp only [AM]
theorem ZJ {E : Ab} {x : V} {xs : List V} {v : eu} {vs : List eu} (h : AA E x v) (hs : AM E xs vs) : AM E (x :: xs) (v :: vs) := by
 simp only [AM]
 exact ⟨v, vs, rfl, h, hs⟩
end
theorem CJ {x : Int} (h : -9223372036854775808 ≤ x ∧ x ≤ 9223372036854775807) : AN x = x := IntWalk.i64_in x h
theorem B7 {i : Nat} (h : i < 9223372036854775807) : AN ((i : Int) + 1) = ((i + 1 : Nat) : Int) := by rw [CJ ⟨by omega, by omega⟩]; rfl
theorem AJ {α : Type} (xs : List α) (i : Nat) : AR xs (i : Int) = xs[i]? := by
 unfold AR
 rw [ru (by omega)]
 rfl
theorem MX {by_ n : Nat} (h : n * (by_ + 1) ≤ 70368744177664) : Ks by_ (n : Int) = some n := by
 unfold Ks
 have h1 : (n : Int) * ((by_ : Int) + 1) ≤ 70368744177664 := by
  have e : (n : Int) * ((by_ : Int) + 1) = ((n * (by_ + 1) : Nat) : Int) := by rw [Int.natCast_mul, Int.natCast_add]; rfl
  rw [e]
  omega
 rw [ru ⟨Int.natCast_nonneg n, h1⟩]
 rfl
theorem dK {σ ρ : Type} {F : σ → Option (σ ⊕ ρ)} (φ : ρ → Prop) (n : Nat) (st : Nat → σ) (h : ∀ i, i < n → F (st i) = some (.inl (st (i + 1))) ∨ ∃ r, F (st i) = some (.inr r) ∧ φ r) (uh : ∃ r, F (st n) = some (.inr r) ∧ φ r) : ∃ r, AQ F (st 0) = some r ∧ φ r := by
 have key : ∀ k i, i + k = n → ∃ r, AQ F (st i) = some r ∧ φ r := by
  intro k
  induction k with
  | zero =>
   intro i hi
   have : i = n := by omega
   subst this
   obtain ⟨r, h1, h2⟩ := uh
   exact ⟨r, by rw [Ap, h1]; rfl, h2⟩
  | succ k ih =>
   intro i hi
   rcases h i (by omega) with h1 | ⟨r, h1, h2⟩
   ·obtain ⟨r, h2, h3⟩ := ih (i + 1) (by omega)
    exact ⟨r, by rw [Ap, h1]; exact h2, h3⟩
   ·exact ⟨r, by rw [Ap, h1]; rfl, h2⟩
 exact key n 0 (by omega)
theorem Rx {σ ρ : Type} {F : σ → Option (σ ⊕ ρ)} (n : Nat) (st : Nat → σ) {r : ρ} (h : ∀ i, i < n → F (st i) = some (.inl (st (i + 1)))) (uh : F (st n) = some (.inr r)) : AQ F (st 0) = some r := by
 obtain ⟨r', h1, h2⟩ := dK (φ := fun r' => r' = r) n st (fun i hi => .inl (h i hi)) ⟨r, uh, rfl⟩
 rw [h1, h2]
theorem eA {α : Type} (ys : List α) (i : Nat) (z : α) (m : Nat) (h : ys.length = i) : (ys ++ gf (m + 1) z).set i = fun y => ys ++ y :: gf m z := by
 funext y
 subst h
 rw [pf _ _ (dz _), kh, ny, pz]
theorem iL {α β : Type} (xs : List α) (g : α → β) (z : β) {F : List β × Int → Option ((List β × Int) ⊕ List β)}
  (h : ∀ (ys : List β) (i : Nat) (x : α), xs[i]? = some x → ys.length = xs.length → F (ys, (i : Int)) = some (.inl (ys.set i (g x), ((i + 1 : Nat) : Int)))) (uh : ∀ ys : List β, F (ys, (xs.length : Int)) = some (.inr ys)) :
  AQ F (gf xs.length z, (0 : Int)) = some (xs.map g) := by
 have hs : ∀ i, i ≤ xs.length → ((xs.take i).map g ++ gf (xs.length - i) z).length = xs.length := by
  intro i hi
  simp only [dw, ja, gh, mh]
  omega
 have := Rx (F := F) (r := xs.map g) xs.length (fun i => ((xs.take i).map g ++ gf (xs.length - i) z, (i : Int))) (fun i hi => ?_) ?_
 ·simpa using this
 ·rw [h _ i xs[i] (dr hi) (hs i (by omega))]
  congr 3
  rw [show xs.length - i = (xs.length - (i + 1)) + 1 by omega, eA _ _ _ _ (by simp; omega)]
  have : (xs.take (i + 1)).map g = (xs.take i).map g ++ [g xs[i]] := by rw [List.take_add_one, dr hi, ju]; rfl
  rw [this, eo]
  rfl
 ·have := uh (xs.map g)
  simpa using this
abbrev I0 {α : Type} (f : α → Prop) (xs : List α) : Prop := xs.length ≤ 1048576 ∧ ∀ x ∈ xs, f x
theorem Ci {i n : Nat} (h : i < n) : decide ((i : Int) < (n : Int)) = true := by rw [ry]; omega
theorem C5 (n : Nat) : decide ((n : Int) < (n : Int)) = false := by rw [rv]; omega
theorem BL {α : Type} {xs : List α} {i : Nat} {x : α} (h : xs[i]? = some x) : i < xs.length := (du.1 h).1
theorem jJ {α : Type} {xs : List α} {left : Int} (h0 : 0 ≤ left) (h1 : left ≤ 1048576) (hx : xs.length ≤ 9223372036854775807) :
  ∃ v, (bif decide (AN (left - (xs.length : Int)) < (0 : Int)) then some (-1 : Int) else some (AN (left - (xs.length : Int)))) = some v ∧ v ≤ left ∧ (v < 0 ∨ I0 (fun _ => True) xs) := by
 rw [CJ ⟨by omega, by omega⟩]
 cases hb : decide ((left - (xs.length : Int)) < (0 : Int)) with
 | true => exact ⟨_, rfl, by omega, .inl (by decide)⟩
 | false =>
  simp only [rv] at hb
  exact ⟨_, rfl, by omega, .inr ⟨by omega, fun _ _ => trivial⟩⟩
theorem Te {α : Type} {xs : List α} {F : Int × Int → Option ((Int × Int) ⊕ Int)} {g : α → Int → Option Int} {fit sm : α → Prop} {left : Int}
  (hg : ∀ x l, fit x → 0 ≤ l → l ≤ 1048576 → ∃ v, g x l = some v ∧ v ≤ l ∧ (v < 0 ∨ sm x)) (hF : ∀ (l : Int) (i : Nat) (x : α), xs[i]? = some x → F (l, (i : Int)) = (g x l).bind fun v => bif decide (v < (0 : Int)) then some (.inr (-1)) else some (.inl (v, AN ((i : Int) + 1))))
  (uh : ∀ l, F (l, (xs.length : Int)) = some (.inr l)) (h0 : 0 ≤ left) (h1 : left ≤ 1048576) (hx : G4 fit xs) :
  ∃ v, (bif decide (AN (left - (xs.length : Int)) < (0 : Int)) then some (-1 : Int) else AQ F (AN (left - (xs.length : Int)), (0 : Int))) = some v ∧ v ≤ left ∧ (v < 0 ∨ I0 sm xs) := by
 have se := hx.1
 rw [CJ ⟨by omega, by omega⟩]
 cases hb : decide ((left - (xs.length : Int)) < (0 : Int)) with
 | true => exact ⟨_, rfl, by omega, .inl (by decide)⟩
 | false =>
  simp only [rv] at hb
  simp only [rp]
  have key : ∀ (k i : Nat) (l : Int), i + k = xs.length → 0 ≤ l → l ≤ left → (∀ j x, j < i → xs[j]? = some x → sm x) → ∃ v, AQ F (l, (i : Int)) = some v ∧ v ≤ left ∧ (v < 0 ∨ ∀ x ∈ xs, sm x) := by
   intro k
   induction k with
   | zero =>
    intro i l hi hl0 vg hall
    have : i = xs.length := by omega
    subst this
    refine ⟨l, by rw [Ap, uh]; rfl, vg, .inr fun x hx => ?_⟩
    obtain ⟨j, hj, e⟩ := ij.1 hx
    exact hall j x hj (by rw [dr hj, e])
   | succ k ih =>
    intro i l hi hl0 vg hall
    have sd : i < xs.length := by omega
    have ux := dr sd
    obtain ⟨v, e1, e2, e3⟩ := hg xs[i] l (hx.2 _ (gl sd)) hl0 (by omega)
    rw [Ap, hF l i _ ux, e1, ba]
    cases hv : decide (v < (0 : Int)) with
    | true => exact ⟨-1, rfl, by omega, .inl (by decide)⟩
    | false =>
     simp only [rv] at hv
     simp only [rp, ba]
     rw [B7 (by omega)]
     refine ih (i + 1) v (by omega) (by omega) (by omega) fun j x hj hjx => ?_
     by_cases hji : j = i
     ·subst hji
      rw [ux] at hjx
      simp only [an] at hjx
      subst hjx
      exact e3.resolve_left hv
     ·exact hall j x (by omega) hjx
  obtain ⟨v, e1, e2, e3⟩ := key xs.length 0 (left - xs.length) (by omega) (by omega) (by omega) (fun j x hj => by omega)
  exact ⟨v, e1, e2, e3.imp id fun h => ⟨by omega, h⟩⟩
theorem Ia {α : Type} {xs : List α} {F : Int → Option (Int ⊕ Bool)} (hl : xs.length ≤ 1048576) (hF : ∀ (i : Nat) (x : α), xs[i]? = some x → F (i : Int) = some (.inl (AN ((i : Int) + 1)))) (uh : F (xs.length : Int) = some (.inr true)) : AQ F (0 : Int) = some true :=
 Rx (F := F) xs.length (fun i => (i : Int)) (fun i hi => by rw [hF i _ (dr hi), B7 (by omega)]) uh
theorem TI {y n : Int} (h : -9223372036854775807 ≤ n ∧ n ≤ 9223372036854775807) : decide (y ≤ AN (n - 1)) = decide (y < n) := by rw [CJ ⟨by omega, by omega⟩]; congr 1; apply propext; omega
def Nz (v : V) : Prop := ∀ m cs, v = .tl m cs → m = 0
theorem Nz.snap {b n : Nat} {cs : List V} : Nz (.snap b n cs) := fun _ _ h => by cases h
theorem Nz.nil : Nz (.tl 0 []) := fun _ _ h => by cases h; rfl
def CL {α : Type} (by_ : Nat) (xs ys : List α) : Option (List α) := if ys.length = 0 ∨ (xs.length + ys.length) * (by_ + 1) ≤ 70368744177664 then some (xs ++ ys) else none
theorem fH {α : Type} {by_ : Nat} {xs ys : List α} (h : (xs.length + ys.length) * (by_ + 1) ≤ 70368744177664) : CL by_ xs ys = some (xs ++ ys) := ru (.inr h)
theorem A6.HI {H G : A5} {rs : List B8} {α : Type} [AF α] (h : A6 H G rs) (d : Nat) (xs : List α) : A6 H G (.own (.tl xs.length ((AB 0) xs)) d (AF.sz α) xs.length ((AB 0) xs) :: rs) where
 pre := h.pre
 len := h.len
 ok := fun r hr => by
  rcases fi.1 hr with rfl | hr
  ·exact ⟨By xs, .inl rfl⟩
  ·exact h.ok r hr
 apart := il.2 ⟨fun r _ x hx => by simp [B8.CP] at hx, h.apart⟩
theorem A6.swap {H G : A5} {rs : List B8} (h : A6 H G rs) {k : Nat} {r r' : B8} {x : Bv} (hk : rs[k]? = some r) (hr : r.CP = []) (hn : r'.CP = [G.length]) (ho : r'.ok H (G ++ [x])) : A6 H (G ++ [x]) (rs.set k r') where
 pre := fun b hb => by rw [eh (fw hb h.len)]; exact h.pre b hb
 len := by rw [dw]; have := h.len; omega
 ok := fun r2 hr2 => by
  obtain ⟨j, hj, e⟩ := ij.1 hr2
  simp only [fa] at hj
  rw [iu] at e
  split at e
  ·rw [← e]; exact ho
  ·subst e
   have h1 := h.ok _ (gl hj)
   exact B8.Et h1 fun y hy => by rw [eh (B8.Er h1 hy)]
 apart := by
  have hp := fx.1 h.apart
  rw [fx]
  intro i j hi hj hij x hx um
  simp only [fa] at hi hj
  simp only [iu] at hx um
  split at hx
  ·rename_i e
   rw [rr (by omega)] at um
   rw [hn] at hx
   simp only [dt] at hx
   subst hx
   exact absurd (B8.Er (h.ok _ (gl hj)) um) (lq _)
  ·split at um
   ·rw [hn] at um
    simp only [dt] at um
    subst um
    exact absurd (B8.Er (h.ok _ (gl hi)) hx) (lq _)
   ·exact hp i j hi hj hij x hx um
theorem A6.own {H G : A5} {rs : List B8} (h : A6 H G rs) {k d sz n : Nat} {v : V} {cs : List V} (hk : rs[k]? = some (.own v d sz n cs)) : cs.length = n * sz ∧ (v = .tl n cs ∨ ∃ b, v = .snap b n cs ∧ H.length ≤ b ∧ G[b]? = some (.Bt d n sz)) := h.ok _ (ee hk)
theorem A6.pick {H G : A5} {rs uz : List B8} (h : A6 H G rs) (ix : List Nat) (hn : ix.Nodup) (he : uz.map some = ix.map fun i => rs[i]?) : A6 H G uz where
 pre := h.pre
 len := h.len
 ok := fun r hr => by
  have : some r ∈ uz.map some := iw.2 ⟨r, hr, rfl⟩
  rw [he] at this
  obtain ⟨i, _, hi⟩ := iw.1 this
  exact h.ok r (ee hi)
 apart := by
  have hlen : uz.length = ix.length := by have := congrArg List.length he; simpa using this
  have ux : ∀ i (hi : i < uz.length), rs[ix[i]'(by omega)]? = some uz[i] := by
   intro i hi
   have := congrArg (fun l => l[i]?) he
   simp only [ic, dr hi, dr (show i < ix.length by omega), dq] at this
   exact (dv this).symm
  have hp := fx.1 h.apart
  rw [fx]
  intro i j hi hj hij x hx um
  obtain ⟨a1, a2⟩ := du.1 (ux i hi)
  obtain ⟨b1, b2⟩ := du.1 (ux j hj)
  rw [← a2] at hx
  rw [← b2] at um
  have sq : ix[i]'(by omega) ≠ ix[j]'(by omega) := fx.1 hn i j (by omega) (by omega) hij
  rcases fp (ix[i]'(by omega)) (ix[j]'(by omega)) with sd | hge
  ·exact hp _ _ a1 b1 sd x hx um
  ·exact hp _ _ b1 a1 (by omega) x um hx
section steps
variable {P : ep} {h : BX} {fk n base : Nat} {lk : Lk} {c : Cx} {ops : Array fc} {s kk : Bool} {d : Nat} {ty : ea} {pos : String} {aft : Array Edge} {l : List (Bool × Bool × fc)} {Q : St → Prop} {T : Nat → V} {G G' H : A5} {rs : List B8} {op : Op}
variable {α : Type} [AF α]
theorem pk {H G : A5} {rs uz : List B8} (h : A6 H G rs) (ix : List Nat) (hn : ix.Nodup := by decide) (he : uz.map some = ix.map fun i => rs[i]? := by rfl) : A6 H G uz := h.pick ix hn he
theorem G9 {t : ea} {parts : Array (Nat × ed)} {ps : List (Nat × V)} {z : List V} {pl : List (Nat × Nat)} (cs : List V) (hz : BH P t = some z) (hp : Dy P t = some pl) (k : BZ (Ar P h fk n base lk) ops l ⟨D6 T d (.agg cs), G⟩ Q) (h1 : Sp T parts.toList = some ps := by rfl) (h2 : Eo (fun i => pl[i]?) z ps = some cs := by rfl) (hd : fj d n = true := by rfl) :
  BZ (Ar P h fk n base lk) ops ((s, kk, ⟨some d, .build t parts, ty, pos, aft, none⟩) :: l) ⟨T, G⟩ Q := by
 refine pV ?_ hd k
 rw [Yh, h1]
 show (BH P t).bind _ = _
 rw [hz]
 show (Dy P t).bind _ = _
 rw [hp]
 show ((Eo (fun i => pl[i]?) z ps).map V.agg).map _ = _
 rw [h2]
 rfl
theorem vU {src dst : ea} {x : ed} {k1 k2 : jo} {a : Int} {kd : jo} (hs : P.underlying src = some (.int k1)) (ht : P.underlying dst = some (.int k2)) (k : BZ (Ar P h fk n base lk) ops l ⟨D6 T d (.int k2 (k2.wrap a)), G⟩ Q) (h1 : ev T x = some (.int kd a) := by rfl) (hd : fj d n = true := by rfl) :
  BZ (Ar P h fk n base lk) ops ((s, kk, ⟨some d, .convert src dst x, ty, pos, aft, none⟩) :: l) ⟨T, G⟩ Q := by
 refine pV ?_ hd k
 unfold He Cn
 simp only []
 have yh : ((Ar P h fk n base lk).Ay s kk).P.underlying src = some (.int k1) := hs
 have ht' : ((Ar P h fk n base lk).Ay s kk).P.underlying dst = some (.int k2) := ht
 rw [yh, ht', h1]
 rfl
theorem fI {c : Cx} (hk : c.hints.Ih c.fn = false) (x : α) : Fb c H (.agg ((AF.BD 0) x)) = some (.agg ((AF.BD 0) x), H) := by
 unfold Fb
 rw [hk]
 simp only [ei, if_false]
 split
 ·rw [ru]
  simp only [clean, AF.clean]
 ·show AV c.base (7 + 1) H _ = _
  rw [AV, Du (k := 6) _ (AF.clean x) (AF.cell x)]
  rfl
theorem fJ {c : Cx} (hk : c.hints.Ih c.fn = false) (kd : jo) (x : Int) : Fb c H (.int kd x) = some (.int kd x, H) := by
 unfold Fb
 rw [hk]
 simp only [ei, if_false]
 split <;> rfl
theorem Bb {c : Cx} : Cd c H [] = some ([], H) := rfl
theorem B2 {c : Cx} {i : Nat} {v : V} {r : List (Nat × V)} (h1 : Fb c H v = some (v, H)) (h2 : Cd c H r = some (r, H)) : Cd c H ((i, v) :: r) = some ((i, v) :: r, H) := by
 simp only [Cd, h1, h2, ba, dq]
theorem JQ {t e : ea} {m : Nat} {parts : Array (Nat × ed)} {ps : List (Nat × V)} {z : List V} (ys : List α) (he : B0 P t = some e) (hz : B3 P e = some (AF.sz α)) (vi : BH P e = some z) (hem : Cd ((Ar P h fk n base lk).Ay s kk) G ps = some (ps, G)) (k : BZ (Ar P h fk n base lk) ops l ⟨D6 T d (.tl ys.length ((AB 0) ys)), G⟩ Q)
  (sd : h.lits fk = false := by rfl) (ug : z.length = AF.sz α := by rfl) (hm : jn (m * AF.sz α) 1048576 = true := by rfl) (hlen : m = ys.length := by rfl) (h1 : Sp T parts.toList = some ps := by rfl) (h2 : Eo (fun i => some (i * AF.sz α, AF.sz α)) (gf m z).flatten ps = some ((AB 0) ys) := by rfl) (hd : fj d n = true := by rfl) :
  BZ (Ar P h fk n base lk) ops ((s, kk, ⟨some d, .buildSlice t m parts, ty, pos, aft, none⟩) :: l) ⟨T, G⟩ Q := by
 refine pV ?_ hd k
 unfold He Cn
 simp only []
 rw [h1]
 simp only [ba, hem]
 show (B0 P t).bind _ = _
 rw [he]
 show (B3 P e).bind _ = _
 rw [hz]
 show (BH P e).bind _ = _
 rw [vi]
 simp only [ba]
 have xn : ((Ar P h fk n base lk).Ay s kk).own m = false := by show (m != 0 && h.lits fk) = false; rw [sd]; simp
 simp only [xn, ei, if_false]
 rw [ru ⟨ug, jt.1 AF.pos, fb hm⟩, h2, hlen]
 rfl
def Kn (G : A5) (v : V) (xs : List α) : Prop := D4 v = some xs.length ∧ Hl G (AF.sz α) v = some ((AB 0) xs)
theorem Io (lv : Nat) (xs : List α) : Kn G (.lit lv xs.length ((AB 0) xs)) xs := ⟨rfl, rfl⟩
theorem CE (xs : List α) : Kn G (.tl xs.length ((AB 0) xs)) xs := ⟨rfl, rfl⟩
theorem ZH {c : Cx} {st xt e : ea} {w : V} {ys : List α} {by_ m : Nat} {z cs : List V} (hy : Kn G w ys) (he : B0 c.P st = some e) (hz : B3 c.P e = some (AF.sz α)) (vd : C3 c.P e = some by_) (vi : BH c.P e = some z) (he' : (B0 c.P xt).isSome = true) (ug : z.length = AF.sz α) :
  ER c st xt G (.tl m cs) w = if ys.length = 0 then some (.tl m cs, G) else if cs.length = m * AF.sz α ∧ (m + ys.length) * (by_ + 1) ≤ 70368744177664 then some (.snap G.length (m + ys.length) (cs ++ (AB 0) ys), G ++ [.Bt c.d (m + ys.length) (AF.sz α)]) else none := by
 unfold ER
 rw [he, ba, hz, ba, vd, ba, vi, ba, ru ⟨he', jt.1 AF.pos, ug⟩, hy.1, ba, hy.2, ba, ru ⟨By ys, CY ys⟩]
theorem Sd {c : Cx} {st xt e : ea} {w : V} {ys : List α} {by_ m b : Nat} {z cs : List V} (hy : Kn G w ys) (he : B0 c.P st = some e) (hz : B3 c.P e = some (AF.sz α)) (vd : C3 c.P e = some by_) (vi : BH c.P e = some z) (he' : (B0 c.P xt).isSome = true) (ug : z.length = AF.sz α) :
  ER c st xt G (.snap b m cs) w = if ys.length = 0 then some (.snap b m cs, G) else match G[b]? with
    | some (.Bt l m' wg) => if cs.length = m * AF.sz α ∧ (m + ys.length) * (by_ + 1) ≤ 70368744177664 ∧ m' = m ∧ wg = AF.sz α ∧ c.Bi b = true then some (.snap b (m + ys.length) (cs ++ (AB 0) ys), G.set b (.Bt l (m + ys.length) (AF.sz α))) else none
    | _ => none := by
 unfold ER
 rw [he, ba, hz, ba, vd, ba, vi, ba, ru ⟨he', jt.1 AF.pos, ug⟩, hy.1, ba, hy.2, ba, ru ⟨By ys, CY ys⟩]
 rfl
theorem vH {st xt e e' : ea} {x y : ed} {v w : V} {xs ys zs : List α} {by_ dd sz : Nat} {z : List V} (hO : A6 H G rs) (j : Nat) (tf : CL by_ xs ys = some zs) (hy : Kn G w ys) (he : B0 P st = some e) (hz : B3 P e = some (AF.sz α)) (vd : C3 P e = some by_) (vi : BH P e = some z) (he' : B0 P xt = some e') (hb : base = H.length)
  (k : ∀ v' G', (Nz v → Nz v') → A6 H G' (rs.set j (.own v' lk.length (AF.sz α) zs.length ((AB 0) zs))) → BZ (Ar P h fk n base lk) ops l ⟨D6 T d v', G'⟩ Q)
  (h1 : ev T x = some v := by rfl) (h2 : ev T y = some w := by rfl) (ug : z.length = AF.sz α := by rfl) (hj : rs[j]? = some (.own v dd sz xs.length ((AB 0) xs)) := by rfl) (hdd : dd = lk.length := by rfl) (tu : sz = AF.sz α := by rfl) (yu : h.XE fk = false := by rfl) (hd : fj d n = true := by rfl) :
  BZ (Ar P h fk n base lk) ops ((s, kk, ⟨some d, .call ⟨.builtin .append, #[x, y], #[st, xt]⟩, ty, pos, aft, none⟩) :: l) ⟨T, G⟩ Q := by
 subst hb hdd tu
 obtain ⟨hl, hv⟩ := hO.own hj
 unfold CL at tf
 split at tf
 case isFalse => cases tf
 rename_i tb
 simp only [an] at tf
 subst tf
 have start : ∀ r : Option (V × A5), ER ((Ar P h fk n H.length lk).Ay s kk) st xt G v w = r → He ((Ar P h fk n H.length lk).Ay s kk) (.call ⟨.builtin .append, #[x, y], #[st, xt]⟩) ⟨T, G⟩ = r := by
  intro r hr
  rw [LL]
  simp only [h1, h2, ba]
  rw [TA (show _ = false from yu)]
  exact hr
 have um : (B0 P xt).isSome = true := by rw [he']; rfl
 have hap1 := fun m cs => ZH (c := (Ar P h fk n H.length lk).Ay s kk) (m := m) (cs := cs) hy he hz vd vi um ug
 have hap2 := fun b m cs => Sd (c := (Ar P h fk n H.length lk).Ay s kk) (b := b) (m := m) (cs := cs) hy he hz vd vi um ug
 rcases ke ys.length with h0 | h0
 ·have hys : ys = [] := ff h0
  subst hys
  have hrs : rs.set j (.own v lk.length (AF.sz α) xs.length ((AB 0) xs)) = rs := by
   apply lj
   intro i
   rw [mb]
   split
   ·rename_i e1; subst e1
    obtain ⟨q1, q2⟩ := du.1 hj
    rw [ru q1, hj]
   ·rfl
  have k2 := k v G id (by simp only [gi]; rw [hrs]; exact hO)
  refine pV (start _ ?_) hd k2
  rcases hv with rfl | ⟨b, rfl, _, _⟩
  ·rw [hap1]; exact ru rfl
  ·rw [hap2]; exact ru rfl
 ·have tb := tb.resolve_left (by omega)
  have ye : ((AB 0) xs ++ (AB 0) ys).length = (xs.length + ys.length) * AF.sz α := by rw [dw, By, By, kq]
  have e1 : (xs ++ ys).length = xs.length + ys.length := dw
  rw [e1, Gv] at k
  rcases hv with rfl | ⟨b, rfl, tj, hg⟩
  ·refine pV (start _ ?_) hd (k (.snap G.length (xs.length + ys.length) ((AB 0) xs ++ (AB 0) ys)) (G ++ [.Bt lk.length (xs.length + ys.length) (AF.sz α)]) (fun _ => Nz.snap) (hO.swap hj rfl rfl ⟨ye, .inr ⟨G.length, rfl, hO.len, H7 _ _⟩⟩))
   rw [hap1, rr (by omega), ru ⟨hl, tb⟩]
   rfl
  ·have sd : b < G.length := (du.1 hg).1
   have hm : ((Ar P h fk n H.length lk).Ay s kk).Bi b = true := by
    unfold Cx.Bi
    simp only [gg, ry]
    exact .inl tj
   refine pV (start _ ?_) hd (k (.snap b (xs.length + ys.length) ((AB 0) xs ++ (AB 0) ys)) (G.set b (.Bt lk.length (xs.length + ys.length) (AF.sz α))) (fun _ => Nz.snap) (hO.set hj rfl rfl ⟨ye, .inr ⟨b, rfl, tj, by rw [AX, ru ⟨rfl, sd⟩]⟩⟩))
   rw [hap2, rr (by omega), hg]
   simp only []
   rw [ru ⟨hl, tb, trivial, trivial, hm⟩]
end steps
class GR (α : Type) where
 pv : α → V
 plain : ∀ a, Be (pv a) = true
instance : GR Int := ⟨fun x => .int .i64 x, fun _ => rfl⟩
instance : GR Bool := ⟨fun x => .bool x, fun _ => rfl⟩
instance : GR ByteArray := ⟨fun x => .str x, fun _ => rfl⟩
def Jm (kt : KT) (κ : Type) [GR κ] [DecidableEq κ] : Prop := ∀ a b : κ, EM kt (GR.pv a) (GR.pv b) = some (decide (a = b))
theorem OZ : Jm (.one .s) ByteArray := fun a b => by
 show some (a == b) = _
 congr 1
 rw [gz, Go.MapKept.bytes_beq, ry]
section
variable {κ ν : Type} [DecidableEq κ]
def DH (k : κ) : List (κ × ν) → Nat → Option (Nat × ν)
 | [], _ => none
 | e :: m, i => if k = e.1 then some (i, e.2) else DH k m (i + 1)
def Dw (k : κ) (m : List (κ × ν)) (z : ν) : ν := match DH k m 0 with | some x => x.2 | none => z
def qY (k : κ) (m : List (κ × ν)) : Bool := (DH k m 0).isSome
def Dx (k : κ) (v : ν) (m : List (κ × ν)) : List (κ × ν) := match DH k m 0 with | some x => m.set x.1 (k, v) | none => m ++ [(k, v)]
def Ut (k : κ) (m : List (κ × ν)) : Nat := match DH k m 0 with | some x => x.1 | none => m.length
theorem N9 {k : κ} : ∀ {m : List (κ × ν)} {i : Nat} {x : Nat × ν}, DH k m i = some x → i ≤ x.1 ∧ m[x.1 - i]? = some (k, x.2)
 | [], i, x, h => by simp [DH] at h
 | e :: m, i, x, h => by
  unfold DH at h
  split at h
  ·rename_i hk
   simp only [an] at h
   subst h
   exact ⟨dz _, by simp [hk]⟩
  ·obtain ⟨h1, h2⟩ := N9 h
   refine ⟨by omega, ?_⟩
   rw [show x.1 - i = (x.1 - (i + 1)) + 1 by omega]
   exact h2
def JO (k : κ) (z : ν) (m : List (κ × ν)) : List (κ × ν) := match DH k m 0 with | some x => m.set x.1 (k, x.2) | none => m ++ [(k, z)]
theorem Yz (k : κ) (z : ν) (m : List (κ × ν)) : ∃ v, (JO k z m)[Ut k m]? = some (k, v) := by
 unfold JO Ut
 cases hx : DH k m 0 with
 | none => exact ⟨z, by simp⟩
 | some q =>
  obtain ⟨_, h2⟩ := N9 hx
  have := (du.1 h2).1
  exact ⟨q.2, by simp only []; rw [mb, ru rfl, ru (by simpa using this)]⟩
theorem Z0 (k : κ) (z v : ν) (m : List (κ × ν)) : (JO k z m).set (Ut k m) (k, v) = Dx k v m := by
 unfold JO Ut Dx
 cases hx : DH k m 0 with
 | none => simp
 | some q => simp
end
section
variable {κ ν : Type} [GR κ] [GR ν]
def BC (m : List (κ × ν)) : List (V × V) := m.map fun e => (GR.pv e.1, GR.pv e.2)
theorem WI (m : List (κ × ν)) : (BC m).length = m.length := by simp [BC]
theorem Ob (m : List (κ × ν)) (i : Nat) (k : κ) (v : ν) : (BC m).set i (GR.pv k, GR.pv v) = BC (m.set i (k, v)) := by
 unfold BC
 rw [List.map_set]
theorem QY (m : List (κ × ν)) (k : κ) (v : ν) : BC m ++ [(GR.pv k, GR.pv v)] = BC (m ++ [(k, v)]) := by simp [BC]
end
section maps
variable {κ ν : Type} [GR κ] [GR ν] [DecidableEq κ]
theorem Gu {kt : KT} (hf : Jm kt κ) (k : κ) : ∀ (m : List (κ × ν)) (i : Nat), Fc kt (GR.pv k) (BC m) i = some ((DH k m i).map fun x => (x.1, GR.pv x.2))
 | [], i => rfl
 | e :: m, i => by
  show (EM kt (GR.pv k) (GR.pv e.1)).bind _ = _
  rw [hf k e.1, ba]
  unfold DH
  by_cases h : k = e.1
  ·simp only [h, decide_true, if_true, dq]
  ·simp only [h, decide_false, ei, if_false]
   exact Gu hf k m (i + 1)
section steps
variable {P : ep} {h : BX} {fk n base : Nat} {lk : Lk} {c : Cx} {ops : Array fc} {s kk : Bool} {d : Nat} {ty : ea} {pos : String} {aft : Array Edge} {l : List (Bool × Bool × fc)} {Q : St → Prop} {T : Nat → V} {G G' H : A5} {rs : List B8} {op : Op}
theorem tD {t : ea} (κ ν : Type) [GR κ] [GR ν] (hO : A6 H G rs) (k : ∀ b G', A6 H G' (.Au b (.mp (BC ([] : List (κ × ν)))) :: rs) → BZ (Ar P h fk n base lk) ops l ⟨D6 T d (.Cm b), G'⟩ Q) (hd : fj d n = true := by rfl) :
  BZ (Ar P h fk n base lk) ops ((s, kk, ⟨some d, .makeMap t none, ty, pos, aft, none⟩) :: l) ⟨T, G⟩ Q :=
 pV (G' := G ++ [.mp []]) rfl hd (k _ _ (hO.alloc (.mp [])))
theorem iW {t e : ea} {kt : KT} {b : Nat} {m : List (κ × ν)} {k : κ} {z : ν} {ok : Bool} (hg : G[b]? = some (.mp (BC m))) (hm : Kk P t = some (kt, e)) (hf : Jm kt κ) (hz : L0 P e = some (GR.pv z)) :
  Jf P t G (.Cm b) (GR.pv k) ok = some (if ok then .Ei [GR.pv (Dw k m z), .bool (qY k m)] else GR.pv (Dw k m z)) := by
 unfold Jf
 simp only [hg, hm, ba]
 rw [ru ⟨GR.plain k, by rw [hf k k]; simp⟩, Gu hf k m 0]
 unfold Dw qY
 cases hx : DH k m 0 with
 | none => simp only [kl, ba, hz, dq]; rfl
 | some x => simp only [dq, ba]; rfl
theorem oF {t e : ea} {kt : KT} {x y : ed} {b : Nat} {m : List (κ × ν)} (k : κ) (z : ν) (hg : G[b]? = some (.mp (BC m))) (hm : Kk P t = some (kt, e)) (hf : Jm kt κ) (hz : L0 P e = some (GR.pv z)) (kk' : BZ (Ar P h fk n base lk) ops l ⟨D6 T d (GR.pv (Dw k m z)), G⟩ Q) (h1 : ev T x = some (.Cm b) := by rfl) (h2 : ev T y = some (GR.pv k) := by rfl) (hd : fj d n = true := by rfl) :
  BZ (Ar P h fk n base lk) ops ((s, kk, ⟨some d, .lookup t x y false, ty, pos, aft, none⟩) :: l) ⟨T, G⟩ Q := by
 refine pV ?_ hd kk'
 show ((ev T x).bind fun m => (ev T y).bind fun kv => (Jf P t G m kv false).map fun v => (v, G)) = _
 rw [h1, h2]
 simp only [ba, iW hg hm hf hz]
 rfl
theorem TU {b : Nat} (hb : H.length ≤ b) : ((Ar P h fk n H.length lk).Ay s kk).Bi b = true := by
 unfold Cx.Bi
 simp only [gg, ry]
 exact .inl hb
theorem vM {t e : ea} {kt : KT} {x y w : ed} {b : Nat} {m : List (κ × ν)} (hO : A6 H G rs) (j : Nat) (k : κ) (v : ν) (hm : Kk P t = some (kt, e)) (hf : Jm kt κ) (hb : base = H.length)
  (kk' : ∀ G', A6 H G' (rs.set j (.Au b (.mp (BC (Dx k v m))))) → BZ (Ar P h fk n base lk) ops l ⟨T, G'⟩ Q)
  (h1 : ev T x = some (.Cm b) := by rfl) (h2 : ev T y = some (GR.pv k) := by rfl) (h3 : ev T w = some (GR.pv v) := by rfl) (hj : rs[j]? = some (.Au b (.mp (BC m))) := by rfl) :
  BZ (Ar P h fk n base lk) ops ((s, kk, ⟨none, .mapUpdate t x y w, ty, pos, aft, none⟩) :: l) ⟨T, G⟩ Q := by
 subst hb
 obtain ⟨hg, tj⟩ := hO.get hj
 have sd : b < G.length := (du.1 hg).1
 refine fF (v := CT) ?_ (kk' _ (hO.set (x := .mp (BC (Dx k v m))) hj rfl rfl ⟨tj, by rw [AX, ru ⟨rfl, sd⟩]⟩))
 show ((ev T x).bind fun m => (ev T y).bind fun kv => (ev T w).bind fun u => (Tl ((Ar P h fk n H.length lk).Ay s kk) t G m kv u).map fun H => (CT, H)) = _
 rw [h1, h2, h3]
 have hmK : Kk ((Ar P h fk n H.length lk).Ay s kk).P t = some (kt, e) := hm
 simp only [ba, Tl, hg, hmK]
 rw [ru ⟨GR.plain k, GR.plain v, by rw [hf k k]; simp, TU tj⟩, Gu hf k m 0]
 unfold Dx
 cases hx : DH k m 0 with
 | none => simp only [kl, dq, QY]
 | some q => simp only [dq, Ob]
theorem vV {t e : ea} {kt : KT} {x y : ed} {b : Nat} {m : List (κ × ν)} (hO : A6 H G rs) (j : Nat) (k : κ) (z : ν) (hm : Kk P t = some (kt, e)) (hf : Jm kt κ) (hz : L0 P e = some (GR.pv z)) (hb : base = H.length)
  (kk' : ∀ G', A6 H G' (rs.set j (.Au b (.mp (BC (JO k z m))))) → BZ (Ar P h fk n base lk) ops l ⟨D6 T d (.Ei [GR.pv (Dw k m z), .int .i64 (Ut k m)]), G'⟩ Q)
  (h1 : ev T x = some (.Cm b) := by rfl) (h2 : ev T y = some (GR.pv k) := by rfl) (hj : rs[j]? = some (.Au b (.mp (BC m))) := by rfl) (hd : fj d n = true := by rfl) :
  BZ (Ar P h fk n base lk) ops ((s, kk, ⟨some d, .mapEntry t x y, ty, pos, aft, none⟩) :: l) ⟨T, G⟩ Q := by
 subst hb
 obtain ⟨hg, tj⟩ := hO.get hj
 have sd : b < G.length := (du.1 hg).1
 refine pV ?_ hd (kk' _ (hO.set (x := .mp (BC (JO k z m))) hj rfl rfl ⟨tj, by rw [AX, ru ⟨rfl, sd⟩]⟩))
 show ((ev T x).bind fun m => (ev T y).bind fun kv => IZ ((Ar P h fk n H.length lk).Ay s kk) t G m kv) = _
 rw [h1, h2]
 have hmK : Kk ((Ar P h fk n H.length lk).Ay s kk).P t = some (kt, e) := hm
 have hzK : L0 ((Ar P h fk n H.length lk).Ay s kk).P e = some (GR.pv z) := hz
 simp only [ba, IZ, hg, hmK]
 rw [ru ⟨GR.plain k, by rw [hf k k]; simp, TU tj⟩, Gu hf k m 0]
 unfold JO Dw Ut
 cases hx : DH k m 0 with
 | none => simp only [kl, ba, hzK, GR.plain z, if_true, QY, WI]
 | some q => simp only [dq, ba, Ob]
theorem vW {t : ea} {x y w : ed} {b : Nat} {m : List (κ × ν)} (hO : A6 H G rs) (j : Nat) (k : κ) (z v : ν) (hb : base = H.length)
  (kk' : ∀ G', A6 H G' (rs.set j (.Au b (.mp (BC (Dx k v m))))) → BZ (Ar P h fk n base lk) ops l ⟨T, G'⟩ Q)
  (h1 : ev T x = some (.Cm b) := by rfl) (h2 : ev T y = some (.int .i64 (Ut k m)) := by rfl) (h3 : ev T w = some (GR.pv v) := by rfl) (hj : rs[j]? = some (.Au b (.mp (BC (JO k z m)))) := by rfl) :
  BZ (Ar P h fk n base lk) ops ((s, kk, ⟨none, .entryStore t x y w, ty, pos, aft, none⟩) :: l) ⟨T, G⟩ Q := by
 subst hb
 obtain ⟨hg, tj⟩ := hO.get hj
 have sd : b < G.length := (du.1 hg).1
 refine fF (v := CT) ?_ (kk' _ (hO.set (x := .mp (BC (Dx k v m))) hj rfl rfl ⟨tj, by rw [AX, ru ⟨rfl, sd⟩]⟩))
 show ((ev T x).bind fun m => (ev T y).bind fun st => (ev T w).bind fun u => (L7 ((Ar P h fk n H.length lk).Ay s kk) G m st u).map fun H => (CT, H)) = _
 rw [h1, h2, h3]
 simp only [ba, L7, hg]
 rw [ru ⟨by omega, GR.plain v, TU tj⟩]
 obtain ⟨v0, hv0⟩ := Yz k z m
 have hk : (BC (JO k z m))[(Ut k m : Int).toNat]? = some (GR.pv k, GR.pv v0) := by
  unfold BC
  rw [jv, ic, hv0]
  rfl
 rw [hk]
 simp only [dq, jv, Ob, Z0]
end steps
end maps
theorem A6.kill {H G : A5} {rs : List B8} (h : A6 H G rs) {k b : Nat} {r : B8} (hk : rs[k]? = some r) (hn : r.CP = [b]) (hw : r.XK = true := by rfl) : A6 H (G.set b .dead) (rs.eraseIdx k) where
 pre := fun x hx => by
  rw [AX, rr]
  ·exact h.pre x hx
  ·rintro ⟨rfl, _⟩
   have := B8.Mb (h.ok r (ee hk)) hw (x := b) (by rw [hn]; simp)
   omega
 len := by rw [fa]; exact h.len
 ok := fun r2 hr2 => by
  obtain ⟨j, hj, e⟩ := ij.1 hr2
  rw [ph] at e
  obtain ⟨zr, hk2⟩ := du.1 hk
  have hp := fx.1 h.apart
  split at e
  ·rename_i hjk
   subst e
   have zg : j < rs.length := by rw [nm] at hj; split at hj <;> omega
   refine B8.Et (h.ok _ (gl zg)) fun y hy => ?_
   rw [AX, rr]
   rintro ⟨rfl, _⟩
   exact hp j k zg zr hjk b hy (by rw [hk2, hn]; simp)
  ·rename_i hjk
   subst e
   have zg : j + 1 < rs.length := by rw [nm] at hj; split at hj <;> omega
   refine B8.Et (h.ok _ (gl zg)) fun y hy => ?_
   rw [AX, rr]
   rintro ⟨rfl, _⟩
   exact hp k (j + 1) zr zg (by omega) b (by rw [hk2, hn]; simp) hy
 apart := h.apart.sublist (jq _ _)
def Z7 (n : Nat) (H : A5) (d : Nat) (rs : List B8) (v v' : V) (uz : List B8) : Prop := ∀ G, A6 H G rs → ∀ k, ∃ G2, BO false H.length d (k + n) (G, []) v = some (v', (G2, [])) ∧ A6 H G2 uz
def oL (n : Nat) (H : A5) (d : Nat) (rs : List B8) (vs so : List V) (uz : List B8) : Prop := ∀ G, A6 H G rs → ∀ k, ∃ G2, BO.resL (BO false H.length d (k + n)) (G, []) vs = some (so, (G2, [])) ∧ A6 H G2 uz
section
variable {H : A5} {d : Nat} {rs rs1 uz : List B8} {n : Nat}
theorem qJ {v v' : V} {m : Nat} (hm : n ≤ m) (h : Z7 n H d rs v v' uz) : Z7 m H d rs v v' uz := fun G hO k => by
 have := h G hO (k + (m - n))
 rwa [show k + (m - n) + n = k + m by omega] at this
theorem Af (kd : jo) (x : Int) : Z7 1 H d rs (.int kd x) (.int kd x) rs := fun G hO k => ⟨G, rfl, hO⟩
theorem cO (x : ByteArray) : Z7 1 H d rs (.str x) (.str x) rs := fun G hO k => ⟨G, rfl, hO⟩
theorem LA {k : Nat} (α : Type) [AF α] : Z7 1 H d rs (.tl 0 []) (.lit 0 ([] : List α).length ((AB 0) ([] : List α))) rs := fun G hO k => ⟨G, by rw [BO, ru rfl]; rfl, hO⟩
theorem Fx {α : Type} [AF α] {xs : List α} {v : V} {dd sz : Nat} (hd : 0 < d) (j : Nat) (hj : rs[j]? = some (.own v dd sz xs.length ((AB 0) xs)) := by rfl) (hdd : dd = d := by rfl) : Z7 2 H d rs v (.lit 0 xs.length ((AB 0) xs)) (rs.eraseIdx j) := fun G hO k => by
 subst hdd
 have td := fun X => Gc (th := false) (lo := H.length) (d := dd) (k := k) (X := X) ((AB 0) xs) (GV hd ig _ (CH xs)) (CY xs)
 rcases (hO.own hj).2 with rfl | ⟨b, rfl, tj, xw⟩
 ·refine ⟨G, ?_, hO.drop (jq _ _)⟩
  rw [BO]
  split
  ·rename_i h0
   have : xs = [] := ff h0
   subst this
   rfl
  ·rw [td]; rfl
 ·refine ⟨G.set b .dead, ?_, hO.kill hj rfl⟩
  rw [BO]
  simp only [xw]
  rw [rr (by omega), td]
  rfl
theorem Dm : oL n H d rs [] [] rs := fun G hO k => ⟨G, rfl, hO⟩
theorem BV {v v' : V} {vs so : List V} {m : Nat} (h1 : Z7 m H d rs v v' rs1) (h2 : oL n H d rs1 vs so uz) (hm : jn m n = true := by rfl) : oL n H d rs (v :: vs) (v' :: so) uz := fun G hO k => by
 obtain ⟨G1, e1, hO1⟩ := qJ (fb hm) h1 G hO k
 obtain ⟨G2, e2, hO2⟩ := h2 G1 hO1 k
 exact ⟨G2, by simp only [BO.resL, e1, ba, e2, dq], hO2⟩
theorem C8 {cs sk : List V} (h : oL n H d rs cs sk uz) : Z7 (n + 1) H d rs (.agg cs) (.agg sk) uz := fun G hO k => by
 obtain ⟨G2, e, hO2⟩ := h G hO k
 exact ⟨G2, by rw [← la, BO, e]; rfl, hO2⟩
theorem Ic {cs sk : List V} (h : oL n H d rs cs sk uz) : Z7 (n + 1) H d rs (.Ei cs) (.Ei sk) uz := fun G hO k => by
 obtain ⟨G2, e, hO2⟩ := h G hO k
 exact ⟨G2, by rw [← la, BO, e]; rfl, hO2⟩
theorem Cv {P : ep} {h : BX} {k : Nat} {lr : List ir} {T : Nat → V} {G : A5} {vs : List V} {v v' : V} {x : X} (hO : A6 H G rs) (hz : Z7 n H d rs v v' uz) (h1 : BP P G T lr = some vs) (h2 : FT vs = v := by rfl) (hn : jn n Ba = true := by rfl) (hg : h.grow k = false := by rfl) (ht : h.Ti k = false := by rfl) (hx : x = .normal ∨ x = .ret := by first | exact Or.inl rfl | exact Or.inr rfl) : sV P h k H.length d lr (v', H) x ⟨T, G⟩ := by
 obtain ⟨G2, e, hO2⟩ := hz G hO (Ba - n)
 rw [qe (fb hn)] at e
 exact vE hO hg hx h1 h2 (by rw [ht]; exact e) hO2.out
theorem Dn {P : ep} {T : Nat → V} {G : A5} {a : Nat} {lr : List ir} {vs : List V} (v : V) (h : BP P G T lr = some vs) (h1 : T a = v := by rfl) : BP P G T (.tmp a :: lr) = some (v :: vs) := by
 simp only [BP, h, dq, h1]
theorem CC {P : ep} {T : Nat → V} {G : A5} : BP P G T [] = some [] := rfl
theorem EW {P : ep} {T : Nat → V} {G : A5} {t b off sz m a : Nat} {cs : List V} {lr : List ir} {vs : List V} (hO : A6 H G rs) (j : Nat) (sk : List V) (ha : D7 P t = some true) (hz : B3 P t = some m) (h : BP P G T lr = some vs) (h1 : T a = .ptr b off := by rfl) (hj : rs[j]? = some (.Au b (.cells sz cs)) := by rfl) (h2 : jn (off + m) cs.length = true := by rfl) (h3 : (cs.drop off).take m = sk := by rfl) : BP P G T (.cell a t :: lr) = some (.agg sk :: vs) := by
 subst h3
 simp only [BP, h1, Fg, (hO.get hj).1, BN, ha, hz, ba, ru (fb h2), dq, h]
end
section
variable {c : Cx} {H G : A5} {rs : List B8} {lv k : Nat} {v v' : V} {vs so : List V} {M1 M2 : List Nat}
theorem El : AW c [] G [] = some ([], [], G) := rfl
theorem CO (h1 : Al (c.d + 1) G Ba v = some (v', M1)) (h2 : AW c [] G vs = some (so, M2, G)) : AW c [] G (v :: vs) = some (v' :: so, M1 ++ M2, G) := by
 simp only [AW, qv, E8, h1, dq, ba, qx, h2]
theorem nD : Al.lendL (Al lv G k) [] = some ([], []) := rfl
theorem IM (h1 : Al lv G k v = some (v', M1)) (h2 : Al.lendL (Al lv G k) vs = some (so, M2)) : Al.lendL (Al lv G k) (v :: vs) = some (v' :: so, M1 ++ M2) := by
 simp only [Al.lendL, h1, h2, ba, dq]
theorem mU (h : Al.lendL (Al lv G k) vs = some (so, M1)) : Al lv G (k + 1) (.agg vs) = some (.agg so, M1) := by
 rw [Al, h]; rfl
end
def HD (s : ByteArray) (i : Int) : Option Int := if 0 ≤ i then (s[i.toNat]?).map fun b => (b.toNat : Int) else none
def VB {α : Type} (xs : List α) (lo hi : Int) : Option (List α) := if 0 ≤ lo ∧ lo ≤ hi ∧ hi ≤ xs.length then some ((xs.drop lo.toNat).take (hi - lo).toNat) else none
theorem jH {α : Type} {xs ys : List α} {a b : Int} (h : VB xs a b = some ys) : 0 ≤ a ∧ a ≤ b ∧ b ≤ xs.length := by
 unfold VB at h
 split at h
 ·assumption
 ·cases h
theorem cL {lm : Nat} {α : Type} [AF α] (xs : List α) : ∀ (l m : Nat), ((AB lm xs).drop (l * AF.sz α)).take (m * AF.sz α) = AB lm ((xs.drop l).take m) := by
 have hdrop : ∀ (xs : List α) (l : Nat), (AB lm xs).drop (l * AF.sz α) = AB lm (xs.drop l) := by
  intro xs
  induction xs with
  | nil => intro l; simp [AB]
  | cons x xs ih =>
   intro l
   cases l with
   | zero => simp
   | succ l =>
    rw [Cl, kr, lu, List.drop_succ_cons, ← ih l]
    have := AF.len (l := lm) x
    rw [← this, od]
 have htake : ∀ (xs : List α) (m : Nat), (AB lm xs).take (m * AF.sz α) = AB lm (xs.take m) := by
  intro xs
  induction xs with
  | nil => intro m; simp [AB]
  | cons x xs ih =>
   intro m
   cases m with
   | zero => simp [AB]
   | succ m =>
    rw [Cl, kr, lu, List.take_succ_cons, Cl, ← ih m]
    have := AF.len (l := lm) x
    rw [← this, oc]
 intro l m
 rw [hdrop, htake]
section steps
variable {P : ep} {h : BX} {fk n base : Nat} {lk : Lk} {c : Cx} {ops : Array fc} {s kk : Bool} {d : Nat} {ty : ea} {pos : String} {aft : Array Edge} {l : List (Bool × Bool × fc)} {Q : St → Prop} {T : Nat → V} {G G' H : A5} {rs : List B8} {op : Op}
variable {α : Type} [AF α]
theorem Qv {x : ed} {i : Nat} {vs : List V} (v : V) (k : BZ (Ar P h fk n base lk) ops l ⟨D6 T d v, G⟩ Q) (h1 : ev T x = some (.Ei vs) := by rfl) (h2 : vs[i]? = some v := by rfl) (hd : fj d n = true := by rfl) :
  BZ (Ar P h fk n base lk) ops ((s, kk, ⟨some d, .extract x i, ty, pos, aft, none⟩) :: l) ⟨T, G⟩ Q := by
 refine pV ?_ hd k
 rw [Ux]
 simp only [h1, ba, eT, h2, dq]
theorem vK {t : ea} {x y : ed} {sv : ByteArray} {kd : jo} {i c : Int} (ht : P.underlying t = some .string) (hc : HD sv i = some c) (k : BZ (Ar P h fk n base lk) ops l ⟨D6 T d (.int .u8 c), G⟩ Q) (h1 : ev T x = some (.str sv) := by rfl) (h2 : ev T y = some (.int kd i) := by rfl) (hd : fj d n = true := by rfl) :
  BZ (Ar P h fk n base lk) ops ((s, kk, ⟨some d, .index t x y, ty, pos, aft, none⟩) :: l) ⟨T, G⟩ Q := by
 refine pV ?_ hd k
 unfold He Cn
 have ht' : ((Ar P h fk n base lk).Ay s kk).P.underlying t = some .string := ht
 simp only [ht', h1, h2]
 unfold HD at hc
 split at hc
 ·rename_i h0
  rw [ru h0]
  simp only [dn] at hc
  obtain ⟨b, hb, rfl⟩ := hc
  rw [hb]
  rfl
 ·cases hc
theorem Tp {k : Sc} {ks : List Sc} {x y : V} {xs ys : List V} {b1 b2 : Bool} (h1 : Fw k x y = some b1) (h2 : DC ks xs ys = some b2) : DC (k :: ks) (x :: xs) (y :: ys) = some (b1 && b2) := by
 simp only [DC, h1, ba, h2]
 cases b1 <;> rfl
theorem Tq (kd : jo) (a b : Int) : Fw .i (.int kd a) (.int kd b) = some (a == b) := ru rfl
theorem nI {t t2 : ea} {x y : ed} {xs ys : List V} {ks : List Sc} {b : Bool} (hf : II P t = some ks) (he : DC ks xs ys = some b) (k : BZ (Ar P h fk n base lk) ops l ⟨D6 T d (.bool b), G⟩ Q) (h1 : ev T x = some (.agg xs) := by rfl) (h2 : ev T y = some (.agg ys) := by rfl) (hd : fj d n = true := by rfl) :
  BZ (Ar P h fk n base lk) ops ((s, kk, ⟨some d, .binOp .eql t x y t2, ty, pos, aft, none⟩) :: l) ⟨T, G⟩ Q := pB k h1 h2 (by simp only [Tz, hf, ba, he, dq]) hd
theorem uD {t t2 : ea} {x y : ed} {xs ys : List V} {ks : List Sc} {b : Bool} (hf : II P t = some ks) (he : DC ks xs ys = some b) (k : BZ (Ar P h fk n base lk) ops l ⟨D6 T d (.bool !b), G⟩ Q) (h1 : ev T x = some (.agg xs) := by rfl) (h2 : ev T y = some (.agg ys) := by rfl) (hd : fj d n = true := by rfl) :
  BZ (Ar P h fk n base lk) ops ((s, kk, ⟨some d, .binOp .neq t x y t2, ty, pos, aft, none⟩) :: l) ⟨T, G⟩ Q := pB k h1 h2 (by simp only [Tz, hf, ba, he, dq]) hd
theorem rH {x y : ed} {ats : Array ea} {k1 k2 : jo} {a b : Int} (k : BZ (Ar P h fk n base lk) ops l ⟨D6 T d (.int k1 (if b < a then b else a)), G⟩ Q) (h1 : ev T x = some (.int k1 a) := by rfl) (h2 : ev T y = some (.int k2 b) := by rfl) (hd : fj d n = true := by rfl) :
  BZ (Ar P h fk n base lk) ops ((s, kk, ⟨some d, .call ⟨.builtin .min, #[x, y], ats⟩, ty, pos, aft, none⟩) :: l) ⟨T, G⟩ Q := by
 refine pV ?_ hd k
 unfold He Cn
 simp only [h1, h2, dq]
theorem uE {x y : ed} {ats : Array ea} {k1 k2 : jo} {a b : Int} (k : BZ (Ar P h fk n base lk) ops l ⟨D6 T d (.int k1 (if b > a then b else a)), G⟩ Q) (h1 : ev T x = some (.int k1 a) := by rfl) (h2 : ev T y = some (.int k2 b) := by rfl) (hd : fj d n = true := by rfl) :
  BZ (Ar P h fk n base lk) ops ((s, kk, ⟨some d, .call ⟨.builtin .max, #[x, y], ats⟩, ty, pos, aft, none⟩) :: l) ⟨T, G⟩ Q := by
 refine pV ?_ hd k
 unfold He Cn
 simp only [h1, h2, dq]
theorem Vc {o : ed} {m : Nat} {kd : jo} {i : Int} (h : ev T o = some (.int kd i)) (h0 : 0 ≤ i) : Cy T m (some o) = some i.toNat := by
 simp only [Cy, h, ru h0]
theorem Yu {lm : Nat} {t e : ea} {x : ed} {lo hi : Option ed} {xs ys : List α} {a b : Int} {lv : Nat} (hs : VB xs a b = some ys) (he : B0 P t = some e) (hz : B3 P e = some (AF.sz α)) (h1 : ev T x = some (.lit lv xs.length (AB lm xs))) (hl : Cy T 0 lo = some a.toNat) (hh : Cy T xs.length hi = some b.toNat) :
  He ((Ar P h fk n base lk).Ay s kk) (.slice t x lo hi none) ⟨T, G⟩ = some (.lit lv ys.length (AB lm ys), G) := by
 unfold VB at hs
 split at hs
 case isFalse => cases hs
 rename_i hc
 simp only [an] at hs
 subst hs
 unfold He Cn
 simp only [h1, ba, D4, hl, hh]
 show (B0 P t).bind _ = _
 rw [he]
 show (B3 P e).bind _ = _
 rw [hz]
 simp only [ba]
 rw [ru ⟨by omega, by omega⟩]
 simp only [dq, cL]
 have : ((xs.drop a.toNat).take (b - a).toNat).length = b.toNat - a.toNat := by rw [gh, ko]; omega
 rw [this, show b.toNat - a.toNat = (b - a).toNat by omega]
theorem uI {lm : Nat} {t e : ea} {x hi : ed} {xs ys : List α} {b : Int} {lv : Nat} {k2 : jo} (hs : VB xs 0 b = some ys) (he : B0 P t = some e) (hz : B3 P e = some (AF.sz α)) (k : BZ (Ar P h fk n base lk) ops l ⟨D6 T d (.lit lv ys.length (AB lm ys)), G⟩ Q) (h1 : ev T x = some (.lit lv xs.length (AB lm xs)) := by rfl) (h3 : ev T hi = some (.int k2 b) := by rfl) (hd : fj d n = true := by rfl) :
  BZ (Ar P h fk n base lk) ops ((s, kk, ⟨some d, .slice t x none (some hi) none, ty, pos, aft, none⟩) :: l) ⟨T, G⟩ Q := by
 have hc : 0 ≤ b := by have := jH hs; omega
 exact pV (Yu hs he hz h1 rfl (Vc h3 hc)) hd k
end steps
def sU (a b : Int) : Int := IntKind.wrap .i64 (BitVec.ofInt 64 a ^^^ BitVec.ofInt 64 b).toNat
section
variable {P : ep} {h : BX} {fk n base : Nat} {lk : Lk} {c : Cx} {ops : Array fc} {s kk : Bool} {d : Nat} {ty : ea} {pos : String} {aft : Array Edge} {l : List (Bool × Bool × fc)} {Q : St → Prop} {T : Nat → V} {G G' H : A5} {rs : List B8} {op : Op} {α : Type} [AF α]
theorem vX {xs : List α} {i : Int} {x : α} {t e : ea} {y z : ed} {kd : jo} (hc : AR xs i = some x) (he : B0 P t = some e) (hz : B3 P e = some (AF.sz α)) (k : BZ (Ar P h fk n base lk) ops l ⟨D6 T d (.lp 0 ((AB 0) xs) (i.toNat * AF.sz α)), G⟩ Q)
  (h1 : ev T y = some (.tl xs.length ((AB 0) xs)) := by rfl) (h2 : ev T z = some (.int kd i) := by rfl) (hd : fj d n = true := by rfl) :
  BZ (Ar P h fk n base lk) ops ((s, kk, ⟨some d, .indexAddr t y z, ty, pos, aft, none⟩) :: l) ⟨T, G⟩ Q := by
 refine pV ?_ hd k
 rw [Ef]
 show (B0 P t).bind _ = _
 rw [he, ba]
 show (B3 P e).bind _ = _
 simp only [hz, h1, h2, ba, asInt, RO, D4]
 rw [ru (Fj hc)]
 rfl
end
theorem jA {H G : A5} {rs : List B8} (hO : A6 H G rs) {q : Nat} {b : Bv} (h : H[q]? = some b) : G[q]? = some b := by
 rw [hO.pre q (du.1 h).1]; exact h
def Gh : Code → Option ea
 | .seq (.region _ r0 false) (.seq (.seq (.region _ r1 false) (.cond (.tmp 4) (.seq (.region _ r2 false) .ret) .skip)) (.seq (.region _ r3 false) .ret)) =>
  match r0.toList, r1.toList, r2.toList, r3.toList with
  | [a], [b1, b2], [c], [d1, d2, d3, d4] =>
   match a.dst, a.op, a.guard, b1.dst, b1.op, b1.guard, b2.dst, b2.op, b2.guard with
   | some 2, .assign (.const (.slice none 0 0)), none, some 3, .move (.tmp 0), none, some 4, .binOp .eql t (.tmp 3) (.const (.slice none 0 0)) _, none =>
    match c.dst, c.op, c.guard, d1.dst, d1.op, d1.guard, d2.dst, d2.op, d2.guard with
    | some 2, .assign (.const (.slice none 0 0)), none, some 5, .buildSlice t1 0 ps, none, some 6, .move (.tmp 0), none =>
     match d3.dst, d3.op, d3.guard, d4.dst, d4.op, d4.guard with
     | some 7, .call ⟨.builtin .append, as, ts⟩, none, some 2, .assign (.tmp 7), none =>
      match ps.toList, as.toList, ts.toList with
      | [], [.tmp 5, .tmp 6], [t2, t3] => if t1 = t ∧ t2 = t ∧ t3 = t then some t else none
      | _, _, _ => none
     | _, _, _, _, _, _ => none
    | _, _, _, _, _, _, _, _, _ => none
   | _, _, _, _, _, _, _, _, _ => none
  | _, _, _, _ => none
 | _ => none
theorem Va {α : Type} {a : Array α} {l : List α} (h : a.toList = l) : a = l.toArray := by rw [← h]
theorem LY {d : Nat} : ∀ (v : V), clean d v = true → BS d v = true
 | .int .., _ => rfl
 | .bool _, _ => rfl
 | .str _, _ => rfl
 | .HV, _ => rfl
 | .EI, _ => rfl
 | .lit lv n cs, h => by
  simp only [clean, BS, ec] at h ⊢
  exact ⟨h.1, go cs h.2⟩
 | .agg cs, h => by
  simp only [clean, BS] at h ⊢
  exact go cs h
 | .Ei cs, h => by
  simp only [clean, BS] at h ⊢
  exact go cs h
 | .ptr .., h => by simp [clean] at h
 | .lp .., h => by simp [clean] at h
 | .tl .., h => by simp [clean] at h
 | .snap .., h => by simp [clean] at h
 | .sl .., h => by simp [clean] at h
 | .fn .., h => by simp [clean] at h
 | .Cm .., h => by simp [clean] at h
where go : ∀ (cs : List V), clean.cleanL d cs = true → BS.cleanGL d cs = true
 | [], _ => rfl
 | c :: cs, h => by
  simp only [clean.cleanL, BS.cleanGL, ec] at h ⊢
  exact ⟨LY c h.1, go cs h.2⟩
theorem Jx {α : Type} [AF α] {d : Nat} (hd : 0 < d) (xs : List α) : BS.cleanGL d ((AB 0) xs) = true := LY.go _ (GV hd ig _ (CH xs))
theorem Vj (c : Cx) (n : Nat) (p q : Code) (S : St) : Aq c n (.seq (.seq p .ret) q) S = match Aq c n p S with
  | some (.normal, S') => some (.ret, S')
  | r => r := by
 simp only [Aq]
 cases Aq c n p S with
 | none => rfl
 | some r =>
  obtain ⟨x, S'⟩ := r
  cases x <;> rfl
section
variable {P : ep} {h : BX} {k : jc} {fn : Func} {body : Code} {α : Type} [AF α]
theorem Vh {lm : Nat} (c : Cx) (yu : c.hints.XE c.fn = false) {t e : ea} {by_ n : Nat} (td : Gh body = some t) (hnt : 7 < c.ntmps) (he : B0 c.P t = some e) (hz : B3 c.P e = some (AF.sz α)) (vd : C3 c.P e = some by_) {z : List V} (vi : BH c.P e = some z) (ug : z.length = AF.sz α) (xs : List α) (tu : (0 + xs.length) * (by_ + 1) ≤ 70368744177664) {T : Nat → V} {G : A5} {l : Nat} (hT : T 0 = .lit l xs.length (AB lm xs)) :
    Jv c n [.tmp 2] body ⟨T, G⟩ = if xs.length = 0 then some ([.tl 0 []], G) else some ([.snap G.length xs.length (AB lm xs)], G ++ [.Bt c.d xs.length (AF.sz α)]) := by
  unfold Gh at td
  split at td
  case h_2 => cases td
  rename_i i0 r0 i1 r1 i2 r2 i3 r3
  split at td
  case h_2 => cases td
  rename_i a b1 b2 cc d1 d2 d3 d4 e0 e1 e2 e3
  split at td
  case h_2 => cases td
  rename_i t0 tt f1 f2 f3 f4 f5 f6 f7 f8 f9
  split at td
  case h_2 => cases td
  rename_i t1 ps g1 g2 g3 g4 g5 g6 g7 g8 g9
  split at td
  case h_2 => cases td
  rename_i as ts j1 j2 j3 j4 j5 j6
  split at td
  case h_2 => cases td
  rename_i t2 t3 m1 m2 m3
  split at td
  case isFalse => cases td
  rename_i hq
  obtain ⟨rfl, rfl, rfl⟩ := hq
  simp only [an] at td
  subst td
  obtain rfl := Va e0
  obtain rfl := Va e1
  obtain rfl := Va e2
  obtain rfl := Va e3
  obtain rfl := Va m1
  obtain rfl := Va m2
  obtain rfl := Va m3
  have hns : ∀ (N : Ms), N = ⟨.region i0 [a].toArray false, i1, b1, b2, 3, 0, 4, t3, tt, .seq (.region i2 [cc].toArray false) .ret, .seq (.region i3 [d1, d2, d3, d4].toArray false) .ret⟩ → Fh (.seq (.region i0 [a].toArray false) (.seq (.seq (.region i1 [b1, b2].toArray false) (.cond (.tmp 4) (.seq (.region i2 [cc].toArray false) .ret) .skip)) (.seq (.region i3 [d1, d2, d3, d4].toArray false) .ret))) = some N := by
    rintro N rfl
    simp only [Fh, WT, f4, f5, f6, f7, f8, f9, and_self, if_true]
  unfold Jv
  rw [hns _ rfl]
  have n2 : 2 < c.ntmps := by omega
  have n3 : 3 < c.ntmps := by omega
  have n4 : 4 < c.ntmps := by omega
  have n5 : 5 < c.ntmps := by omega
  have n6 : 6 < c.ntmps := by omega
  have hr : ∀ (T : Nat → V) (G : A5), Aq c n (.region i0 [a].toArray false) ⟨T, G⟩ = some (.normal, ⟨D6 T 2 (.tl 0 []), G⟩) := by
    intro T G
    have hl : gj [a].toArray.size = [0] := rfl
    have hg : [a].toArray[0]? = some a := rfl
    simp only [Aq, ei, if_false, hl, Dr, hg, C1, DF, f3, ba, if_true, Jg, f1, n2, Cn, f2, ev, Es, DW, dq, ba]
    rfl
  have hA : ∀ (T : Nat → V) (G : A5), Aq c n (.region i2 [cc].toArray false) ⟨T, G⟩ = some (.normal, ⟨D6 T 2 (.tl 0 []), G⟩) := by
    intro T G
    have hl : gj [cc].toArray.size = [0] := rfl
    have hg : [cc].toArray[0]? = some cc := rfl
    simp only [Aq, ei, if_false, hl, Dr, hg, C1, DF, g3, ba, if_true, Jg, g1, n2, Cn, g2, ev, Es, DW, dq, ba]
    rfl
  simp only [hr]
  have hT0 : (D6 T 2 (.tl 0 [])) 0 = .lit l xs.length (AB lm xs) := by rw [Oy, rr (by omega)]; exact hT
  rw [ru ⟨n3, n4, by decide, by rw [he]; rfl⟩, hT0]
  have za : ER c t3 t3 G (.tl 0 []) (.lit l xs.length (AB lm xs)) = if xs.length = 0 then some (.tl 0 [], G) else some (.snap G.length xs.length (AB lm xs), G ++ [.Bt c.d xs.length (AF.sz α)]) := by
    unfold ER
    rw [he, ba, hz, ba, vd, ba, vi, ba, ru ⟨rfl, jt.1 AF.pos, ug⟩]
    simp only [D4, Hl, ba]
    rw [ru ⟨By xs, CY xs⟩]
    by_cases h0 : xs.length = 0
    · rw [ru h0, ru h0]
    · rw [rr h0, rr h0, ru ⟨by simp, tu⟩]; simp only [kb, gu]
  have hB : ∀ (T : Nat → V), T 0 = .lit l xs.length (AB lm xs) → L8 c.P [.tmp 2] (Aq c n (.seq (.region i3 [d1, d2, d3, d4].toArray false) .ret) ⟨T, G⟩) = if xs.length = 0 then some ([.tl 0 []], G) else some ([.snap G.length xs.length (AB lm xs)], G ++ [.Bt c.d xs.length (AF.sz α)]) := by
    intro T hT
    have hl : gj [d1, d2, d3, d4].toArray.size = [0, 1, 2, 3] := rfl
    have q0 : [d1, d2, d3, d4].toArray[0]? = some d1 := rfl
    have q1 : [d1, d2, d3, d4].toArray[1]? = some d2 := rfl
    have q2 : [d1, d2, d3, d4].toArray[2]? = some d3 := rfl
    have q3 : [d1, d2, d3, d4].toArray[3]? = some d4 := rfl
    have o1 : Cn c d1 ⟨T, G⟩ = some (.tl 0 [], G) := by
      unfold Cn
      simp only [g5, Sp, ba, Cd, he, hz, vi]
      rw [ru ⟨ug, jt.1 AF.pos, by omega⟩]
      have xn : c.own 0 = false := rfl
      simp only [List.replicate_zero, List.flatten_nil, Eo, dq, xn, ei, if_false]
    have o3 : Cn c d3 ⟨D6 (D6 T 5 (.tl 0 [])) 6 (.lit l xs.length (AB lm xs)), G⟩ = if xs.length = 0 then some (.tl 0 [], G) else some (.snap G.length xs.length (AB lm xs), G ++ [.Bt c.d xs.length (AF.sz α)]) := by
      unfold Cn
      simp only [j2, ev, ba]
      rw [show (D6 (D6 T 5 (.tl 0 [])) 6 (.lit l xs.length (AB lm xs))) 5 = .tl 0 [] from by simp [D6], show (D6 (D6 T 5 (.tl 0 [])) 6 (.lit l xs.length (AB lm xs))) 6 = .lit l xs.length (AB lm xs) from by simp [D6]]
      rw [TA yu]
      exact za
    simp only [Aq, ei, if_false, hl, Dr, q0, C1, DF, g6, ba, if_true, Jg, g4, n5]
    rw [o1]
    simp only [dq, ba, q1, g9, if_true, g7, n6]
    have xz : (({ ({ T := T, H := G } : St) with H := G } : St).set 5 (.tl 0 [])) = ⟨D6 T 5 (.tl 0 []), G⟩ := rfl
    rw [xz]
    have o2 : Cn c d2 ⟨D6 T 5 (.tl 0 []), G⟩ = some (.lit l xs.length (AB lm xs), G) := by
      unfold Cn
      simp only [g8, ev, dq]
      rw [show (D6 T 5 (.tl 0 [])) 0 = .lit l xs.length (AB lm xs) from by rw [Oy, rr (by omega)]; exact hT]
    rw [o2]
    simp only [dq, ba, q2, j3, if_true, j1, hnt]
    have hS2 : (({ ({ T := D6 T 5 (.tl 0 []), H := G } : St) with H := G } : St).set 6 (.lit l xs.length (AB lm xs))) = ⟨D6 (D6 T 5 (.tl 0 [])) 6 (.lit l xs.length (AB lm xs)), G⟩ := rfl
    rw [hS2, o3]
    by_cases h0 : xs.length = 0
    · rw [ru h0, ru h0]
      simp only [dq, ba, q3, j6, if_true, j4, n2, Cn, j5, ev, dq, ba]
      simp [L8, BP, St.set]
    · rw [rr h0, rr h0]
      simp only [dq, ba, q3, j6, if_true, j4, n2, Cn, j5, ev, dq, ba]
      simp [L8, BP, St.set]
  have hBw : O7 c n [.tmp 2] ⟨.region i0 [a].toArray false, i1, b1, b2, 3, 0, 4, t3, tt, .seq (.region i2 [cc].toArray false) .ret, .seq (.region i3 [d1, d2, d3, d4].toArray false) .ret⟩ ⟨D6 T 2 (.tl 0 []), G⟩ false = if xs.length = 0 then some ([.tl 0 []], G) else some ([.snap G.length xs.length (AB lm xs)], G ++ [.Bt c.d xs.length (AF.sz α)]) := by
    unfold O7
    simp only [ei, if_false]
    refine hB (D6 (D6 (D6 T 2 (.tl 0 [])) 3 _) 4 _) ?_
    rw [Oy, rr (by omega), Oy, rr (by omega)]
    exact hT0
  by_cases h0 : xs.length = 0
  · rw [ru h0] at hBw ⊢
    have hAw : O7 c n [.tmp 2] ⟨.region i0 [a].toArray false, i1, b1, b2, 3, 0, 4, t3, tt, .seq (.region i2 [cc].toArray false) .ret, .seq (.region i3 [d1, d2, d3, d4].toArray false) .ret⟩ ⟨D6 T 2 (.tl 0 []), G⟩ true = some ([.tl 0 []], G) := by
      unfold O7
      simp only [if_true]
      show L8 c.P _ (Aq c n (.seq (.seq (.region i2 [cc].toArray false) .ret) _) ⟨D6 (D6 (D6 T 2 (.tl 0 [])) 3 _) 4 _, G⟩) = _
      simp only [Vj, hA]
      simp [L8, BP, D6]
    rw [show D4 (.lit l xs.length (AB lm xs)) = some 0 from by rw [h0]; rfl]
    simp only []
    rw [ru (hAw.trans hBw.symm)]
    exact hBw
  · rw [rr h0] at hBw ⊢
    obtain ⟨m, hm⟩ : ∃ m, xs.length = m + 1 := ⟨xs.length - 1, by omega⟩
    rw [show D4 (.lit l xs.length (AB lm xs)) = some (m + 1) from by rw [← hm]; rfl]
    exact hBw
theorem Rg {t e : ea} {by_ : Nat} (zo : P.funcs[k]? = some fn) (hb : fn.body = some body) (td : Gh body = some t) (hnt : fj 7 fn.ntmps = true) (hres : fn.results = #[.tmp 2]) (ud : (fn.name == "runtime.NumGoroutine") = false) (hg : h.grow k = true)
    (he : B0 P t = some e) (hz : B3 P e = some (AF.sz α)) (vd : C3 P e = some by_) {z : List V} (vi : BH P e = some z) (ug : z.length = AF.sz α) {xs zs : List α} (tf : CL by_ [] xs = some zs) (l : Nat) (G : A5) {lk : Lk} (sn : 0 < lk.length) (yu : h.XE k = false) :
    Aw P h k [.lit l xs.length ((AB 0) xs)] G lk = if xs.length = 0 then some (.tl 0 [], G) else some (.snap G.length xs.length ((AB 0) xs), G ++ [.Bt (lk.length - 1) xs.length (AF.sz α)]) := by
  have hnt := fb hnt
  unfold CL at tf
  split at tf
  case isFalse => cases tf
  rename_i tb
  have tu : (0 + xs.length) * (by_ + 1) ≤ 70368744177664 := by
    rcases tb with h0 | h0
    · rw [h0]; simp
    · exact h0
  have hex := Vh (n := 0) { P := P, hints := h, fn := k, ntmps := fn.ntmps, base := G.length, lk := lk, Γ := EL P h 0 } yu td (by show 7 < fn.ntmps; omega) he hz vd vi ug xs tu (T := Ko [.lit l xs.length ((AB 0) xs)]) (G := G) (l := l) rfl
  have key : ∀ r, ((if xs.length = 0 then some (([.tl 0 []] : List V), G) else some ([.snap G.length xs.length ((AB 0) xs)], G ++ [.Bt lk.length xs.length (AF.sz α)])).bind fun r => En h k G.length lk.length (FT r.1) r.2) = some r → Aw P h k [.lit l xs.length ((AB 0) xs)] G lk = some r := by
    intro r hr
    refine XX (n := 1) ?_
    unfold EL
    simp only [zo, hb]
    rw [ru ⟨by show 1 ≤ fn.ntmps; omega, ud⟩, hres]
    rw [hex]
    exact hr
  by_cases h0 : xs.length = 0
  · rw [ru h0] at key ⊢
    refine key _ ?_
    simp only [ba, FT, En, hg, if_true]
    rw [List.drop_length, mi]
    simp [BS, BS.cleanGL]
  · rw [rr h0] at key ⊢
    refine key _ ?_
    simp only [ba, FT, En, hg, if_true]
    rw [List.drop_left, List.take_left]
    have tv : BS lk.length (V.snap G.length xs.length ((AB 0) xs)) = true := by simp only [BS]; exact Jx sn xs
    simp only [tv, jr, re, pw, and_self, if_true, gq, List.map_nil]
    show some (V.snap G.length xs.length ((AB 0) xs), G ++ [Bv.Bt (min lk.length (lk.length - 1)) xs.length (AF.sz α)]) = _
    rw [Nat.min_eq_right (Nat.sub_le _ _)]
end
section
variable {P : ep} {h : BX} {fk n base : Nat} {lk : Lk} {c : Cx} {ops : Array fc} {s kk : Bool} {d : Nat} {ty : ea} {pos : String} {aft : Array Edge} {l : List (Bool × Bool × fc)} {Q : St → Prop} {T : Nat → V} {G G' H : A5} {rs : List B8} {α : Type} [AF α]
theorem Qu {f : ed} {args : Array ed} {ats : Array ea} {g : jc} {fn : Func} {t e : ea} {by_ lv : Nat} {w : V} {M : List Nat} {z : List V} {xs zs : List α} (hO : A6 H G rs) (tf : CL by_ [] xs = some zs)
  (zo : P.funcs[g]? = some fn) (td : fn.body.bind Gh = some t) (he : B0 P t = some e) (hz : B3 P e = some (AF.sz α)) (vd : C3 P e = some by_) (vi : BH P e = some z)
  (k : ∀ v' G', Nz v' → A6 H G' (.own v' lk.length (AF.sz α) zs.length ((AB 0) zs) :: rs) → BZ (Ar P h fk n base lk) ops l ⟨D6 T d v', G'⟩ Q)
  (h1 : ev T f = some (.fn g []) := by rfl) (h2 : Ld T args.toList = some [w] := by rfl)
  (h3 : AW ((Ar P h fk n base lk).Ay s kk) (h.Df g) G [w] = some ([.lit lv xs.length ((AB 0) xs)], M, G) := by rfl) (ug : z.length = AF.sz α := by rfl) (hnt : fj 7 fn.ntmps = true := by rfl) (hres : fn.results = #[.tmp 2] := by rfl) (ud : (fn.name == "runtime.NumGoroutine") = false := by rfl) (hg : h.grow g = true := by rfl) (yu : h.XE g = false := by rfl) (hd : fj d n = true := by rfl) :
  BZ (Ar P h fk n base lk) ops ((s, kk, ⟨some d, .call ⟨.value f, args, ats⟩, ty, pos, aft, none⟩) :: l) ⟨T, G⟩ Q := by
 obtain ⟨body, hb, td⟩ := dj.1 td
 have hzs : zs = xs := by
  unfold CL at tf
  split at tf
  ·simpa using tf.symm
  ·cases tf
 subst hzs
 have hr := fun L => Rg zo hb td hnt hres ud hg he hz vd vi ug tf lv G (lk := lk ++ [L]) (by simp) yu
 by_cases h0 : zs.length = 0
 ·have hx : zs = [] := ff h0
  subst hx
  exact Ae (r := .tl 0 []) (G' := G) (fun L => by rw [hr L, ru h0]) (k _ _ Nz.nil (A6.HI hO lk.length ([] : List α))) h1 h2 h3 hd
 ·refine Ae (r := .snap G.length zs.length ((AB 0) zs)) (G' := G ++ [.Bt lk.length zs.length (AF.sz α)]) (fun L => ?_) (k _ _ Nz.snap (hO.push _ rfl ⟨By zs, .inr ⟨G.length, rfl, hO.len, H7 _ _⟩⟩)) h1 h2 h3 hd
  rw [hr L, rr h0, dw, jm, Nat.add_sub_cancel]
end
def iP (x : Nat) : List Nat → Bool
 | [] => false
 | y :: l => bif gp x y then true else iP x l
theorem XH (x : Nat) : ∀ l : List Nat, iP x l = l.contains x
 | [] => rfl
 | y :: l => by
  rw [List.contains_cons, ← XH x l]
  show (bif gp x y then true else iP x l) = _
  have : gp x y = (x == y) := by rw [gz, beq_iff_eq, Nat.beq_eq]
  rw [this]
  cases x == y <;> rfl
def P6 (tbl : List (List Nat)) : Nat → List Nat → List Nat → List Nat
 | 0, _, seen => seen.reverse
 | _, [], seen => seen.reverse
 | n + 1, f :: todo, seen => bif iP f seen then P6 tbl n todo seen else P6 tbl n (tbl.getD f [] ++ todo) (f :: seen)
section
variable {P : ep} {tbl : List (List Nat)}
theorem dF (hl : P.funcs.toList.map P.leadsTo = tbl) (g : Nat) : (P.funcs[g]?).elim [] P.leadsTo = tbl.getD g [] := by
 subst hl
 rw [List.getD_eq_getElem?_getD, ic, Array.getElem?_toList]
 cases P.funcs[g]? <;> rfl
theorem Si (hl : P.funcs.toList.map P.leadsTo = tbl) : ∀ (n : Nat) (todo seen : List Nat), P.closureVia n todo seen = P6 tbl n todo seen
 | 0, _, _ => by simp [Program.closureVia, P6]
 | n + 1, [], seen => by simp [Program.closureVia, P6]
 | n + 1, f :: todo, seen => by
  unfold Program.closureVia P6
  rw [XH, dF hl, Si hl n, Si hl n]
  cases seen.contains f <;> rfl
theorem Vi (hl : P.funcs.toList.map P.leadsTo = tbl) {f : Nat} {L : List Nat} (hc : P6 tbl (1 + (tbl.map fun l => l.length + 1).sum) [f] [] = L) : P.closure f = L := by
 unfold Program.closure
 rw [Si hl, ← hc]
 congr 2
 subst hl
 rw [pc]
 rfl
theorem Rb {f : Nat} (hu : P.unfollowed f = true) : P.recurses f = true := by unfold Program.recurses; rw [hu, rf]
end
theorem IN {α β : Type} {f : α → β} {xs : List α} {a s : Nat} {t u : List β} (h1 : ((xs.drop a).take s).map f = t) (h2 : (xs.drop (a + s)).map f = u) : (xs.drop a).map f = t ++ u := by
 rw [← h1, ← h2, ← ju, ← qu, pe]
def BK (H0 H : A5) (S : List Nat) : Prop := H.length = H0.length ∧ ∀ x, x ∉ S → H[x]? = H0[x]?
theorem BK.refl (H : A5) (S : List Nat) : BK H H S := ⟨rfl, fun _ _ => rfl⟩
theorem BK.set {H0 H : A5} {S : List Nat} (h : BK H0 H S) {n : Nat} (hn : n < H.length → n ∈ S) (x : Bv) : BK H0 (H.set n x) S :=
 ⟨by rw [fa]; exact h.1, fun y hy => by rw [AX, rr (by rintro ⟨rfl, hl⟩; exact hy (hn hl))]; exact h.2 y hy⟩
def EK (lk : Lk) (n : Nat) : Prop := ∀ l ∈ lk, ∀ x ∈ l, x < n
theorem EK.push {lk : Lk} {n m : Nat} {L : List Nat} (h : EK lk n) (hn : n ≤ m) (hL : ∀ x ∈ L, x < m) : EK (lk ++ [L]) m := by
 intro l hl x hx
 rcases eb.1 hl with hl | hl
 ·exact fw (h l hl x hx) hn
 ·simp only [dt] at hl
  subst hl
  exact hL x hx
theorem EK.free {lk : Lk} {n b : Nat} {L : List Nat} (h : EK lk n) (hb : n ≤ b) (hL : b ∉ L) : AT (lk ++ [L]) b = true := by
 unfold AT
 rw [gb]
 intro l hl
 simp only [jj, ← qi, pj]
 intro hx
 rcases eb.1 hl with hl | hl
 ·exact absurd (h l hl b hx) (ib.2 hb)
 ·simp only [dt] at hl
  subst hl
  exact hL hx
def oJ (H : A5) (q : Nat) (o : V) (d sz n : Nat) (cells : List V) : Prop := H[q]? = some (.cells 1 [o]) ∧ cells.length = n * sz ∧ (o = .tl n cells ∨ ∃ b, o = .snap b n cells ∧ H[b]? = some (.Bt d n sz))
def lP (q : Nat) (o : V) : List Nat := q :: (match o with | .snap b _ _ => [b] | _ => [])
section steps
variable {P : ep} {h : BX} {fk n base : Nat} {lk : Lk} {c : Cx} {ops : Array fc} {s kk : Bool} {d : Nat} {ty : ea} {pos : String} {aft : Array Edge} {l : List (Bool × Bool × fc)} {Q : St → Prop} {T : Nat → V} {G G' H H0 : A5} {rs : List B8} {op : Op} {S : List Nat}
variable {α : Type} [AF α]
theorem I9 {t : ea} {x : ed} {b off sz : Nat} {cs : List V} (hO : A6 H G rs) (j : Nat) (v : V) (ha : D7 P t = some false) (k : BZ (Ar P h fk n base lk) ops l ⟨D6 T d v, G⟩ Q) (h1 : ev T x = some (.ptr b off) := by rfl) (hj : rs[j]? = some (.Aj S b (.cells sz cs)) := by rfl) (h2 : cs[off]? = some v := by rfl) (hd : fj d n = true := by rfl) :
  BZ (Ar P h fk n base lk) ops ((s, kk, ⟨some d, .load t x, ty, pos, aft, none⟩) :: l) ⟨T, G⟩ Q := by
 refine oE v (hO.W1 hj).1 ?_ k h1 hd
 unfold BN
 simp only [ha, h2]
theorem Mf (hS : ∀ b ∈ S, AT lk b = true) {b : Nat} (hb : b < H.length → b ∈ S) : ((Ar P h fk n H.length lk).Ay s kk).Bi b = true := by
 unfold Cx.Bi
 simp only [gg, ry]
 rcases fp b H.length with hl | hl
 ·exact .inr (hS b (hb hl))
 ·exact .inl hl
theorem A6.N4 {dd d1 sz m j : Nat} {v : V} {cs : List V} (hO : A6 H G rs) (hj : rs[j]? = some (.N4 S v dd d1 sz m cs)) : cs.length = m * sz ∧ (v = .tl m cs ∨ ∃ b l, v = .snap b m cs ∧ G[b]? = some (.Bt l m sz) ∧ ((b < H.length ∧ b ∈ S ∧ l = dd) ∨ (H.length ≤ b ∧ l = d1))) := hO.ok _ (ee hj)
end steps
section cells
variable {P : ep} {h : BX} {fk n base : Nat} {lk : Lk} {ops : Array fc} {s kk : Bool} {d : Nat} {ty : ea} {pos : String} {aft : Array Edge} {l : List (Bool × Bool × fc)} {Q : St → Prop} {T : Nat → V} {G G' H : A5} {rs : List B8}
theorem Yi {j dd sz m : Nat} {v : V} {cs : List V} (hO : A6 H G rs) (hj : rs[j]? = some (.own v dd sz m cs)) : v.cellsOf = [v] ∧ v.Bm = true := by
 rcases (hO.own hj).2 with rfl | ⟨b, rfl, _⟩ <;> exact ⟨rfl, rfl⟩
theorem Ts : ([] : List V).all V.Bm = true := rfl
theorem Ds {v : V} {vs : List V} (h1 : v.Bm = true) (h2 : vs.all V.Bm = true) : (v :: vs).all V.Bm = true := by rw [jr, h1, h2]; rfl
theorem C7 {v : V} (h : v.Bm = true) : [v].all V.Bm = true := by rw [jr, h]; rfl
theorem Nj {t : ea} {x y : ed} {b off sz m : Nat} {cs xs : List V} {v : V} (sk : List V) (hO : A6 H G rs) (j : Nat) (hz : B3 P t = some m) (hb : base = H.length) (k : ∀ G', A6 H G' (rs.set j (.Au b (.cells sz sk))) → BZ (Ar P h fk n base lk) ops l ⟨T, G'⟩ Q) (h1 : ev T x = some (.ptr b off) := by rfl) (hj : rs[j]? = some (.Au b (.cells sz cs)) := by rfl) (h2 : ev T y = some v := by rfl) (h3 : v.cellsOf = xs := by rfl) (h4 : xs.length = m := by rfl) (h5 : jn (off + m) cs.length = true := by rfl) (h6 : xs.all V.Bm = true := by rfl) (h7 : CA cs off xs = sk := by rfl) :
  BZ (Ar P h fk n base lk) ops ((s, kk, ⟨none, .store t x y, ty, pos, aft, none⟩) :: l) ⟨T, G⟩ Q := by
 subst h7
 exact DR hO j hz hb k h1 hj h2 h3 h4 h5 h6
end cells
structure tJ (H H1 : A5) (q : Nat) (o o' : V) (d sz n : Nat) (cells : List V) : Prop where
 box : oJ H1 q o' d sz n cells
 len : H.length ≤ H1.length
 same : ∀ x, x < H.length → x ∉ lP q o → H1[x]? = H[x]?
 CP : ∀ b ∈ lP q o', b ∈ lP q o ∨ H.length ≤ b
def VV (P : ep) (h : BX) (k base d : Nat) (rs : List ir) (Post : V → A5 → Prop) (x : X) (S : St) : Prop :=
 (x = .normal ∨ x = .ret) ∧ ∃ v H1, ((BP P S.H S.T rs).bind fun vs => En h k base d (FT vs) S.H) = some (v, H1) ∧ Post v H1
theorem BG {P : ep} {h : BX} {lk : Lk} {fn : Func} {body : Code} {k : jc} (zo : P.funcs[k]? = some fn) (hb : fn.body = some body) {m : Nat} (hn : fn.ntmps = m) {args : List V} {H : A5} {rs : Array ir} (hrs : fn.results = rs) (hlen : jn args.length m = true) (ud : (fn.name == "runtime.NumGoroutine") = false) {Post : V → A5 → Prop}
  (hr : HC (Ar P h k m H.length lk) body ⟨Ko args, H⟩ (VV P h k H.length lk.length rs.toList Post)) (hns : Fh body = none := by rfl) : ∃ v H1, Aw P h k args H lk = some (v, H1) ∧ Post v H1 := by
 obtain ⟨x, S, h1, h2, v, H1, h3, hp⟩ := hr
 exact ⟨v, H1, SF zo hb hn hns (fb hlen) ud hrs ⟨x, S, h1, h2, h3⟩, hp⟩
theorem J0 {H G : A5} (hl : H.length ≤ G.length) (d b : Nat) : (G.take H.length ++ (G.drop H.length).map (NI d))[b]? = if b < H.length then G[b]? else (G[b]?).map (NI d) := by
 have hl' : (G.take H.length).length = H.length := by rw [gh]; omega
 by_cases h : b < H.length
 ·rw [ru h, eh (by omega), List.getElem?_take_of_lt h]
 ·rw [rr h, fe (by omega), hl', ic, List.getElem?_drop]
  congr 2
  omega
theorem IL {c : Cx} {G : A5} : ∀ (vs so : List V) (M : List Nat), AW c [] G vs = some (so, M, G) → ∀ x ∈ M, x < G.length
 | [], so, M, h => by
  simp only [AW, an, dk] at h
  obtain ⟨_, rfl, _⟩ := h
  intro x hx; cases hx
 | v :: vs, so, M, h => by
  simp only [AW, qv, E8, qx, dj, dn, Prod.exists, dk] at h
  obtain ⟨v1, M1, H1, ⟨v2, M2, h1, rfl, rfl, rfl⟩, vs2, M3, H3, h2, rfl, rfl, rfl⟩ := h
  intro x hx
  rcases eb.1 hx with hx | hx
  ·exact Oc _ _ _ _ _ _ h1 x hx
  ·exact IL vs vs2 M3 h2 x hx
theorem Qb {c : Cx} {g : jc} {M : List Nat} {G : A5} (hM : ∀ x ∈ M, x < G.length) (hb : c.base ≤ G.length) : ∀ x ∈ c.C6 g M G, x < G.length := by
 intro x hx
 unfold Cx.C6 at hx
 split at hx
 ·rcases eb.1 hx with hx | hx
  ·exact hM x hx
  ·exact ik.1 hx
 ·split at hx
  ·rcases eb.1 hx with hx | hx
   ·exact hM x hx
   ·exact fw (ik.1 hx) hb
  ·exact hM x hx
section calls
variable {P : ep} {h : BX} {fk n base : Nat} {lk : Lk} {ops : Array fc} {s kk : Bool} {d : Nat} {ty : ea} {pos : String} {aft : Array Edge} {l : List (Bool × Bool × fc)} {Q : St → Prop} {T : Nat → V} {G G' H : A5} {rs : List B8}
theorem dX {f : ed} {args : Array ed} {ats : Array ea} {g : jc} {caps vs so : List V} {M : List Nat} {r : V} (hO : A6 H G rs) (hlo : EK lk H.length) (hb : base = H.length) (hr : ∀ L, EK (lk ++ [L]) G.length → Aw P h g so G (lk ++ [L]) = some (r, G')) (k : BZ (Ar P h fk n base lk) ops l ⟨D6 T d r, G'⟩ Q) (h1 : ev T f = some (.fn g caps) := by rfl) (h2 : Ld T args.toList = some vs := by rfl) (h3 : AW ((Ar P h fk n base lk).Ay s kk) [] G (vs ++ caps) = some (so, M, G) := by rfl) (hd : fj d n = true := by rfl) (hm : h.Df g = [] := by rfl) :
  BZ (Ar P h fk n base lk) ops ((s, kk, ⟨some d, .call ⟨.value f, args, ats⟩, ty, pos, aft, none⟩) :: l) ⟨T, G⟩ Q := by
 refine pV ?_ hd k
 rw [GF]
 simp only [h1, h2, ba, Pz]
 show (AW ((Ar P h fk n base lk).Ay s kk) (h.Df g) G (vs ++ caps)).bind _ = _
 rw [hm, h3]
 exact hr _ (hlo.push hO.len (Qb (IL _ _ _ h3) (by show base ≤ _; rw [hb]; exact hO.len)))
end calls
def NP {α : Type} (tr : A5 → α → List V → List Nat → Prop) (G : A5) : List α → List V → List Nat → Prop
 | [], cs, F => cs = [] ∧ F = []
 | x :: xs, cs, F => ∃ c1 c2 F1 F2, cs = c1 ++ c2 ∧ F = F1 ++ F2 ∧ tr G x c1 F1 ∧ NP tr G xs c2 F2
def FV (tr : A5 → List V → List Nat → Prop) (lo : Nat) (f : A5 × List Bv → V → Option (V × A5 × List Bv)) (cs : List V) (F : List Nat) (X : A5 × List Bv) : Prop :=
 ∃ sk X1 L F', BO.resL f X cs = some (sk, X1, X.2 ++ L) ∧ (∀ b, b ∉ F → X1[b]? = X.1[b]?) ∧ F'.Nodup ∧ (∀ b ∈ F', lo + X.2.length ≤ b ∧ b < lo + X.2.length + L.length) ∧ ∀ A : A5, A.length = lo → tr (A ++ (X.2 ++ L)) sk F'
class Az (α : Type) [AF α] where
 tr : A5 → α → List V → List Nat → Prop
 dep : Nat
 len : ∀ {G x cs F}, tr G x cs F → cs.length = AF.sz α
 cell : ∀ {G x cs F}, tr G x cs F → cs.all V.Bm = true
 frame : ∀ {G G' x cs F}, tr G x cs F → (∀ b ∈ F, G'[b]? = G[b]?) → tr G' x cs F
 bound : ∀ {G x cs F}, tr G x cs F → ∀ b ∈ F, b < G.length
 TJ : ∀ {G x cs F}, tr G x cs F → ∀ lv k, ∃ M, Al.lendL (Al lv G (k + dep)) cs = some (AF.BD lv x, M) ∧ ∀ b ∈ M, b ∈ F
 res : ∀ {G x cs F}, tr G x cs F → F.Nodup → ∀ lo d, (∀ b ∈ F, lo ≤ b) → ∀ k X, (∀ b ∈ F, X.1[b]? = G[b]?) → FV (fun G => tr G x) lo (BO true lo d (k + dep)) cs F X
theorem JM {f : V → Option (V × List Nat)} : ∀ {a b a' b' : List V} {M N : List Nat}, Al.lendL f a = some (a', M) → Al.lendL f b = some (b', N) → Al.lendL f (a ++ b) = some (a' ++ b', M ++ N)
 | [], b, a', b', M, N, h1, h2 => by
  simp only [Al.lendL, an, dk] at h1
  obtain ⟨rfl, rfl⟩ := h1
  simpa using h2
 | x :: a, b, a', b', M, N, h1, h2 => by
  simp only [Al.lendL, dj, dn, Prod.exists, dk] at h1
  obtain ⟨x', M1, e1, a2, M2, e2, rfl, rfl⟩ := h1
  simp only [ie, Al.lendL, e1, ba, JM e2 h2, dq, eo]
theorem KD {f : A5 × List Bv → V → Option (V × A5 × List Bv)} : ∀ {a b a' b' : List V} {X Y Z : A5 × List Bv}, BO.resL f X a = some (a', Y) → BO.resL f Y b = some (b', Z) → BO.resL f X (a ++ b) = some (a' ++ b', Z)
 | [], b, a', b', X, Y, Z, h1, h2 => by
  simp only [BO.resL, an, dk] at h1
  obtain ⟨rfl, rfl⟩ := h1
  simpa using h2
 | x :: a, b, a', b', X, Y, Z, h1, h2 => by
  simp only [BO.resL, dj, dn, Prod.exists, dk] at h1
  obtain ⟨x', X1, X2, e1, a2, X3, X4, e2, rfl, rfl⟩ := h1
  simp only [ie, BO.resL, e1, ba, KD e2 h2, dq]
theorem KZ {A B : List Nat} (h : (A ++ B).Nodup) : A.Nodup ∧ B.Nodup ∧ ∀ x ∈ A, x ∉ B := by
 rw [fy] at h
 exact ⟨h.1, h.2.1, fun x hx um => h.2.2 x hx x um rfl⟩
theorem FV.pair {t1 t2 : A5 → List V → List Nat → Prop} {lo : Nat} {f : A5 × List Bv → V → Option (V × A5 × List Bv)} {c1 c2 : List V} {F1 F2 : List Nat} {X : A5 × List Bv}
  (m1 : ∀ {G G' cs F}, t1 G cs F → (∀ b ∈ F, G'[b]? = G[b]?) → t1 G' cs F) (h1 : FV t1 lo f c1 F1 X) (h2 : ∀ Y : A5 × List Bv, (∀ b, b ∉ F1 → Y.1[b]? = X.1[b]?) → FV t2 lo f c2 F2 Y) :
  FV (fun G cs F => ∃ c1 c2 F1 F2, cs = c1 ++ c2 ∧ F = F1 ++ F2 ∧ t1 G c1 F1 ∧ t2 G c2 F2) lo f (c1 ++ c2) (F1 ++ F2) X := by
 obtain ⟨c1', X1, L1, F1', e1, s1, n1, b1, r1⟩ := h1
 obtain ⟨c2', X2, L2, F2', e2, s2, n2, b2, r2⟩ := h2 (X1, X.2 ++ L1) s1
 simp only [dw] at b2
 refine ⟨c1' ++ c2', X2, L1 ++ L2, F1' ++ F2', by rw [← eo]; exact KD e1 e2, fun b hb => ?_, ?_, fun b hb => ?_, fun A hA => ⟨c1', c2', F1', F2', rfl, rfl, m1 (r1 A hA) fun b hb => ?_, by rw [← eo X.2]; exact r2 A hA⟩⟩
 ·rw [s2 b fun h => hb (ft _ h)]
  exact s1 b fun h => hb (ew _ h)
 ·rw [fy]
  refine ⟨n1, n2, fun x hx y hy e => ?_⟩
  have := b1 x hx
  have := b2 y hy
  omega
 ·rw [dw]
  rcases eb.1 hb with hb | hb
  ·have := b1 b hb; omega
  ·have := b2 b hb; omega
 ·rw [← eo X.2, ← eo A (X.2 ++ L1), eh]
  rw [dw, dw, hA]
  have := b1 b hb
  omega
section
variable {α : Type} [AF α] [Az α] {G G' : A5}
theorem Ox : ∀ {xs : List α} {cs F}, NP Az.tr G xs cs F → cs.length = xs.length * AF.sz α
 | [], cs, F, h => by obtain ⟨rfl, rfl⟩ := h; simp
 | x :: xs, cs, F, h => by
  obtain ⟨c1, c2, F1, F2, rfl, rfl, h1, h2⟩ := h
  rw [dw, Az.len h1, Ox h2, er, kr, lu]
theorem Ge : ∀ {xs : List α} {cs F}, NP Az.tr G xs cs F → (∀ b ∈ F, G'[b]? = G[b]?) → NP Az.tr G' xs cs F
 | [], cs, F, h, _ => h
 | x :: xs, cs, F, h, hf => by
  obtain ⟨c1, c2, F1, F2, rfl, rfl, h1, h2⟩ := h
  exact ⟨c1, c2, F1, F2, rfl, rfl, Az.frame h1 fun b hb => hf b (ew _ hb), Ge h2 fun b hb => hf b (ft _ hb)⟩
theorem SQ : ∀ {xs : List α} {cs F}, NP Az.tr G xs cs F → ∀ b ∈ F, b < G.length
 | [], cs, F, h => by obtain ⟨rfl, rfl⟩ := h; intro b hb; cases hb
 | x :: xs, cs, F, h => by
  obtain ⟨c1, c2, F1, F2, rfl, rfl, h1, h2⟩ := h
  intro b hb
  rcases eb.1 hb with hb | hb
  ·exact Az.bound h1 b hb
  ·exact SQ h2 b hb
theorem VL (lv k : Nat) : ∀ {xs : List α} {cs F}, NP Az.tr G xs cs F → ∃ M, Al.lendL (Al lv G (k + Az.dep α)) cs = some (AB lv xs, M) ∧ ∀ b ∈ M, b ∈ F
 | [], cs, F, h => by obtain ⟨rfl, rfl⟩ := h; exact ⟨[], rfl, fun b hb => hb⟩
 | x :: xs, cs, F, h => by
  obtain ⟨c1, c2, F1, F2, rfl, rfl, h1, h2⟩ := h
  obtain ⟨M1, e1, m1⟩ := Az.TJ h1 lv k
  obtain ⟨M2, e2, m2⟩ := VL lv k h2
  refine ⟨M1 ++ M2, JM e1 e2, fun b hb => ?_⟩
  rcases eb.1 hb with hb | hb
  ·exact ew _ (m1 b hb)
  ·exact ft _ (m2 b hb)
theorem Xp (lo d k : Nat) : ∀ {xs : List α} {cs F}, NP Az.tr G xs cs F → F.Nodup → (∀ b ∈ F, lo ≤ b) → ∀ X, (∀ b ∈ F, X.1[b]? = G[b]?) → FV (fun G => NP Az.tr G xs) lo (BO true lo d (k + Az.dep α)) cs F X
 | [], cs, F, h, _, _, X, _ => by
  obtain ⟨rfl, rfl⟩ := h
  exact ⟨[], X.1, [], [], by rw [gi]; rfl, fun _ _ => rfl, .nil, fun b hb => (by cases hb), fun _ _ => ⟨rfl, rfl⟩⟩
 | x :: xs, cs, F, h, hn, hF, X, hX => by
  obtain ⟨c1, c2, F1, F2, rfl, rfl, h1, h2⟩ := h
  obtain ⟨n1, n2, n3⟩ := KZ hn
  refine FV.pair (fun h => Az.frame h) (Az.res h1 n1 lo d (fun b hb => hF b (ew _ hb)) k X fun b hb => hX b (ew _ hb)) fun Y hY => ?_
  exact Xp lo d k h2 n2 (fun b hb => hF b (ft _ hb)) Y fun b hb => by rw [hY b fun h => n3 b h hb]; exact hX b (ft _ hb)
theorem eS : ∀ {xs : List α} {j : Nat} {x : α} {cs F}, NP Az.tr G xs cs F → xs[j]? = some x → ∃ c1 c2 c3 F1 F2 F3, cs = c1 ++ (c2 ++ c3) ∧ F = F1 ++ (F2 ++ F3) ∧ c1.length = j * AF.sz α ∧ Az.tr G x c2 F2 ∧
  ∀ G' y c F', (∀ b ∈ F1 ++ F3, G'[b]? = G[b]?) → Az.tr G' y c F' → NP Az.tr G' (xs.set j y) (c1 ++ (c ++ c3)) (F1 ++ (F' ++ F3))
 | [], j, x, cs, F, h, hx => by simp at hx
 | z :: xs, 0, x, cs, F, h, hx => by
  simp only [iz, an] at hx
  subst hx
  obtain ⟨c1, c2, F1, F2, rfl, rfl, h1, h2⟩ := h
  exact ⟨[], c1, c2, [], F1, F2, rfl, rfl, by simp, h1, fun G' y c F' hG hy => ⟨c, c2, F', F2, rfl, rfl, hy, Ge h2 hG⟩⟩
 | z :: xs, j + 1, x, cs, F, h, hx => by
  simp only [nj] at hx
  obtain ⟨c1, c2, F1, F2, rfl, rfl, h1, h2⟩ := h
  obtain ⟨d1, d2, d3, E1, E2, E3, rfl, rfl, hl, h3, h4⟩ := eS h2 hx
  refine ⟨c1 ++ d1, d2, d3, F1 ++ E1, E2, E3, by rw [eo], by rw [eo], by rw [dw, Az.len h1, hl, kr, lu], h3, fun G' y c F' hG hy => ?_⟩
  refine ⟨c1, d1 ++ (c ++ d3), F1, E1 ++ (F' ++ E3), by rw [eo], by rw [eo], Az.frame h1 fun b hb => hG b (by simp [hb]), h4 G' y c F' (fun b hb => hG b ?_) hy⟩
  rw [eo]; exact ft _ hb
end
instance : Az Int where
 tr := fun _ x cs F => cs = [.int .i64 x] ∧ F = []
 dep := 1
 len := fun h => by obtain ⟨rfl, rfl⟩ := h; rfl
 cell := fun h => by obtain ⟨rfl, rfl⟩ := h; rfl
 frame := fun h _ => h
 bound := fun h => by obtain ⟨rfl, rfl⟩ := h; intro b hb; cases hb
 TJ := fun h lv k => by obtain ⟨rfl, rfl⟩ := h; exact ⟨[], rfl, fun b hb => hb⟩
 res := fun h _ lo d _ k X _ => by obtain ⟨rfl, rfl⟩ := h; exact ⟨_, X.1, [], [], by rw [gi]; rfl, fun _ _ => rfl, .nil, fun b hb => (by cases hb), fun _ _ => ⟨rfl, rfl⟩⟩
instance : Az Bool where
 tr := fun _ x cs F => cs = [.bool x] ∧ F = []
 dep := 1
 len := fun h => by obtain ⟨rfl, rfl⟩ := h; rfl
 cell := fun h => by obtain ⟨rfl, rfl⟩ := h; rfl
 frame := fun h _ => h
 bound := fun h => by obtain ⟨rfl, rfl⟩ := h; intro b hb; cases hb
 TJ := fun h lv k => by obtain ⟨rfl, rfl⟩ := h; exact ⟨[], rfl, fun b hb => hb⟩
 res := fun h _ lo d _ k X _ => by obtain ⟨rfl, rfl⟩ := h; exact ⟨_, X.1, [], [], by rw [gi]; rfl, fun _ _ => rfl, .nil, fun b hb => (by cases hb), fun _ _ => ⟨rfl, rfl⟩⟩
instance : Az ByteArray where
 tr := fun _ x cs F => cs = [.str x] ∧ F = []
 dep := 1
 len := fun h => by obtain ⟨rfl, rfl⟩ := h; rfl
 cell := fun h => by obtain ⟨rfl, rfl⟩ := h; rfl
 frame := fun h _ => h
 bound := fun h => by obtain ⟨rfl, rfl⟩ := h; intro b hb; cases hb
 TJ := fun h lv k => by obtain ⟨rfl, rfl⟩ := h; exact ⟨[], rfl, fun b hb => hb⟩
 res := fun h _ lo d _ k X _ => by obtain ⟨rfl, rfl⟩ := h; exact ⟨_, X.1, [], [], by rw [gi]; rfl, fun _ _ => rfl, .nil, fun b hb => (by cases hb), fun _ _ => ⟨rfl, rfl⟩⟩
instance {α : Type} [AF α] [Az α] : Az (List α) where
 tr := fun G xs cs F => (xs = [] ∧ cs = [.tl 0 []] ∧ F = []) ∨ ∃ b cells F', cs = [.sl b 0 xs.length] ∧ G[b]? = some (.cells (AF.sz α) cells) ∧ NP Az.tr G xs cells F' ∧ F = b :: F'
 dep := Az.dep α + 1
 len := fun h => by
  rcases h with ⟨rfl, rfl, rfl⟩ | ⟨b, cells, F', rfl, _⟩ <;> rfl
 cell := fun h => by
  rcases h with ⟨rfl, rfl, rfl⟩ | ⟨b, cells, F', rfl, _⟩ <;> rfl
 frame := fun h hf => by
  rcases h with ⟨rfl, rfl, rfl⟩ | ⟨b, cells, F', rfl, h1, h2, rfl⟩
  ·exact .inl ⟨rfl, rfl, rfl⟩
  ·exact .inr ⟨b, cells, F', rfl, by rw [hf b (fh ..)]; exact h1, Ge h2 fun c hc => hf c (fm _ hc), rfl⟩
 bound := fun h => by
  rcases h with ⟨rfl, rfl, rfl⟩ | ⟨b, cells, F', rfl, h1, h2, rfl⟩
  ·intro b hb; cases hb
  ·intro c hc
   rcases fi.1 hc with rfl | hc
   ·exact (du.1 h1).1
   ·exact SQ h2 c hc
 TJ := fun h lv k => by
  rcases h with ⟨rfl, rfl, rfl⟩ | ⟨b, cells, F', rfl, h1, h2, rfl⟩
  ·exact ⟨[], rfl, fun b hb => hb⟩
  ·obtain ⟨M, e, m⟩ := VL lv k h2
   refine ⟨b :: M, ?_, fun c hc => ?_⟩
   ·have hl := Ox h2
    have e0 : ¬ cells.length < 0 + cells.length := by omega
    have e1 : (qj 0 cells).take cells.length = cells := by rw [mn]; exact jy (dz _)
    simp only [Al.lendL, ← la, Al, h1]
    have e' : Al.lendL (Al lv _ (k.add (Az.dep α))) cells = _ := e
    rw [← hl, rr e0, e1, e']
    simp only [dq, ba, gi]
    rfl
   ·rcases fi.1 hc with rfl | hc
    ·exact fh ..
    ·exact fm _ (m c hc)
 res := fun {G x cs F} h hn lo d hF k X hX => by
  rcases h with ⟨rfl, rfl, rfl⟩ | ⟨b, cells, F', rfl, h1, h2, rfl⟩
  ·exact ⟨[.tl 0 []], X.1, [], [], by rw [gi, ← la]; rfl, fun _ _ => rfl, .nil, fun b hb => (by cases hb), fun _ _ => .inl ⟨rfl, rfl, rfl⟩⟩
  ·have hl := Ox h2
   have hb := hF b (fh ..)
   rw [ia] at hn
   have hXb : X.1[b]? = some (.cells (AF.sz α) cells) := by rw [hX b (fh ..)]; exact h1
   obtain ⟨c', X1, L, E, e1, s1, n1, b1, r1⟩ := Xp lo d k h2 hn.2 (fun c hc => hF c (fm _ hc)) (X.1.set b .dead, X.2) fun c hc => by
    simp only [AX]
    rw [rr (by rintro ⟨rfl, _⟩; exact hn.1 hc)]
    exact hX c (fm _ hc)
   have e0 : ¬ cells.length < 0 + cells.length := by omega
   have e2 : (qj 0 cells).take cells.length = cells := by rw [mn]; exact jy (dz _)
   refine ⟨[.sl (lo + (X.2 ++ L).length) 0 x.length], X1, L ++ [.cells (AF.sz α) c'], (lo + (X.2 ++ L).length) :: E, ?_, fun c hc => ?_, ?_, fun c hc => ?_, fun A hA => .inr ⟨_, c', E, rfl, ?_, ?_, rfl⟩⟩
   ·simp only [BO.resL, ← la, BO, rr (ib.2 hb), hXb]
    have e' : BO.resL (BO true lo d (k.add (Az.dep α))) (X.1.set b .dead, X.2) cells = _ := e1
    rw [← hl, rr e0, e2, e']
    simp only [ba, if_true]
    rw [ru ⟨trivial, trivial⟩]
    simp only [ba, dq, eo]
   ·rw [s1 c fun h => hc (fm _ h)]
    simp only [AX]
    rw [rr (by rintro ⟨rfl, _⟩; exact hc (fh ..))]
   ·rw [ia]
    refine ⟨fun h => ?_, n1⟩
    have := b1 _ h
    rw [dw] at this
    simp only at this
    omega
   ·rw [dw, jm]
    rcases fi.1 hc with rfl | hc
    ·rw [dw]; omega
    ·have := b1 c hc; simp only at this; omega
   ·rw [← eo X.2, ← eo A, fe (by rw [dw, hA]; exact dz _), show lo + (X.2 ++ L).length - (A ++ (X.2 ++ L)).length = 0 by rw [dw (as := A), hA]; omega]; rfl
   ·refine Ge (r1 A hA) fun c hc => ?_
    rw [← eo X.2, ← eo A, eh]
    rw [dw, dw, hA]
    have := b1 c hc
    simp only at this
    omega
instance {α β : Type} [AF α] [AF β] : AF (α × β) := ⟨AF.sz α + AF.sz β, Nat.add_pos_left AF.pos _, fun l x => AF.BD l x.1 ++ AF.BD l x.2, fun x => by rw [dw, AF.len, AF.len], fun x h => by rw [Bc, AF.Ej _ h, AF.Ej _ h]; rfl, fun x => by rw [gk, AF.cell, AF.cell]; rfl⟩
theorem MS {lv : Nat} {α : Type} [AF α] [Az α] {G : A5} {x : α} {cs F} (h : Az.tr G x cs F) {n : Nat} (hn : Az.dep α ≤ n) (k : Nat) : ∃ M, Al.lendL (Al lv G (k + n)) cs = some (AF.BD lv x, M) ∧ ∀ b ∈ M, b ∈ F := by
 have := Az.TJ h lv (k + (n - Az.dep α))
 rwa [show k + (n - Az.dep α) + Az.dep α = k + n by omega] at this
theorem Rv {α : Type} [AF α] [Az α] {G : A5} {x : α} {cs F} (h : Az.tr G x cs F) (hn : F.Nodup) (lo d : Nat) (hF : ∀ b ∈ F, lo ≤ b) {n : Nat} (hm : Az.dep α ≤ n) (k : Nat) (X : A5 × List Bv) (hX : ∀ b ∈ F, X.1[b]? = G[b]?) : FV (fun G => Az.tr G x) lo (BO true lo d (k + n)) cs F X := by
 have := Az.res h hn lo d hF (k + (n - Az.dep α)) X hX
 rwa [show k + (n - Az.dep α) + Az.dep α = k + n by omega] at this
instance {α β : Type} [AF α] [Az α] [AF β] [Az β] : Az (α × β) where
 tr := fun G x cs F => ∃ c1 c2 F1 F2, cs = c1 ++ c2 ∧ F = F1 ++ F2 ∧ Az.tr G x.1 c1 F1 ∧ Az.tr G x.2 c2 F2
 dep := max (Az.dep α) (Az.dep β)
 len := fun h => by obtain ⟨c1, c2, F1, F2, rfl, rfl, h1, h2⟩ := h; rw [dw, Az.len h1, Az.len h2]; rfl
 cell := fun h => by obtain ⟨c1, c2, F1, F2, rfl, rfl, h1, h2⟩ := h; rw [gk, Az.cell h1, Az.cell h2]; rfl
 frame := fun h hf => by
  obtain ⟨c1, c2, F1, F2, rfl, rfl, h1, h2⟩ := h
  exact ⟨c1, c2, F1, F2, rfl, rfl, Az.frame h1 fun b hb => hf b (ew _ hb), Az.frame h2 fun b hb => hf b (ft _ hb)⟩
 bound := fun h b hb => by
  obtain ⟨c1, c2, F1, F2, rfl, rfl, h1, h2⟩ := h
  rcases eb.1 hb with hb | hb
  ·exact Az.bound h1 b hb
  ·exact Az.bound h2 b hb
 TJ := fun h lv k => by
  obtain ⟨c1, c2, F1, F2, rfl, rfl, h1, h2⟩ := h
  obtain ⟨M1, e1, m1⟩ := MS h1 (kz _ (Az.dep β)) k
  obtain ⟨M2, e2, m2⟩ := MS h2 (km (Az.dep α) _) k
  refine ⟨M1 ++ M2, JM e1 e2, fun b hb => ?_⟩
  rcases eb.1 hb with hb | hb
  ·exact ew _ (m1 b hb)
  ·exact ft _ (m2 b hb)
 res := fun h hn lo d hF k X hX => by
  obtain ⟨c1, c2, F1, F2, rfl, rfl, h1, h2⟩ := h
  obtain ⟨n1, n2, n3⟩ := KZ hn
  refine FV.pair (fun h => Az.frame h) (Rv h1 n1 lo d (fun b hb => hF b (ew _ hb)) (kz _ _) k X fun b hb => hX b (ew _ hb)) fun Y hY => ?_
  exact Rv h2 n2 lo d (fun b hb => hF b (ft _ hb)) (km _ _) k Y fun b hb => by rw [hY b fun h => n3 b h hb]; exact hX b (ft _ hb)
abbrev Az.via {α β : Type} [AF α] [AF β] [Az β] (f : α → β) (hz : AF.sz α = AF.sz β) (he : ∀ l x, AF.BD l x = AF.BD l (f x)) : Az α where
 tr := fun G x cs F => Az.tr G (f x) cs F
 dep := Az.dep β
 len := fun h => by rw [hz]; exact Az.len h
 cell := fun h => Az.cell h
 frame := fun h hf => Az.frame h hf
 bound := fun h => Az.bound h
 TJ := fun h lv k => by rw [he]; exact Az.TJ h lv k
 res := fun h hn lo d hF k X hX => Az.res h hn lo d hF k X hX
structure BM (α β : Type) [AF α] [Az α] [AF β] [Az β] (get : α → β) (set : α → β → α) (off : Nat) : Prop where
 part : ∀ {G x cs F}, Az.tr G x cs F → ∃ c1 c2 c3 F1 F2 F3, cs = c1 ++ (c2 ++ c3) ∧ F = F1 ++ (F2 ++ F3) ∧ c1.length = off ∧ Az.tr G (get x) c2 F2 ∧
  ∀ G' y c F', (∀ b ∈ F1 ++ F3, G'[b]? = G[b]?) → Az.tr G' y c F' → Az.tr G' (set x y) (c1 ++ (c ++ c3)) (F1 ++ (F' ++ F3))
section
variable {α β γ : Type} [AF α] [Az α] [AF β] [Az β] [AF γ] [Az γ]
theorem BM.all : BM α α id (fun _ y => y) 0 := ⟨fun {G x cs F} h => ⟨[], cs, [], [], F, [], by simp, by simp, rfl, h, fun G' y c F' _ hy => by simpa using hy⟩⟩
theorem BM.fst : BM (α × β) α Prod.fst (fun x y => (y, x.2)) 0 := ⟨fun {G x cs F} h => by
 obtain ⟨c1, c2, F1, F2, rfl, rfl, h1, h2⟩ := h
 exact ⟨[], c1, c2, [], F1, F2, rfl, rfl, rfl, h1, fun G' y c F' hG hy => ⟨c, c2, F', F2, rfl, rfl, hy, Az.frame h2 hG⟩⟩⟩
theorem BM.snd : BM (α × β) β Prod.snd (fun x y => (x.1, y)) (AF.sz α) := ⟨fun {G x cs F} h => by
 obtain ⟨c1, c2, F1, F2, rfl, rfl, h1, h2⟩ := h
 exact ⟨c1, c2, [], F1, F2, [], by simp, by simp, Az.len h1, h2, fun G' y c F' hG hy => ⟨c1, c, F1, F', by simp, by simp, Az.frame h1 fun b hb => hG b (by simpa using hb), hy⟩⟩⟩
theorem BM.comp {g1 : α → β} {s1 : α → β → α} {o1 : Nat} {g2 : β → γ} {s2 : β → γ → β} {o2 : Nat} (h1 : BM α β g1 s1 o1) (h2 : BM β γ g2 s2 o2) : BM α γ (fun x => g2 (g1 x)) (fun x y => s1 x (s2 (g1 x) y)) (o1 + o2) := ⟨fun {G x cs F} h => by
 obtain ⟨c1, c2, c3, F1, F2, F3, rfl, rfl, l1, t1, b1⟩ := h1.part h
 obtain ⟨d1, d2, d3, E1, E2, E3, rfl, rfl, l2, t2, b2⟩ := h2.part t1
 refine ⟨c1 ++ d1, d2, d3 ++ c3, F1 ++ E1, E2, E3 ++ F3, by simp, by simp, by rw [dw, l1, l2], t2, fun G' y c F' hG hy => ?_⟩
 have := b1 G' (s2 (g1 x) y) (d1 ++ (c ++ d3)) (E1 ++ (F' ++ E3)) (fun b hb => hG b (by rcases eb.1 hb with h | h <;> simp [h])) (b2 G' y c F' (fun b hb => hG b (by rcases eb.1 hb with h | h <;> simp [h])) hy)
 simpa using this⟩
end
section
variable {α β γ : Type} [AF α] [AF β] [Az β] [AF γ] [Az γ]
theorem BM.via {f : α → β} {hz : AF.sz α = AF.sz β} {he : ∀ l x, AF.BD l x = AF.BD l (f x)} {g : β → γ} {s : β → γ → β} {o : Nat} {set : α → γ → α} (h : BM β γ g s o) (hs : ∀ x y, f (set x y) = s (f x) y) :
  @BM α γ _ (Az.via f hz he) _ _ (fun x => g (f x)) set o :=
 @BM.mk α γ _ (Az.via f hz he) _ _ _ _ _ fun {G x cs F} h1 => by
  obtain ⟨c1, c2, c3, F1, F2, F3, e1, e2, l1, t1, b1⟩ := h.part (x := f x) h1
  refine ⟨c1, c2, c3, F1, F2, F3, e1, e2, l1, t1, fun G' y c F' hG hy => ?_⟩
  show Az.tr G' (f (set x y)) _ _
  rw [hs]
  exact b1 G' y c F' hG hy
end
def DL {α : Type} [AF α] [Az α] (G : A5) (x : α) (cs : List V) (F : List Nat) : Prop := ∃ F', F'.Nodup ∧ (∀ b ∈ F', b ∈ F) ∧ Az.tr G x cs F'
abbrev Dl {α : Type} [AF α] [Az α] (S F : List Nat) (x : α) (cs : List V) : B8 := .tree S F fun G => DL G x cs F
section
variable {α β γ : Type} [AF α] [Az α] [AF β] [Az β] [AF γ] [Az γ] {G G' H : A5} {rs : List B8} {S F : List Nat} {x : α} {cs : List V} {v : V} {xs : List α}
theorem DL.mono (h : DL G x cs F) (hg : ∀ b ∈ F, G'[b]? = G[b]?) : DL G' x cs F := by
 obtain ⟨F', h1, h2, h3⟩ := h
 exact ⟨F', h1, h2, Az.frame h3 fun b hb => hg b (h2 b hb)⟩
theorem DL.cells (h : DL G x cs F) : cs.length = AF.sz α ∧ cs.all V.Bm = true := by
 obtain ⟨F', h1, h2, h3⟩ := h
 exact ⟨Az.len h3, Az.cell h3⟩
theorem Tk (h : DL G x cs F) (hS : ∀ b ∈ F, b < G.length ∧ (b < H.length → b ∈ S)) : (Dl S F x cs).ok H G := ⟨hS, fun G' hg => h.mono hg⟩
theorem A6.tree {j : Nat} (hO : A6 H G rs) {p : A5 → Prop} (hj : rs[j]? = some (.tree S F p)) : p G ∧ ∀ b ∈ F, b < G.length ∧ (b < H.length → b ∈ S) := by
 have h := hO.ok _ (ee hj)
 exact ⟨h.2 G fun _ _ => rfl, h.1⟩
theorem A6.lR {j : Nat} (hO : A6 H G rs) {p p' : A5 → Prop} (hj : rs[j]? = some (.tree S F p)) (hl : G'.length = G.length) (hs : ∀ b, b ∉ F → G'[b]? = G[b]?) (hp : ∀ G2, (∀ b ∈ F, G2[b]? = G'[b]?) → p' G2) :
  A6 (G'.take H.length) G' (rs.set j (.tree S F p')) := by
 have ht : (G'.take H.length).length = H.length := by rw [gh, hl]; have := hO.len; omega
 obtain ⟨hj1, zh⟩ := du.1 hj
 refine ⟨fun b hb => ?_, by rw [ht, hl]; exact hO.len, fun r hr => ?_, FP hO.apart hj fun y hy => hy⟩
 ·rw [gm, ru (by omega)]
 ·obtain ⟨i, hi, e⟩ := ij.1 hr
  rw [fa] at hi
  rw [iu] at e
  split at e
  ·subst e
   refine ⟨fun b hb => ?_, hp⟩
   rw [hl, ht]
   exact (hO.tree hj).2 b hb
  ·rename_i hij
   subst e
   refine B8.TO ht (B8.Et (hO.ok _ (gl hi)) fun y hy => hs y fun hyF => ?_)
   have hp := fx.1 hO.apart
   rcases fp i j with h | h
   ·exact hp i j hi hj1 h y hy (by rw [zh]; exact hyF)
   ·exact hp j i hj1 hi (by omega) y (by rw [zh]; exact hyF) hy
theorem R8 {j : Nat} (hO : A6 H G rs) {p : A5 → Prop} (hj : rs[j]? = some (.tree [] F p)) (hs : ∀ b, b ∉ F → G'[b]? = G[b]?) : G'.take H.length = H := by
 apply lj
 intro b
 rw [gm]
 split
 ·rename_i hb
  rw [hs b fun h => by cases ((hO.tree hj).2 b h).2 hb]
  exact hO.pre b hb
 ·rename_i hb; rw [en (by omega)]
theorem A6.tP {j : Nat} (hO : A6 H G rs) {p p' : A5 → Prop} (hj : rs[j]? = some (.tree [] F p)) (hl : G'.length = G.length) (hs : ∀ b, b ∉ F → G'[b]? = G[b]?) (hp : ∀ G2, (∀ b ∈ F, G2[b]? = G'[b]?) → p' G2) :
  A6 H G' (rs.set j (.tree [] F p')) := by
 have h := hO.lR hj hl hs hp
 rwa [R8 hO hj hs] at h
theorem BK.lR {H0 : A5} {j : Nat} (sb : BK H0 H S) (hO : A6 H G rs) {p : A5 → Prop} (hj : rs[j]? = some (.tree S F p)) (hl : G'.length = G.length) (hs : ∀ b, b ∉ F → G'[b]? = G[b]?) : BK H0 (G'.take H.length) S := by
 have ht : (G'.take H.length).length = H.length := by rw [gh, hl]; have := hO.len; omega
 refine ⟨by rw [ht]; exact sb.1, fun b hb => ?_⟩
 rw [gm]
 split
 ·rename_i sd
  rw [hs b fun h => hb (((hO.tree hj).2 b h).2 sd), hO.pre b sd]
  exact sb.2 b hb
 ·rename_i hge
  rw [← sb.2 b hb, en (by omega)]
theorem Tj {i : Int} (h : DL G xs [v] F) (hx : AR xs i = some x) : ∃ b cells F', v = .sl b 0 xs.length ∧ b ∈ F ∧ G[b]? = some (.cells (AF.sz α) cells) ∧ NP Az.tr G xs cells F' ∧ (b :: F').Nodup ∧ ∀ c ∈ F', c ∈ F := by
 obtain ⟨F', h1, h2, h3⟩ := h
 rcases h3 with ⟨rfl, _, _⟩ | ⟨b, cells, F2, e, hb, ht, rfl⟩
 ·have := Fj hx; simp at this; omega
 ·simp only [js, and_true] at e
  exact ⟨b, cells, F2, e, h2 b (fh ..), hb, ht, h1, fun c hc => h2 c (fm _ hc)⟩
theorem Xn {get : α → β} {set : α → β → α} {off : Nat} (L : BM α β get set off) {i : Int} {F} (h : NP Az.tr G xs cs F) (hx : AR xs i = some x) : ∃ c1 c2 c3 F1 F2 F3, cs = c1 ++ (c2 ++ c3) ∧ F = F1 ++ (F2 ++ F3) ∧ c1.length = i.toNat * AF.sz α + off ∧ Az.tr G (get x) c2 F2 ∧
  ∀ G' y c F', (∀ b ∈ F1 ++ F3, G'[b]? = G[b]?) → Az.tr G' y c F' → NP Az.tr G' (xs.set i.toNat (set x y)) (c1 ++ (c ++ c3)) (F1 ++ (F' ++ F3)) := by
 obtain ⟨c1, c2, c3, F1, F2, F3, rfl, rfl, l1, t1, b1⟩ := eS h (Jz hx)
 obtain ⟨d1, d2, d3, E1, E2, E3, rfl, rfl, l2, t2, b2⟩ := L.part t1
 refine ⟨c1 ++ d1, d2, d3 ++ c3, F1 ++ E1, E2, E3 ++ F3, by simp, by simp, by rw [dw, l1, l2], t2, fun G' y c F' hG hy => ?_⟩
 have := b1 G' (set x y) (d1 ++ (c ++ d3)) (E1 ++ (F' ++ E3)) (fun b hb => hG b (by rcases eb.1 hb with h | h <;> simp [h])) (b2 G' y c F' (fun b hb => hG b (by rcases eb.1 hb with h | h <;> simp [h])) hy)
 simpa using this
theorem Wj {c1 c2 c3 c : List V} (hl : c.length = c2.length) : CA (c1 ++ (c2 ++ c3)) c1.length c = c1 ++ (c ++ c3) := by
 unfold CA
 rw [List.take_left' rfl, hl, ob, ln (by omega), gu, nq, List.drop_left' rfl, eo]
theorem VO {get : α → β} {set : α → β → α} {off b : Nat} (L : BM α β get set off) {i : Int} {y : β} {w : List V} {F2 : List Nat} (h : DL G xs [v] F) (hx : AR xs i = some x) (hv : v = .sl b 0 xs.length) (hy : DL G y w F2) (hd : ∀ c ∈ F2, c ∉ F) :
  ∃ cells, b ∈ F ∧ G[b]? = some (.cells (AF.sz α) cells) ∧ i.toNat * AF.sz α + off + w.length ≤ cells.length ∧ w.all V.Bm = true ∧
   DL (G.set b (.cells (AF.sz α) (CA cells (i.toNat * AF.sz α + off) w))) (xs.set i.toNat (set x y)) [v] (F ++ F2) := by
 obtain ⟨b', cells, F', rfl, hb, hg, ht, hn, hF⟩ := Tj h hx
 cases hv
 obtain ⟨E, hE, hE2, hyt⟩ := hy
 obtain ⟨c1, c2, c3, F1, Fm, F3, rfl, rfl, l1, t1, b1⟩ := Xn L ht hx
 have hl : w.length = c2.length := by rw [Az.len hyt, Az.len t1]
 have hblt := (du.1 hg).1
 rw [ia] at hn
 obtain ⟨n1, n2⟩ := hn
 have nn := fy.1 n2
 have nn2 := fy.1 nn.2.1
 refine ⟨_, hb, hg, by simp only [dw]; omega, Az.cell hyt, b :: (F1 ++ (E ++ F3)), ?_, fun c hc => ?_, .inr ⟨b, _, _, by rw [fa], by rw [AX, ru ⟨rfl, hblt⟩], ?_, rfl⟩⟩
 ·rw [ia]
  refine ⟨fun hm => ?_, ?_⟩
  ·simp only [eb] at hm n1
   rcases hm with hm | hm | hm
   ·exact n1 (.inl hm)
   ·exact hd b (hE2 b hm) hb
   ·exact n1 (.inr (.inr hm))
  ·rw [fy, fy]
   refine ⟨nn.1, ⟨hE, nn2.2.1, fun p hp q hq e => ?_⟩, fun p hp q hq e => ?_⟩
   ·subst e; exact hd p (hE2 p hp) (hF p (by simp [hq]))
   ·subst e
    rcases eb.1 hq with hq | hq
    ·exact hd p (hE2 p hq) (hF p (by simp [hp]))
    ·exact nn.2.2 p hp p (by simp [hq]) rfl
 ·rcases fi.1 hc with rfl | hc
  ·simp [hb]
  ·simp only [eb] at hc ⊢
   rcases hc with hc | hc | hc
   ·exact .inl (hF c (by simp [hc]))
   ·exact .inr (hE2 c hc)
   ·exact .inl (hF c (by simp [hc]))
 ·rw [← l1, Wj hl]
  refine b1 _ y w E (fun c hc => ?_) (Az.frame hyt fun c hc => ?_)
  ·rw [AX, rr]
   rintro ⟨rfl, _⟩
   exact n1 (by rcases eb.1 hc with h | h <;> simp [h])
  ·rw [AX, rr]
   rintro ⟨rfl, _⟩
   exact hd b (hE2 b hc) hb
structure ZF (G : A5) (R : A5 → β → Prop) (F : List Nat) (cs : List V) (Fs : List Nat) (y : β) : Prop where
 tr : DL G y cs Fs
 sub : ∀ b ∈ Fs, b ∈ F
 fr : ∀ G G' y, R G y → (∀ b ∈ F, G'[b]? = G[b]?) → R G' y
 back : ∀ G' y', (∀ b, b ∉ Fs → G'[b]? = G[b]?) → DL G' y' cs Fs → R G' y'
theorem Wn {get : α → β} {set : α → β → α} {off : Nat} (L : BM α β get set off) (h : DL G x cs F) : ∃ c1 c2 c3 Fs, cs = c1 ++ (c2 ++ c3) ∧ c1.length = off ∧ c2.length = AF.sz β ∧ ZF G (fun G' y => DL G' (set x y) cs F) F c2 Fs (get x) := by
 obtain ⟨F', n, hF, ht⟩ := h
 obtain ⟨c1, c2, c3, F1, F2, F3, rfl, rfl, l1, t1, b1⟩ := L.part ht
 have nn := fy.1 n
 have nn2 := fy.1 nn.2.1
 refine ⟨c1, c2, c3, F2, rfl, l1, Az.len t1, ⟨F2, nn2.1, fun _ h => h, t1⟩, fun b hb => hF b (by simp [hb]), fun G G' y hR hg => hR.mono hg, fun G' y' hs hy => ?_⟩
 obtain ⟨E, e1, e2, e3⟩ := hy
 refine ⟨F1 ++ (E ++ F3), ?_, fun b hb => ?_, b1 G' y' c2 E (fun b hb => hs b fun h => ?_) e3⟩
 ·rw [fy, fy]
  refine ⟨nn.1, ⟨e1, nn2.2.1, fun p hp q hq => nn2.2.2 p (e2 p hp) q hq⟩, fun p hp q hq => nn.2.2 p hp q ?_⟩
  rcases eb.1 hq with h | h
  ·simp [e2 q h]
  ·simp [h]
 ·simp only [eb] at hb
  rcases hb with h | h | h
  ·exact hF b (by simp [h])
  ·exact hF b (by simp [e2 b h])
  ·exact hF b (by simp [h])
 ·rcases eb.1 hb with h' | h'
  ·exact nn.2.2 b h' b (by simp [h]) rfl
  ·exact nn2.2.2 b h b h' rfl
theorem eF {get : α → β} {set : α → β → α} {off b : Nat} (L : BM α β get set off) {i : Int} (h : DL G xs [v] F) (hx : AR xs i = some x) (hv : v = .sl b 0 xs.length) :
  ∃ cells c1 c2 c3 Fs, G[b]? = some (.cells (AF.sz α) cells) ∧ cells = c1 ++ (c2 ++ c3) ∧ c1.length = i.toNat * AF.sz α + off ∧ c2.length = AF.sz β ∧ ZF G (fun G' y => DL G' (xs.set i.toNat (set x y)) [v] F) F c2 Fs (get x) := by
 obtain ⟨b', cells, F', rfl, hb, hg, ht, hn, hF⟩ := Tj h hx
 cases hv
 obtain ⟨c1, c2, c3, F1, F2, F3, rfl, rfl, l1, t1, b1⟩ := Xn L ht hx
 rw [ia] at hn
 obtain ⟨n1, n⟩ := hn
 have nn := fy.1 n
 have nn2 := fy.1 nn.2.1
 refine ⟨_, c1, c2, c3, F2, hg, rfl, l1, Az.len t1, ⟨F2, nn2.1, fun _ h => h, t1⟩, fun c hc => hF c (by simp [hc]), fun G G' y hR hg => hR.mono hg, fun G' y' hs hy => ?_⟩
 obtain ⟨E, e1, e2, e3⟩ := hy
 refine ⟨b :: (F1 ++ (E ++ F3)), ?_, fun c hc => ?_, .inr ⟨b, _, _, by rw [fa], ?_, b1 G' y' c2 E (fun c hc => hs c fun h => ?_) e3, rfl⟩⟩
 ·rw [ia, fy, fy]
  refine ⟨fun hm => n1 ?_, nn.1, ⟨e1, nn2.2.1, fun p hp q hq => nn2.2.2 p (e2 p hp) q hq⟩, fun p hp q hq => nn.2.2 p hp q ?_⟩
  ·simp only [eb] at hm ⊢
   rcases hm with h | h | h
   ·exact .inl h
   ·exact .inr (.inl (e2 b h))
   ·exact .inr (.inr h)
  ·rcases eb.1 hq with h | h
   ·simp [e2 q h]
   ·simp [h]
 ·rcases fi.1 hc with rfl | hc
  ·exact hb
  ·simp only [eb] at hc
   rcases hc with h | h | h
   ·exact hF c (by simp [h])
   ·exact hF c (by simp [e2 c h])
   ·exact hF c (by simp [h])
 ·rw [hs b fun h => n1 (by simp [h])]; exact hg
 ·rcases eb.1 hc with h' | h'
  ·exact nn.2.2 c h' c (by simp [h]) rfl
  ·exact nn2.2.2 c h c h' rfl
theorem nA (h : DL G xs [v] F) : D4 v = some xs.length := by
 obtain ⟨F', _, _, ⟨rfl, e, _⟩ | ⟨b, cells, F2, e, _⟩⟩ := h
 ·cases e; rfl
 ·cases e; rfl
theorem YV {f : V → Option (V × List Nat)} {v v' : V} {M : List Nat} (h : Al.lendL f [v] = some ([v'], M)) : f v = some (v', M) := by
 simp only [Al.lendL, dj, dn, Prod.exists, dk, an] at h
 obtain ⟨a, M1, h1, b, M2, ⟨rfl, rfl⟩, h3, rfl⟩ := h
 simp only [js, and_true] at h3
 subst h3
 rw [h1, gi]
theorem Ru {j : Nat} (hO : A6 H G rs) (hj : rs[j]? = some (Dl S F xs [v])) (lv n : Nat) (hn : jn (Az.dep (List α)) n = true := by rfl) : ∃ M, Al lv G n v = some (.lit lv xs.length (AB lv xs), M) := by
 obtain ⟨F', _, _, h⟩ := (hO.tree hj).1
 obtain ⟨M, h1, _⟩ := MS (lv := lv) h (fb hn) 0
 rw [kb] at h1
 exact ⟨M, YV h1⟩
theorem Qa {j : Nat} (hO : A6 H G rs) (hj : rs[j]? = some (Dl S F x cs)) (lv n : Nat) (hn : jn (Az.dep α) n = true := by rfl) : ∃ M, Al lv G (n + 1) (.agg cs) = some (.agg (AF.BD lv x), M) := by
 obtain ⟨F', _, _, h⟩ := (hO.tree hj).1
 obtain ⟨M, h1, _⟩ := MS (lv := lv) h (fb hn) 0
 rw [kb] at h1
 exact ⟨M, by rw [Al, h1]; rfl⟩
end
section steps
variable {P : ep} {h : BX} {fk n base : Nat} {lk : Lk} {c : Cx} {ops : Array fc} {s kk : Bool} {d : Nat} {ty : ea} {pos : String} {aft : Array Edge} {l : List (Bool × Bool × fc)} {Q : St → Prop} {T : Nat → V} {G G' H H0 : A5} {rs : List B8} {op : Op} {S F : List Nat}
variable {α β : Type} [AF α] [Az α] [AF β] [Az β]
theorem Kc {xs : List α} {i : Int} {x : α} {t e : ea} {y z : ed} {kd : jo} {v : V} (hO : A6 H G rs) (j : Nat) (hc : AR xs i = some x) (he : B0 P t = some e) (hz : B3 P e = some (AF.sz α)) (k : ∀ b, v = .sl b 0 xs.length → BZ (Ar P h fk n base lk) ops l ⟨D6 T d (.ptr b (i.toNat * AF.sz α)), G⟩ Q)
  (h1 : ev T y = some v := by rfl) (h2 : ev T z = some (.int kd i) := by rfl) (hj : rs[j]? = some (Dl S F xs [v]) := by rfl) (hd : fj d n = true := by rfl) :
  BZ (Ar P h fk n base lk) ops ((s, kk, ⟨some d, .indexAddr t y z, ty, pos, aft, none⟩) :: l) ⟨T, G⟩ Q := by
 obtain ⟨b, cells, F', rfl, _⟩ := Tj (hO.tree hj).1 hc
 refine pV ?_ hd (k b rfl)
 rw [Ef]
 show (B0 P t).bind _ = _
 rw [he, ba]
 show (B3 P e).bind _ = _
 simp only [hz, h1, h2, ba, asInt, RO, D4]
 rw [ru (Fj hc)]
 simp
theorem Ku {xs : List α} {x : ed} {t : ea} {v : V} (hO : A6 H G rs) (j : Nat) (ht : IA P t = some false) (k : BZ (Ar P h fk n base lk) ops l ⟨D6 T d (.int .i64 xs.length), G⟩ Q) (h1 : ev T x = some v := by rfl) (hj : rs[j]? = some (Dl S F xs [v]) := by rfl) (hd : fj d n = true := by rfl) :
  BZ (Ar P h fk n base lk) ops ((s, kk, ⟨some d, .call ⟨.builtin .len, #[x], #[t]⟩, ty, pos, aft, none⟩) :: l) ⟨T, G⟩ Q := by
 refine BE (b := false) (a := v) ht k h1 ?_ hd
 have := nA (hO.tree hj).1
 cases v <;> first | exact this | simp [D4] at this
theorem Kg {sz m off b : Nat} {t : ea} {y z : ed} {w : V} (hz : B3 P t = some m) {cells : List V} (hm : ((Ar P h fk n base lk).Ay s kk).Bi b = true)
  (hgv : (if b < base then (if h.grow fk then if BS 1 w then some (w, G) else none else AV base Ba G w) else some (w, G)) = some (w, G)) (hg : G[b]? = some (.cells sz cells)) (hf : off + w.cellsOf.length ≤ cells.length) (hl : w.cellsOf.length = m) (hc : w.cellsOf.all V.Bm = true)
  (h1 : ev T y = some (.ptr b off)) (h2 : ev T z = some w) : He ((Ar P h fk n base lk).Ay s kk) (.store t y z) ⟨T, G⟩ = some (CT, G.set b (.cells sz (CA cells off w.cellsOf))) := by
 rw [Ka]
 simp only [h1, h2, ba, G0]
 rw [ru hm]
 have e : (if b < ((Ar P h fk n base lk).Ay s kk).base then (if ((Ar P h fk n base lk).Ay s kk).hints.grow ((Ar P h fk n base lk).Ay s kk).fn then if BS 1 w then some (w, G) else none else AV ((Ar P h fk n base lk).Ay s kk).base Ba G w) else some (w, G)) = some (w, G) := hgv
 rw [e]
 simp only [ba, hg]
 rw [ru ⟨by rw [hl]; exact hz, hf, hc⟩]
 rfl
theorem Ni {get : α → β} {set : α → β → α} {off b : Nat} (L : BM α β get set off) {xs : List α} {i : Int} {x : α} {t : ea} {y z : ed} {v w : V} {y' : β} (hO : A6 H G rs) (j : Nat) (hv : v = .sl b 0 xs.length) (hc : AR xs i = some x) (hz : B3 P t = some (AF.sz β)) (hw : ∀ G, Az.tr G y' [w] [])
  (sb : BK H0 H S) (hS : ∀ b ∈ S, AT lk b = true) (hb : base = H0.length) (k : ∀ H' G', BK H0 H' S → A6 H' G' (rs.set j (Dl S F (xs.set i.toNat (set x y')) [v])) → BZ (Ar P h fk n base lk) ops l ⟨T, G'⟩ Q)
  (h1 : ev T y = some (.ptr b (i.toNat * AF.sz α + off)) := by rfl) (h2 : ev T z = some w := by rfl) (hg : h.grow fk = false := by rfl) (hgv : AV base Ba G w = some (w, G) := by rfl) (h3 : w.cellsOf = [w] := by rfl) (hj : rs[j]? = some (Dl S F xs [v]) := by rfl) :
  BZ (Ar P h fk n base lk) ops ((s, kk, ⟨none, .store t y z, ty, pos, aft, none⟩) :: l) ⟨T, G⟩ Q := by
 obtain ⟨ht, xg⟩ := hO.tree hj
 obtain ⟨cells, hbF, xw, wh, vh, zp⟩ := VO (F2 := []) L ht hc hv ⟨[], .nil, fun _ h => h, hw G⟩ (fun _ h => by cases h)
 have sd := (du.1 xw).1
 have hlw : [w].length = AF.sz β := Az.len (hw G)
 rw [gi] at zp
 have hs : ∀ c, c ∉ F → (G.set b (.cells (AF.sz α) (CA cells (i.toNat * AF.sz α + off) [w])))[c]? = G[c]? := fun c hc => by
  rw [AX, rr]
  rintro ⟨rfl, _⟩; exact hc hbF
 refine fF (Kg hz ?_ ?_ xw (by rw [h3]; exact wh) (by rw [h3]; exact hlw) (by rw [h3]; exact vh) h1 h2) (k _ _ (sb.lR hO hj (fa ..) hs) ?_)
 ·have tj : base = H.length := hb.trans sb.1.symm
  subst tj
  exact Mf hS (xg b hbF).2
 ·rw [hg, hgv]; simp
 ·rw [h3]
  exact hO.lR hj (fa ..) hs fun G2 h2 => zp.mono h2
theorem uH {b : Nat} {xs : List α} {i : Int} {x y' : α} {t : ea} {y z : ed} {v w : V} {F2 : List Nat} {cs : List V} (hO : A6 H G (Dl [] F2 y' cs :: rs)) (j : Nat) (hv : v = .sl b 0 xs.length) (hc : AR xs i = some x) (hz : B3 P t = some (AF.sz α))
  (hb : base = H.length) (k : ∀ G', A6 H G' (rs.set j (Dl [] (F ++ F2) (xs.set i.toNat y') [v])) → BZ (Ar P h fk n base lk) ops l ⟨T, G'⟩ Q)
  (h1 : ev T y = some (.ptr b (i.toNat * AF.sz α)) := by rfl) (h2 : ev T z = some w := by rfl) (h3 : w.cellsOf = cs := by rfl) (hj : rs[j]? = some (Dl [] F xs [v]) := by rfl) :
  BZ (Ar P h fk n base lk) ops ((s, kk, ⟨none, .store t y z, ty, pos, aft, none⟩) :: l) ⟨T, G⟩ Q := by
 have zg : (Dl [] F2 y' cs :: rs)[j + 1]? = some (Dl [] F xs [v]) := hj
 obtain ⟨ht, xg⟩ := hO.tree zg
 obtain ⟨ht2, hbd2⟩ := hO.tree (j := 0) (F := F2) (S := []) rfl
 obtain ⟨hj1, zh⟩ := du.1 hj
 have za : ∀ c ∈ F2, c ∉ F := fun c hc wq => (il.1 hO.apart).1 _ (ee hj) c hc wq
 obtain ⟨cells, hbF, xw, wh, vh, zp⟩ := VO BM.all ht hc hv ht2 za
 obtain ⟨hlw, _⟩ := ht2.cells
 have tj : ¬ b < base := fun h => by rw [hb] at h; cases (xg b hbF).2 h
 have hs : ∀ c, c ∉ F → (G.set b (.cells (AF.sz α) (CA cells (i.toNat * AF.sz α + 0) cs)))[c]? = G[c]? := fun c hc => by
  rw [AX, rr]
  rintro ⟨rfl, _⟩; exact hc hbF
 subst h3
 refine fF (Kg hz ?_ (rr tj) xw (by simpa using wh) hlw vh h1 h2) (k _ ?_)
 ·unfold Cx.Bi
  simp only [gg, ry]
  exact .inl (ib.1 tj)
 ·obtain ⟨hO1, hO2, hO3, hO4⟩ := hO
  have sd := (du.1 xw).1
  have hp := fx.1 (il.1 hO4).2
  refine ⟨fun c hc => ?_, by rw [fa]; exact hO2, fun r hr => ?_, ?_⟩
  ·rw [AX, rr]
   ·exact hO1 c hc
   ·rintro ⟨rfl, _⟩; exact tj (by rw [hb]; exact hc)
  ·obtain ⟨q, hq, e⟩ := ij.1 hr
   rw [fa] at hq
   rw [iu] at e
   split at e
   ·subst e
    refine Tk zp fun c hc => ?_
    rw [fa]
    rcases eb.1 hc with hc | hc
    ·exact xg c hc
    ·exact hbd2 c hc
   ·rename_i hjq
    subst e
    refine B8.Et (hO3 _ (fm _ (gl hq))) fun c hc => hs c fun hcF => ?_
    rcases fp q j with h | h
    ·exact hp q j hq hj1 h c hc (by rw [zh]; exact hcF)
    ·exact hp j q hj1 hq (by omega) c (by rw [zh]; exact hcF) hc
  ·rw [fx]
   have key : ∀ q (hq : q < rs.length), q ≠ j → ∀ c ∈ F ++ F2, c ∉ rs[q].CP := fun q hq hqj c hc wq => by
    rcases eb.1 hc with hc | hc
    ·rcases fp q j with h | h
     ·exact hp q j hq hj1 h c wq (by rw [zh]; exact hc)
     ·exact hp j q hj1 hq (by omega) c (by rw [zh]; exact hc) wq
    ·exact (il.1 hO4).1 _ (gl hq) c hc wq
   intro p q hp' hq' hpq c hc wq
   rw [fa] at hp' hq'
   rw [iu] at hc wq
   split at hc
   ·rename_i e; subst e
    rw [rr (by omega)] at wq
    exact key q hq' (by omega) c hc wq
   ·split at wq
    ·rename_i e; subst e
     exact key p hp' (by omega) c wq hc
    ·exact hp p q hp' hq' hpq c hc wq
theorem nJ {γ : Type} [AF γ] [Az γ] {get : α → List γ} {set : α → List γ → α} {off b : Nat} (L : BM α (List γ) get set off) {xs : List α} {i : Int} {x : α} {t : ea} {y : ed} {v : V} (hO : A6 H G rs) (j : Nat) (hv : v = .sl b 0 xs.length) (hc : AR xs i = some x) (ha : D7 P t = some false)
  (k : ∀ u Fs, ZF G (fun G' y => DL G' (xs.set i.toNat (set x y)) [v] F) F [u] Fs (get x) → BZ (Ar P h fk n base lk) ops l ⟨D6 T d u, G⟩ Q) (h1 : ev T y = some (.ptr b (i.toNat * AF.sz α + off)) := by rfl) (hj : rs[j]? = some (Dl S F xs [v]) := by rfl) (hd : fj d n = true := by rfl) :
  BZ (Ar P h fk n base lk) ops ((s, kk, ⟨some d, .load t y, ty, pos, aft, none⟩) :: l) ⟨T, G⟩ Q := by
 obtain ⟨cells, c1, c2, c3, Fs, hg, rfl, hl, ye, hs⟩ := eF L (hO.tree hj).1 hc hv
 obtain ⟨u, rfl⟩ := nh.1 (show c2.length = 1 from ye)
 refine oE u hg ?_ (k u Fs hs) h1 hd
 unfold BN
 rw [ha]
 show (c1 ++ ([u] ++ c3))[i.toNat * AF.sz α + off]? = some u
 rw [← hl, fe (dz _), kh]; rfl
theorem rG {γ : Type} [AF γ] [Az γ] {get : α → List γ} {set : α → List γ → α} {off b m : Nat} (L : BM α (List γ) get set off) {x : α} {cs : List V} {t : ea} {y : ed} (hO : A6 H G rs) (jb j : Nat) (ha : D7 P t = some false)
  (k : ∀ u Fs, ZF G (fun G' y => DL G' (set x y) cs F) F [u] Fs (get x) → BZ (Ar P h fk n base lk) ops l ⟨D6 T d u, G⟩ Q) (h1 : ev T y = some (.ptr b off) := by rfl) (hjb : rs[jb]? = some (.Au b (.cells m cs)) := by rfl) (hj : rs[j]? = some (Dl S F x cs) := by rfl) (hd : fj d n = true := by rfl) :
  BZ (Ar P h fk n base lk) ops ((s, kk, ⟨some d, .load t y, ty, pos, aft, none⟩) :: l) ⟨T, G⟩ Q := by
 obtain ⟨c1, c2, c3, Fs, rfl, hl, ye, hs⟩ := Wn L (hO.tree hj).1
 obtain ⟨u, rfl⟩ := nh.1 (show c2.length = 1 from ye)
 refine oE u (hO.get hjb).1 ?_ (k u Fs hs) h1 hd
 unfold BN
 rw [ha]
 show (c1 ++ ([u] ++ c3))[off]? = some u
 rw [← hl, fe (dz _), kh]; rfl
theorem rC {x : α} {cs : List V} {t : ea} {y : ed} (hO : A6 H G rs) (j : Nat) (hz : B3 P t = some (AF.sz α)) (k : ∀ b G', A6 H G' (.Au b (.cells (AF.sz α) cs) :: rs) → BZ (Ar P h fk n base lk) ops l ⟨D6 T d (.ptr b 0), G'⟩ Q) (h1 : ev T y = some (.agg cs) := by rfl) (hj : rs[j]? = some (Dl S F x cs) := by rfl) (hd : fj d n = true := by rfl) :
  BZ (Ar P h fk n base lk) ops ((s, kk, ⟨some d, .box t y, ty, pos, aft, none⟩) :: l) ⟨T, G⟩ Q := by
 obtain ⟨e1, e2⟩ := (hO.tree hj).1.cells
 refine pV ?_ hd (k _ _ (hO.alloc (.cells (AF.sz α) cs)))
 rw [XP]
 show (B3 P t).bind _ = _
 simp only [hz, h1, ba, V.cellsOf, e2, if_true]
def ZM (a b : ByteArray) : Option ByteArray := if a.size + b.size ≤ 1099511627776 then some (a ++ b) else none
theorem rF {t t2 : ea} {x y : ed} {a b cc : ByteArray} (hc : ZM a b = some cc) (k : BZ (Ar P h fk n base lk) ops l ⟨D6 T d (.str cc), G⟩ Q) (h1 : ev T x = some (.str a) := by rfl) (h2 : ev T y = some (.str b) := by rfl) (hd : fj d n = true := by rfl) :
  BZ (Ar P h fk n base lk) ops ((s, kk, ⟨some d, .binOp .add t x y t2, ty, pos, aft, none⟩) :: l) ⟨T, G⟩ Q := by
 refine pB k h1 h2 ?_ hd
 unfold ZM at hc
 split at hc
 ·rename_i hr
  simp only [an] at hc
  subst hc
  exact ru hr
 ·cases hc
structure U8 where
 n : Int
instance : AF U8 := ⟨1, ig, fun _ x => [.int .u8 x.n], fun _ => rfl, fun _ _ => rfl, fun _ => rfl⟩
def Ve (ys : List U8) : ByteArray := ys.foldl (fun r y => r.push (UInt8.ofNat y.n.toNat)) ByteArray.empty
theorem U0 : ∀ (ys : List U8) (acc : ByteArray), Jp acc ((AB 0) ys) = some (ys.foldl (fun r y => r.push (UInt8.ofNat y.n.toNat)) acc)
 | [], acc => rfl
 | y :: ys, acc => by
  show Jp (acc.push (UInt8.ofNat y.n.toNat)) ((AB 0) ys) = _
  rw [U0 ys]; rfl
theorem uC {src dst e : ea} {x : ed} {ys : List U8} (h1 : P.underlying src = some (.slice e)) (h2 : P.underlying dst = some .string) (he : P.underlying e = some (.int .u8)) (k : BZ (Ar P h fk n base lk) ops l ⟨D6 T d (.str (Ve ys)), G⟩ Q)
  (hx : ev T x = some (.tl ys.length ((AB 0) ys)) := by rfl) (hd : fj d n = true := by rfl) :
  BZ (Ar P h fk n base lk) ops ((s, kk, ⟨some d, .convert src dst x, ty, pos, aft, none⟩) :: l) ⟨T, G⟩ Q := by
 refine pV ?_ hd k
 unfold He Cn
 have h1' : ((Ar P h fk n base lk).Ay s kk).P.underlying src = some (.slice e) := h1
 have h2' : ((Ar P h fk n base lk).Ay s kk).P.underlying dst = some .string := h2
 have he' : tI ((Ar P h fk n base lk).Ay s kk).P e = true := by unfold tI; rw [show ((Ar P h fk n base lk).Ay s kk).P.underlying e = some (.int .u8) from he]
 simp only [h1', h2', hx]
 rw [ru ⟨by rw [By]; show _ = ys.length * 1; omega, he'⟩, U0]
 rfl
end steps
section
variable {P : ep} {h : BX} {fk n base : Nat} {lk : Lk} {c : Cx} {ops : Array fc} {s kk : Bool} {d : Nat} {ty : ea} {pos : String} {aft : Array Edge} {l : List (Bool × Bool × fc)} {Q : St → Prop} {T : Nat → V} {G G' H H0 : A5} {rs : List B8} {op : Op} {S F : List Nat}
variable {α β : Type} [AF α] [Az α] [AF β] [Az β]
theorem Jc {lk : Lk} {b : Nat} (h : AT lk b = true) : AT (lk ++ [[]]) b = true := by
 unfold AT at h ⊢
 rw [gk, h]; rfl
theorem EK.qI {lk : Lk} {n b : Nat} (h : EK lk n) (hb : n ≤ b) : AT lk b = true := by
 unfold AT
 rw [gb]
 intro l hl
 simp only [jj, ← qi, pj]
 intro hx
 exact absurd (h l hl b hx) (ib.2 hb)
theorem U1 {f : ed} {args : Array ed} {ats : Array ea} {g : jc} {caps vs so : List V} {r : V} (hr : Aw P h g so G (lk ++ [[]]) = some (r, G')) (h1 : ev T f = some (.fn g caps)) (h2 : Ld T args.toList = some vs)
  (h3 : AW ((Ar P h fk n base lk).Ay s false) (h.Df g) G (vs ++ caps) = some (so, [], G)) (hg : h.grow g = false) : He ((Ar P h fk n base lk).Ay s false) (.call ⟨.value f, args, ats⟩) ⟨T, G⟩ = some (r, G') := by
 rw [GF]
 simp only [h1, h2, ba, Pz]
 show (AW ((Ar P h fk n base lk).Ay s false) (h.Df g) G (vs ++ caps)).bind _ = _
 rw [h3]
 have e : ((Ar P h fk n base lk).Ay s false).C6 g [] G = [] := by
  unfold Cx.C6
  have e1 : ((Ar P h fk n base lk).Ay s false).calm = false := rfl
  have e2 : ((Ar P h fk n base lk).Ay s false).hints.grow g = false := hg
  rw [e1, e2]; rfl
 simp only [ba, e]
 exact hr
theorem jB {f : ed} {args : Array ed} {ats : Array ea} {g : jc} {vs so cs : List V} {r : V} {R : A5 → β → Prop} {Fs : List Nat} {y y' : β} {p : A5 → Prop} (hO : A6 H G rs) (j : Nat) (tc : ZF G R F cs Fs y) (hF : ∀ b ∈ F, b ∈ S) (sb : BK H0 H S) (hS : ∀ b ∈ S, AT lk b = true)
  (hr : (∀ b ∈ Fs, b < G.length) → (∀ b ∈ Fs, AT (lk ++ [[]]) b = true) → DL G y cs Fs → ∃ v H1, Aw P h g so G (lk ++ [[]]) = some (v, H1) ∧ v = r ∧ DL H1 y' cs Fs ∧ H1.length = G.length ∧ ∀ b, b ∉ Fs → H1[b]? = G[b]?)
  (k : ∀ H' G', BK H0 H' S → A6 H' G' (rs.set j (.tree S F fun G => R G y')) → BZ (Ar P h fk n base lk) ops l ⟨D6 T d r, G'⟩ Q)
  (hj : rs[j]? = some (.tree S F p) := by rfl) (h1 : ev T f = some (.fn g []) := by rfl) (h2 : Ld T args.toList = some vs := by rfl) (h3 : AW ((Ar P h fk n base lk).Ay s false) (h.Df g) G (vs ++ []) = some (so, [], G) := by rfl) (hg : h.grow g = false := by rfl) (hd : fj d n = true := by rfl) :
  BZ (Ar P h fk n base lk) ops ((s, false, ⟨some d, .call ⟨.value f, args, ats⟩, ty, pos, aft, none⟩) :: l) ⟨T, G⟩ Q := by
 obtain ⟨v, H1, hv, rfl, ht, hl, hs⟩ := hr (fun b hb => ((hO.tree hj).2 b (tc.sub b hb)).1) (fun b hb => Jc (hS b (hF b (tc.sub b hb)))) tc.tr
 have yh : ∀ b, b ∉ F → H1[b]? = G[b]? := fun b hb => hs b fun h => hb (tc.sub b h)
 exact pV (U1 hv h1 h2 h3 hg) hd (k _ _ (sb.lR hO hj hl yh) (hO.lR hj hl yh fun G2 h2 => tc.fr _ _ _ (tc.back H1 y' hs ht) h2))
theorem nH {f : ed} {args : Array ed} {ats : Array ea} {g : jc} {vs so cs : List V} {r : V} {R : A5 → β → Prop} {Fs : List Nat} {y y' : β} {p : A5 → Prop} (hO : A6 H G rs) (j : Nat) (tc : ZF G R F cs Fs y) (hlo : EK lk H.length)
  (hr : (∀ b ∈ Fs, b < G.length) → (∀ b ∈ Fs, AT (lk ++ [[]]) b = true) → DL G y cs Fs → ∃ v H1, Aw P h g so G (lk ++ [[]]) = some (v, H1) ∧ v = r ∧ DL H1 y' cs Fs ∧ H1.length = G.length ∧ ∀ b, b ∉ Fs → H1[b]? = G[b]?)
  (k : ∀ G', A6 H G' (rs.set j (.tree [] F fun G => R G y')) → BZ (Ar P h fk n base lk) ops l ⟨D6 T d r, G'⟩ Q)
  (hj : rs[j]? = some (.tree [] F p) := by rfl) (h1 : ev T f = some (.fn g []) := by rfl) (h2 : Ld T args.toList = some vs := by rfl) (h3 : AW ((Ar P h fk n base lk).Ay s false) (h.Df g) G (vs ++ []) = some (so, [], G) := by rfl) (hg : h.grow g = false := by rfl) (hd : fj d n = true := by rfl) :
  BZ (Ar P h fk n base lk) ops ((s, false, ⟨some d, .call ⟨.value f, args, ats⟩, ty, pos, aft, none⟩) :: l) ⟨T, G⟩ Q := by
 have hun : ∀ b ∈ F, AT lk b = true := fun b hb => hlo.qI (ib.1 fun h => by cases ((hO.tree hj).2 b hb).2 h)
 obtain ⟨v, H1, hv, rfl, ht, hl, hs⟩ := hr (fun b hb => ((hO.tree hj).2 b (tc.sub b hb)).1) (fun b hb => Jc (hun b (tc.sub b hb))) tc.tr
 have yh : ∀ b, b ∉ F → H1[b]? = G[b]? := fun b hb => hs b fun h => hb (tc.sub b h)
 exact pV (U1 hv h1 h2 h3 hg) hd (k _ (hO.tP hj hl yh fun G2 h2 => tc.fr _ _ _ (tc.back H1 y' hs ht) h2))
theorem ZF.all {j : Nat} {x : α} {cs : List V} (hO : A6 H G rs) (hj : rs[j]? = some (Dl S F x cs)) : ZF G (fun G' y => DL G' y cs F) F cs F x :=
 ⟨(hO.tree hj).1, fun _ h => h, fun _ _ _ hR hg => hR.mono hg, fun _ _ _ h => h⟩
theorem Dg {x : α} {cs : List V} (h : DL H x cs F) (hF : ∀ b ∈ F, b < H.length) : A6 H H [Dl F F x cs] where
 pre := fun _ _ => rfl
 len := dz _
 ok := fun r hr => by
  simp only [dt] at hr
  subst hr
  exact Tk h fun b hb => ⟨hF b hb, fun _ => hb⟩
 apart := List.pairwise_singleton ..
theorem Pv {x : α} {cs : List V} {k d : Nat} {lr : List ir} {vs : List V} {v : V} {xx : X} (hO : A6 H G rs) (j : Nat) (sb : BK H0 H F) (hF : ∀ b ∈ F, b < H0.length) (hj : rs[j]? = some (Dl F F x cs) := by rfl) (h1 : BP P G T lr = some vs := by rfl) (h2 : FT vs = v := by rfl)
  (h3 : BO (h.Ti k) H0.length d Ba (G, []) v = some (v, (G, [])) := by rfl) (hg : h.grow k = false := by rfl) (hx : xx = .normal ∨ xx = .ret := by first | exact Or.inl rfl | exact Or.inr rfl) :
  VV P h k H0.length d lr (fun v1 H1 => v1 = v ∧ DL H1 x cs F ∧ H1.length = H0.length ∧ ∀ b, b ∉ F → H1[b]? = H0[b]?) xx ⟨T, G⟩ := by
 have hl : H0.length ≤ G.length := by rw [← sb.1]; exact hO.len
 refine ⟨hx, v, G.take H0.length, ?_, rfl, (hO.tree hj).1.mono fun b hb => ?_, by rw [gh]; omega, fun b hb => ?_⟩
 ·simp only [h1, ba, h2, En, hg, ei, if_false, h3, dq, gi]
 ·rw [gm, ru (hF b hb)]
 ·rw [gm]
  split
  ·rename_i sd
   rw [hO.pre b (by rw [sb.1]; exact sd)]
   exact sb.2 b hb
  ·rename_i hge
   rw [en (by omega)]
def RB {α : Type} [AF α] [Az α] (n : Nat) (H : A5) (d : Nat) (rs : List B8) (cs : List V) (x : α) (uz : List B8) : Prop := ∀ X : A5 × List Bv, A6 H X.1 rs → ∀ k, ∃ sk X1 L F', BO.resL (BO true H.length d (k + n)) X cs = some (sk, X1, X.2 ++ L) ∧ A6 H X1 uz ∧ F'.Nodup ∧
 (∀ b ∈ F', H.length + X.2.length ≤ b ∧ b < H.length + X.2.length + L.length) ∧ ∀ A : A5, A.length = H.length → Az.tr (A ++ (X.2 ++ L)) x sk F'
variable {rs1 rs2 : List B8} {dd : Nat}
theorem nR (x : Int) : RB 1 H dd rs [.int .i64 x] x rs := fun X hO k => ⟨_, X.1, [], [], by rw [gi]; rfl, hO, .nil, fun b hb => (by cases hb), fun _ _ => ⟨rfl, rfl⟩⟩
theorem nS (x : ByteArray) : RB 1 H dd rs [.str x] x rs := fun X hO k => ⟨_, X.1, [], [], by rw [gi]; rfl, hO, .nil, fun b hb => (by cases hb), fun _ _ => ⟨rfl, rfl⟩⟩
theorem lI {n m : Nat} (hm : n ≤ m) {cs : List V} {x : α} (h : RB n H dd rs cs x rs1) : RB m H dd rs cs x rs1 := fun X hO k => by
 have := h X hO (k + (m - n))
 rwa [show k + (m - n) + n = k + m by omega] at this
theorem Th {n m : Nat} {c1 c2 : List V} {x : α} {y : β} (h1 : RB n H dd rs c1 x rs1) (h2 : RB m H dd rs1 c2 y rs2) : RB (max n m) H dd rs (c1 ++ c2) (x, y) rs2 := fun X hO k => by
 obtain ⟨c1', X1, L1, F1, e1, o1, n1, b1, r1⟩ := lI (kz n m) h1 X hO k
 obtain ⟨c2', X2, L2, F2, e2, o2, n2, b2, r2⟩ := lI (km n m) h2 (X1, X.2 ++ L1) o1 k
 simp only [dw] at b2
 refine ⟨c1' ++ c2', X2, L1 ++ L2, F1 ++ F2, by rw [← eo]; exact KD e1 e2, o2, ?_, fun b hb => ?_, fun A hA => ⟨c1', c2', F1, F2, rfl, rfl, Az.frame (r1 A hA) fun b hb => ?_, by rw [← eo X.2]; exact r2 A hA⟩⟩
 ·rw [fy]
  refine ⟨n1, n2, fun x hx y hy e => ?_⟩
  have := b1 x hx
  have := b2 y hy
  omega
 ·rw [dw]
  rcases eb.1 hb with hb | hb
  ·have := b1 b hb; omega
  ·have := b2 b hb; omega
 ·rw [← eo X.2, ← eo A (X.2 ++ L1), eh]
  rw [dw, dw, hA]
  have := b1 b hb
  omega
theorem La {j : Nat} (hO : A6 H G rs) {p : A5 → Prop} (hj : rs[j]? = some (.tree [] F p)) (hl : H.length ≤ G'.length) (hs : ∀ b, b ∉ F → G'[b]? = G[b]?) : A6 H G' (rs.eraseIdx j) where
 pre := fun b hb => by rw [hs b fun h => by cases ((hO.tree hj).2 b h).2 hb]; exact hO.pre b hb
 len := hl
 ok := fun r hr => by
  obtain ⟨i, hi, e⟩ := ij.1 hr
  rw [ph] at e
  obtain ⟨hj1, zh⟩ := du.1 hj
  have hp := fx.1 hO.apart
  have hi2 : i < rs.length - 1 := by rw [nm] at hi; split at hi <;> omega
  split at e
  ·rename_i h
   subst e
   exact B8.Et (hO.ok _ (gl (by omega))) fun y hy => hs y fun hyF => hp i j (by omega) hj1 h y hy (by rw [zh]; exact hyF)
  ·rename_i h
   subst e
   exact B8.Et (hO.ok _ (gl (by omega))) fun y hy => hs y fun hyF => hp j (i + 1) hj1 (by omega) (by omega) y (by rw [zh]; exact hyF) hy
 apart := hO.apart.sublist (jq _ _)
theorem Ow {x : α} {cs : List V} (j : Nat) (hj : rs[j]? = some (Dl [] F x cs) := by rfl) : RB (Az.dep α) H dd rs cs x (rs.eraseIdx j) := fun X hO k => by
 obtain ⟨⟨F', n, hF, ht⟩, xg⟩ := hO.tree hj
 obtain ⟨sk, X1, L, F2, e, s1, n1, b1, r1⟩ := Az.res ht n H.length dd (fun b hb => ib.1 fun h => by cases (xg b (hF b hb)).2 h) k X fun _ _ => rfl
 refine ⟨sk, X1, L, F2, e, ?_, n1, b1, r1⟩
 have hs : ∀ b, b ∉ F → X1[b]? = X.1[b]? := fun b hb => s1 b fun h => hb (hF b h)
 refine La hO hj ?_ hs
 rcases ke H.length with h0 | h0
 ·omega
 ·have h1 : X1[H.length - 1]? = X.1[H.length - 1]? := hs _ fun h => by cases (xg _ h).2 (by omega)
  have h2 : H.length - 1 < X.1.length := by have := hO.len; omega
  rw [dr h2] at h1
  have := (du.1 h1).1
  omega
class Cq (α : Type) [AF α] [Az α] : Prop where
 fl : ∀ G (x : α), Az.tr G x (AF.BD 0 x) []
 Z6 : ∀ l (x : α), AF.BD l x = AF.BD 0 x
 pos : 0 < Az.dep α
instance : Cq Int := ⟨fun _ _ => ⟨rfl, rfl⟩, fun _ _ => rfl, ig⟩
instance : Cq Bool := ⟨fun _ _ => ⟨rfl, rfl⟩, fun _ _ => rfl, ig⟩
instance : Cq ByteArray := ⟨fun _ _ => ⟨rfl, rfl⟩, fun _ _ => rfl, ig⟩
instance [Cq α] [Cq β] : Cq (α × β) := ⟨fun G x => ⟨_, _, [], [], rfl, rfl, Cq.fl G x.1, Cq.fl G x.2⟩, fun l x => by show AF.BD l x.1 ++ AF.BD l x.2 = AF.BD 0 x.1 ++ AF.BD 0 x.2; rw [Cq.Z6 l x.1, Cq.Z6 l x.2], fw (Cq.pos (α := α)) (kz _ _)⟩
theorem JK [Cq α] (l : Nat) : ∀ (xs : List α), AB l xs = (AB 0) xs
 | [] => rfl
 | x :: xs => by rw [Cl, Cl, Cq.Z6, JK l xs]
theorem QZ [Cq α] {xs : List α} {v : V} {j : Nat} (hO : A6 H G rs) (hj : rs[j]? = some (Dl S F xs [v])) (lv n : Nat) (hn : jn (Az.dep (List α)) n = true := by rfl) : ∃ M, Al lv G n v = some (.lit lv xs.length ((AB 0) xs), M) := by
 have := Ru hO hj lv n hn
 rwa [JK] at this
theorem T4 [Cq α] : ∀ (xs : List α), NP Az.tr G xs ((AB 0) xs) []
 | [] => ⟨rfl, rfl⟩
 | x :: xs => ⟨_, _, [], [], rfl, rfl, Cq.fl G x, T4 xs⟩
theorem nQ [Cq α] {xs : List α} {v : V} {X : A5 × List Bv} {X1 : A5} {k : Nat} (hO : A6 H X1 rs1) (h : BO true H.length dd k X v = some (.sl (H.length + X.2.length) 0 xs.length, X1, X.2 ++ [.cells (AF.sz α) ((AB 0) xs)])) :
  ∃ sk X1 L F', BO.resL (BO true H.length dd k) X [v] = some (sk, X1, X.2 ++ L) ∧ A6 H X1 rs1 ∧ F'.Nodup ∧ (∀ b ∈ F', H.length + X.2.length ≤ b ∧ b < H.length + X.2.length + L.length) ∧ ∀ A : A5, A.length = H.length → Az.tr (A ++ (X.2 ++ L)) xs sk F' := by
 refine ⟨[.sl (H.length + X.2.length) 0 xs.length], X1, [.cells (AF.sz α) ((AB 0) xs)], [H.length + X.2.length], by simp only [BO.resL, h, ba, dq], hO, by simp, fun c hc => ?_, fun A hA => .inr ⟨_, _, [], rfl, ?_, T4 xs, rfl⟩⟩
 ·simp only [dt] at hc
  subst hc
  exact ⟨dz _, by simp⟩
 ·rw [← eo, fe (by rw [dw, hA]; exact dz _), dw, hA, kh]; rfl
theorem Tg [Cq α] {xs : List α} {b sz m : Nat} (hl : xs.length = m) (hd : 0 < dd) (j : Nat) (tu : sz = AF.sz α := by rfl) (hj : rs[j]? = some (.Au b (.cells sz ((AB 0) xs))) := by rfl) : RB 2 H dd rs [.sl b 0 m] xs (rs.eraseIdx j) := fun X hO k => by
 subst hl tu
 obtain ⟨xw, tj⟩ := hO.get hj
 refine nQ (hO.kill hj rfl) ?_
 have td := Gc (th := true) (lo := H.length) (d := dd) (k := k) (X := (X.1.set b .dead, X.2)) ((AB 0) xs) (GV hd ig _ (CH xs)) (CY xs)
 have e0 : ¬ (((AB 0) xs).length < 0 + xs.length * AF.sz α) := by rw [By]; omega
 have e1 : (qj 0 ((AB 0) xs)).take (xs.length * AF.sz α) = (AB 0) xs := by rw [mn]; exact jy (by rw [By]; exact dz _)
 rw [BO, rr (by omega)]
 simp only [xw]
 rw [rr e0, e1, td]
 simp only [ba, if_true]
 rw [ru ⟨trivial, by rw [By]⟩]
def Jk {α : Type} [AF α] [Az α] (H : A5) (xs : List α) (v : V) (H1 : A5) : Prop := ∃ L F, H1 = H ++ L ∧ F.Nodup ∧ (∀ b ∈ F, H.length ≤ b) ∧ Az.tr H1 xs [v] F
def SY {α : Type} [AF α] [Az α] (H : A5) (x : α) (v : V) (H1 : A5) : Prop := ∃ cs L F, v = .agg cs ∧ H1 = H ++ L ∧ F.Nodup ∧ (∀ b ∈ F, H.length ≤ b) ∧ Az.tr H1 x cs F
theorem Pw {xs : List α} {n k : Nat} {lr : List ir} {vs : List V} {v : V} {xx : X} (hO : A6 H G rs) (hz : RB n H dd rs [v] xs rs1) (h1 : BP P G T lr = some vs) (h2 : FT vs = v := by rfl) (hn : jn n Ba = true := by rfl) (hg : h.grow k = false := by rfl) (ht : h.Ti k = true := by rfl) (hx : xx = .normal ∨ xx = .ret := by first | exact Or.inl rfl | exact Or.inr rfl) :
  VV P h k H.length dd lr (Jk H xs) xx ⟨T, G⟩ := by
 obtain ⟨sk, X1, L, F', e, o, n1, b1, r1⟩ := hz (G, []) hO (Ba - n)
 rw [qe (fb hn)] at e
 have hr := r1 H rfl
 obtain ⟨v', rfl⟩ := nh.1 (show sk.length = 1 from Az.len hr)
 have e' : BO true H.length dd Ba (G, []) v = some (v', X1, L) := by
  simp only [BO.resL, dj, dn, Prod.exists, dk, an] at e
  obtain ⟨a, H2, L2, q1, w, H3, L3, ⟨rfl, rfl, rfl⟩, q3, rfl, q4⟩ := e
  simp only [js, and_true] at q3
  simp only [gu] at q4
  subst q3 q4
  exact q1
 refine ⟨hx, v', H ++ L, ?_, L, F', rfl, n1, fun b hb => (b1 b hb).1, by simpa using hr⟩
 simp only [h1, ba, h2, En, hg, ei, if_false, ht, e', dq, o.out]
theorem cG {x : α} {cs : List V} {n k : Nat} {lr : List ir} {vs : List V} {xx : X} (hO : A6 H G rs) (hz : RB n H dd rs cs x rs1) (h1 : BP P G T lr = some vs) (h2 : FT vs = .agg cs := by rfl) (hn : jn (n + 1) Ba = true := by rfl) (hg : h.grow k = false := by rfl) (ht : h.Ti k = true := by rfl) (hx : xx = .normal ∨ xx = .ret := by first | exact Or.inl rfl | exact Or.inr rfl) :
  VV P h k H.length dd lr (SY H x) xx ⟨T, G⟩ := by
 have hn' := fb hn
 obtain ⟨sk, X1, L, F', e, o, n1, b1, r1⟩ := hz (G, []) hO (Ba - 1 - n)
 rw [show Ba - 1 - n + n = Ba - 1 by omega] at e
 have hr := r1 H rfl
 have e' : BO true H.length dd Ba (G, []) (.agg cs) = some (.agg sk, X1, L) := by
  show (BO.resL (BO true H.length dd (Ba - 1)) (G, []) cs).map _ = _
  rw [e]; rfl
 refine ⟨hx, .agg sk, H ++ L, ?_, sk, L, F', rfl, rfl, n1, fun b hb => (b1 b hb).1, by simpa using hr⟩
 simp only [h1, ba, h2, En, hg, ei, if_false, ht, e', dq, o.out]
theorem A6.fresh {x : α} {cs : List V} {L : List Bv} (hO : A6 H G rs) (hn : F.Nodup) (hb : ∀ b ∈ F, G.length ≤ b) (ht : Az.tr (G ++ L) x cs F) : A6 H (G ++ L) (Dl [] F x cs :: rs) where
 pre := fun b hb => by rw [eh (fw hb hO.len)]; exact hO.pre b hb
 len := by rw [dw]; have := hO.len; omega
 ok := fun r hr => by
  rcases fi.1 hr with rfl | hr
  ·refine Tk ⟨F, hn, fun _ h => h, ht⟩ fun b h => ⟨Az.bound ht b h, fun sd => ?_⟩
   have := hb b h
   have := hO.len
   omega
  ·have h1 := hO.ok r hr
   exact B8.Et h1 fun x hx => by rw [eh (B8.Er h1 hx)]
 apart := il.2 ⟨fun r hr x hx um => by
  have := B8.Er (hO.ok r hr) um
  have := hb x hx
  omega, hO.apart⟩
theorem nG {f : ed} {args : Array ed} {ats : Array ea} {g : jc} {caps vs so : List V} {M : List Nat} {xs : List α} (hO : A6 H G rs) (hr : ∀ L, ∃ v H1, Aw P h g so G (lk ++ [L]) = some (v, H1) ∧ Jk G xs v H1)
  (k : ∀ v F G', A6 H G' (Dl [] F xs [v] :: rs) → BZ (Ar P h fk n base lk) ops l ⟨D6 T d v, G'⟩ Q) (h1 : ev T f = some (.fn g caps) := by rfl) (h2 : Ld T args.toList = some vs := by rfl)
  (h3 : AW ((Ar P h fk n base lk).Ay s kk) (h.Df g) G (vs ++ caps) = some (so, M, G) := by rfl) (hd : fj d n = true := by rfl) :
  BZ (Ar P h fk n base lk) ops ((s, kk, ⟨some d, .call ⟨.value f, args, ats⟩, ty, pos, aft, none⟩) :: l) ⟨T, G⟩ Q := by
 obtain ⟨v, H1, e, L, F, rfl, hn, hb, ht⟩ := hr (((Ar P h fk n base lk).Ay s kk).C6 g M G)
 refine pV ?_ hd (k v F _ (hO.fresh hn hb ht))
 rw [GF]
 simp only [h1, h2, ba, Pz]
 show (AW ((Ar P h fk n base lk).Ay s kk) (h.Df g) G (vs ++ caps)).bind _ = _
 rw [h3]
 exact e
theorem dW {f : ed} {args : Array ed} {ats : Array ea} {g : jc} {caps vs so : List V} {M : List Nat} {x : α} (hO : A6 H G rs) (hr : ∀ L, ∃ v H1, Aw P h g so G (lk ++ [L]) = some (v, H1) ∧ SY G x v H1)
  (k : ∀ cs F G', A6 H G' (Dl [] F x cs :: rs) → BZ (Ar P h fk n base lk) ops l ⟨D6 T d (.agg cs), G'⟩ Q) (h1 : ev T f = some (.fn g caps) := by rfl) (h2 : Ld T args.toList = some vs := by rfl)
  (h3 : AW ((Ar P h fk n base lk).Ay s kk) (h.Df g) G (vs ++ caps) = some (so, M, G) := by rfl) (hd : fj d n = true := by rfl) :
  BZ (Ar P h fk n base lk) ops ((s, kk, ⟨some d, .call ⟨.value f, args, ats⟩, ty, pos, aft, none⟩) :: l) ⟨T, G⟩ Q := by
 obtain ⟨v, H1, e, cs, L, F, rfl, rfl, hn, hb, ht⟩ := hr (((Ar P h fk n base lk).Ay s kk).C6 g M G)
 refine pV ?_ hd (k cs F _ (hO.fresh hn hb ht))
 rw [GF]
 simp only [h1, h2, ba, Pz]
 show (AW ((Ar P h fk n base lk).Ay s kk) (h.Df g) G (vs ++ caps)).bind _ = _
 rw [h3]
 exact e
theorem Xo {z : α} {c : List V} (hz : ∀ G, Az.tr G z c []) : ∀ m, NP Az.tr G (gf m z) (gf m c).flatten []
 | 0 => ⟨rfl, rfl⟩
 | m + 1 => ⟨c, _, [], [], rfl, rfl, hz G, Xo hz m⟩
theorem uG {a : Int} {m by_ : Nat} {t e : ea} {y z' : ed} (hO : A6 H G rs) (hm : Ks by_ a = some m) (zv : α) (he : B0 P t = some e) (hz : B3 P e = some (AF.sz α)) (hb : C3 P e = some by_) {z : List V} (hzero : BH P e = some z) (h0 : ∀ G, Az.tr G zv (z.map (IQ (h.Ih fk))) [])
  (k : ∀ b G', A6 H G' (Dl [] [b] (gf m zv) [.sl b 0 m] :: rs) → BZ (Ar P h fk n base lk) ops l ⟨D6 T d (.sl b 0 m), G'⟩ Q)
  (h1 : ev T y = some (.int .i64 a) := by rfl) (h2 : ev T z' = some (.int .i64 a) := by rfl) (hd : fj d n = true := by rfl) :
  BZ (Ar P h fk n base lk) ops ((s, kk, ⟨some d, .makeSlice t y z', ty, pos, aft, none⟩) :: l) ⟨T, G⟩ Q := by
 unfold Ks at hm
 split at hm
 case isFalse => cases hm
 rename_i hc
 simp only [an] at hm
 subst hm
 refine pV ?_ hd (k G.length (G ++ [.cells (AF.sz α) (gf a.toNat (z.map (IQ (h.Ih fk)))).flatten]) (hO.fresh (by simp) (fun b hb => by simp only [dt] at hb; omega) (.inr ⟨G.length, (gf a.toNat (z.map (IQ (h.Ih fk)))).flatten, [], by rw [mh], H7 _ _, Xo h0 _, rfl⟩)))
 rw [Kt]
 simp only [h1, h2, ba, K5]
 show (B0 P t).bind _ = _
 rw [he, ba]
 show (B3 P e).bind _ = _
 rw [hz, ba]
 show (C3 P e).bind _ = _
 rw [hb, ba]
 show (BH P e).bind _ = _
 rw [hzero, ba, ru ⟨trivial, hc.1, hc.2, by rw [← ja (f := IQ (h.Ih fk))]; exact Az.len (h0 []), jt.1 (AF.pos)⟩]
 rfl
end
def B1 {α : Type} (c : α → Nat) : List α → Nat
 | [] => 0
 | x :: xs => c x + B1 c xs
def BA {α : Type} (f : α → Int → α) (c : α → Nat) : List α → Int → List α
 | [], _ => []
 | x :: xs, k => f x k :: BA f c xs (k + c x)
def kK : Int → Int → Int := fun _ k => k
theorem X6 {α : Type} {c : α → Nat} {m : Nat} : ∀ {xs : List α}, (∀ x ∈ xs, c x ≤ m) → B1 c xs ≤ m * xs.length
 | [], _ => ga _
 | x :: xs, h => by
  have h1 := h x (fh ..)
  have h2 := X6 (xs := xs) fun y hy => h y (fm _ hy)
  rw [B1, er, Nat.mul_succ]; omega
theorem FI {α : Type} (f : α → Int → α) (c : α → Nat) : ∀ (xs : List α) (k : Int), (BA f c xs k).length = xs.length
 | [], _ => rfl
 | x :: xs, k => by rw [BA, er, FI f c xs, er]
theorem EH {α σ : Type} {F : σ → Option (σ ⊕ (List α × Int))} (st : List α → Int → Int → σ) (f : α → Int → α) (c : α → Nat) (p : α → Prop) (n : Nat)
  (uk : ∀ (pre : List α) x post (k : Int), p x → 0 ≤ k → k + c x ≤ 4611686018427387904 → (pre ++ x :: post).length = n → F (st (pre ++ x :: post) k (pre.length : Int)) = some (.inl (st (pre ++ f x k :: post) (k + c x) ((pre.length + 1 : Nat) : Int))))
  (uh : ∀ (xs : List α) (k : Int), xs.length = n → F (st xs k (n : Int)) = some (.inr (xs, k))) :
  ∀ (xs pre : List α) (k : Int), (∀ x ∈ xs, p x) → 0 ≤ k → k + B1 c xs ≤ 4611686018427387904 → (pre ++ xs).length = n → AQ F (st (pre ++ xs) k (pre.length : Int)) = some (pre ++ BA f c xs k, k + B1 c xs)
 | [], pre, k, hp, h0, hb, hn => by
  rw [Ap]
  have e : pre.length = n := by simpa using hn
  rw [e, uh _ _ hn]
  simp [BA, B1]
 | x :: xs, pre, k, hp, h0, hb, hn => by
  rw [B1] at hb
  rw [Ap, uk pre x xs k (hp x (fh ..)) h0 (by omega) hn]
  have e : pre ++ f x k :: xs = (pre ++ [f x k]) ++ xs := by simp
  have := EH st f c p n uk uh xs (pre ++ [f x k]) (k + c x) (fun y hy => hp y (fm _ hy)) (by omega) (by omega) (by rw [← e]; simpa using hn)
  rw [dw, jm, ← e] at this
  simp only [ba]
  rw [this, BA, B1]
  simp only [eo, ie, gu, an, dk, true_and]
  omega
theorem GZ {α σ : Type} {F : σ → Option (σ ⊕ Int)} (st : Int → Int → σ) (f : α → Int → α) (c : α → Nat) (p : α → Prop) (ys : List α)
  (uk : ∀ (i : Nat) x (k : Int), p x → 0 ≤ k → k + c x ≤ 4611686018427387904 → ys[i]? = some (f x k) → F (st k (i : Int)) = some (.inl (st (k + c x) ((i + 1 : Nat) : Int))))
  (uh : ∀ k : Int, F (st k (ys.length : Int)) = some (.inr k)) :
  ∀ (xs pre : List α) (k : Int), ys = pre ++ BA f c xs k → (∀ x ∈ xs, p x) → 0 ≤ k → k + B1 c xs ≤ 4611686018427387904 → AQ F (st k (pre.length : Int)) = some (k + B1 c xs)
 | [], pre, k, hy, hp, h0, hb => by
  rw [Ap]
  have e : pre.length = ys.length := by rw [hy]; simp [BA]
  rw [e, uh]
  simp [B1]
 | x :: xs, pre, k, hy, hp, h0, hb => by
  rw [B1] at hb
  rw [Ap, uk pre.length x k (hp x (fh ..)) h0 (by omega) (by rw [hy, BA, fe (dz _), kh]; rfl)]
  have := GZ st f c p ys uk uh xs (pre ++ [f x k]) (k + c x) (by rw [hy, BA]; simp) (fun y hy => hp y (fm _ hy)) (by omega) (by omega)
  rw [dw, jm] at this
  simp only [ba]
  rw [this, B1]
  simp only [an]
  omega
theorem iY {a : Int} (h : 0 ≤ a) : decide (a < 0) = false := by rw [rv]; omega
theorem Ii {α : Type} (pre : List α) (x : α) (post : List α) : decide ((pre.length : Int) < ((pre ++ x :: post).length : Int)) = true := by rw [ry, dw, er]; omega
theorem Gi {α : Type} {pre post : List α} {x : α} {n : Nat} (h : (pre ++ x :: post).length = n) : pre.length < n := by rw [← h, dw, er]; omega
theorem GB {α : Type} {c : α → Nat} {p : α → Prop} {m : Nat} (hc : ∀ x, p x → c x ≤ m) {xs : List α} (hl : xs.length ≤ 1048576) (hp : ∀ x ∈ xs, p x) : B1 c xs ≤ m * 1048576 :=
 Nat.le_trans (X6 fun x hx => hc x (hp x hx)) (Nat.mul_le_mul_left _ hl)
theorem Fe {α : Type} (pre : List α) (x : α) (post : List α) : AR (pre ++ x :: post) (pre.length : Int) = some x := by
 rw [AJ, fe (dz _), kh]; rfl
theorem Gk {α : Type} (pre : List α) (x y : α) (post : List α) : (pre ++ x :: post).set ((pre.length : Nat) : Int).toNat y = pre ++ y :: post := by
 rw [jv, pf _ _ (dz _), kh]; rfl
theorem FY {k : Int} (h0 : 0 ≤ k) (h : k ≤ 4611686018427387904) : AN (k + 1) = k + 1 := CJ ⟨by omega, by omega⟩
def HN (lo d n : Nat) (tr : A5 → List V → List Nat → Prop) (G : A5) (cs : List V) (F : List Nat) : Prop :=
 ∃ F', F'.Nodup ∧ (∀ b ∈ F', b ∈ F) ∧ ∀ X : A5 × List Bv, (∀ b ∈ F', X.1[b]? = G[b]?) → ∀ k, FV tr lo (BO true lo d (k + n)) cs F' X
section
variable {α β : Type} [AF α] [Az α] [AF β] [Az β] {lo d n : Nat} {tr : A5 → List V → List Nat → Prop} {G G' H : A5} {cs : List V} {F F2 : List Nat} {xs : List α} {x : α} {v : V} {rs : List B8}
theorem HN.mono (h : HN lo d n tr G cs F) (hg : ∀ b ∈ F, G'[b]? = G[b]?) : HN lo d n tr G' cs F := by
 obtain ⟨F', h1, h2, h3⟩ := h
 exact ⟨F', h1, h2, fun X hX k => h3 X (fun b hb => by rw [hX b hb, hg b (h2 b hb)]) k⟩
theorem FV.vC {t1 t2 : A5 → List V → List Nat → Prop} {f : A5 × List Bv → V → Option (V × A5 × List Bv)} {X : A5 × List Bv} (h : FV t1 lo f cs F X) (ht : ∀ G c F, t1 G c F → t2 G c F) : FV t2 lo f cs F X := by
 obtain ⟨c, X1, L, F', e, s1, n1, b1, r1⟩ := h
 exact ⟨c, X1, L, F', e, s1, n1, b1, fun A hA => ht _ _ _ (r1 A hA)⟩
theorem HN.nil : HN lo d n (fun G => NP Az.tr G ([] : List α)) G [] [] :=
 ⟨[], .nil, fun _ h => h, fun X _ k => ⟨[], X.1, [], [], by rw [gi]; rfl, fun _ _ => rfl, .nil, fun b hb => (by cases hb), fun _ _ => ⟨rfl, rfl⟩⟩⟩
theorem VM : ∀ {xs : List α} {c1 c2 F1 F2}, NP Az.tr G xs c1 F1 → Az.tr G x c2 F2 → NP Az.tr G (xs ++ [x]) (c1 ++ c2) (F1 ++ F2)
 | [], c1, c2, F1, F2, h1, h2 => by
  obtain ⟨rfl, rfl⟩ := h1
  exact ⟨c2, [], F2, [], by simp, by simp, h2, rfl, rfl⟩
 | y :: xs, c1, c2, F1, F2, h1, h2 => by
  obtain ⟨a, b, A, B, rfl, rfl, q1, q2⟩ := h1
  exact ⟨a, b ++ c2, A, B ++ F2, by simp, by simp, q1, VM q2 h2⟩
theorem HN.snoc {c1 c2 : List V} {F1 F2 : List Nat} (h1 : HN lo d n (fun G => NP Az.tr G xs) G c1 F1) (h2 : HN lo d n (fun G => Az.tr G x) G c2 F2) (hd : ∀ b ∈ F2, b ∉ F1) : HN lo d n (fun G => NP Az.tr G (xs ++ [x])) G (c1 ++ c2) (F1 ++ F2) := by
 obtain ⟨A, a1, a2, a3⟩ := h1
 obtain ⟨B, b1, b2, b3⟩ := h2
 refine ⟨A ++ B, ?_, fun b hb => ?_, fun X hX k => ?_⟩
 ·rw [fy]
  exact ⟨a1, b1, fun p hp q hq e => by subst e; exact hd p (b2 p hq) (a2 p hp)⟩
 ·rcases eb.1 hb with h | h
  ·exact ew _ (a2 b h)
  ·exact ft _ (b2 b h)
 ·refine (FV.pair (t1 := fun G => NP Az.tr G xs) (fun h hg => Ge h hg) (a3 X (fun b hb => hX b (ew _ hb)) k) fun Y hY => b3 Y (fun b hb => ?_) k).vC ?_
  ·rw [hY b fun h => hd b (b2 b hb) (a2 b h)]
   exact hX b (ft _ hb)
  ·rintro G c F ⟨c1, c2, F1, F2, rfl, rfl, q1, q2⟩
   exact VM q1 q2
theorem DL.prom (h : DL G x cs F) (hF : ∀ b ∈ F, lo ≤ b) : HN lo d (Az.dep α) (fun G => Az.tr G x) G cs F := by
 obtain ⟨F', h1, h2, h3⟩ := h
 exact ⟨F', h1, h2, fun X hX k => Az.res h3 h1 lo d (fun b hb => hF b (h2 b hb)) k X hX⟩
theorem A6.prom {cs : List V} (hO : A6 H G (Dl [] F x cs :: rs)) (d : Nat) : A6 H G (.tree [] F (fun G => HN H.length d (Az.dep α) (fun G => Az.tr G x) G cs F) :: rs) ∧ cs.length = AF.sz α ∧ cs.all V.Bm = true := by
 obtain ⟨h, hb⟩ := hO.tree (j := 0) (F := F) (S := []) rfl
 refine ⟨⟨hO.pre, hO.len, fun r hr => ?_, il.2 (il.1 hO.apart)⟩, h.cells⟩
 rcases fi.1 hr with rfl | hr
 ·exact ⟨hb, fun G' hg => (h.prom fun b tp => ib.1 fun sd => by cases (hb b tp).2 sd).mono hg⟩
 ·exact hO.ok r (fm _ hr)
theorem e6 [Cq β] {ys : List β} {b : Nat} {u : V} (hu : ∀ X : A5 × List Bv, X.1[b]? = G[b]? → ∀ k, BO true lo d (k + 2) X u = some (.sl (lo + X.2.length) 0 ys.length, X.1.set b .dead, X.2 ++ [.cells (AF.sz β) ((AB 0) ys)])) (n : Nat) (hn : 2 ≤ n) :
  HN lo d n (fun G => Az.tr G ys) G [u] [b] := by
 refine ⟨[b], by simp, fun _ h => h, fun X hX k => ⟨[.sl (lo + X.2.length) 0 ys.length], X.1.set b .dead, [.cells (AF.sz β) ((AB 0) ys)], [lo + X.2.length], ?_, fun c hc => ?_, by simp, fun c hc => ?_, fun A hA => .inr ⟨_, _, [], rfl, ?_, T4 ys, rfl⟩⟩⟩
 ·have := hu X (hX b (by simp)) (k + (n - 2))
  rw [show k + (n - 2) + 2 = k + n by omega] at this
  simp only [BO.resL, this, ba, dq]
 ·rw [AX, rr]
  rintro ⟨rfl, _⟩; exact hc (by simp)
 ·simp only [dt] at hc
  subst hc
  exact ⟨dz _, by simp⟩
 ·rw [← eo, fe (by rw [dw, hA]; exact dz _), dw, hA, kh]; rfl
def lK (lo d : Nat) (G : A5) (xs : List α) (v : V) (F : List Nat) : Prop := (v = .tl 0 [] ∧ xs = []) ∨ ∃ b cells F2, v = .snap b xs.length cells ∧ b ∈ F ∧ (∀ c ∈ F2, c ∈ F) ∧ b ∉ F2 ∧ G[b]? = some (.Bt d xs.length (AF.sz α)) ∧ cells.length = xs.length * AF.sz α ∧
 cells.all V.Bm = true ∧ HN lo d (Az.dep α) (fun G => NP Az.tr G xs) G cells F2
theorem lK.mono (h : lK lo d G xs v F) (hg : ∀ b ∈ F, G'[b]? = G[b]?) : lK lo d G' xs v F := by
 rcases h with h | ⟨b, cells, F2, h1, h2, h3, h4, h5, h6, h7, h8⟩
 ·exact .inl h
 ·exact .inr ⟨b, cells, F2, h1, h2, h3, h4, by rw [hg b h2]; exact h5, h6, h7, h8.mono fun c hc => hg c (h3 c hc)⟩
theorem J9 {j : Nat} (hO : A6 H G rs) {S : List Nat} (hj : rs[j]? = some (Dl S F x [v])) : v.cellsOf = [v] ∧ v.Bm = true := by
 have h := (hO.tree hj).1.cells.2
 simp only [jr, re, pw] at h
 refine ⟨?_, h⟩
 cases v <;> first | rfl | cases h
theorem VN {j : Nat} (hO : A6 H G rs) {S : List Nat} (hj : rs[j]? = some (Dl S F x cs)) : cs.length = AF.sz α ∧ cs.all V.Bm = true := (hO.tree hj).1.cells
end
section steps
variable {P : ep} {h : BX} {fk n base : Nat} {lk : Lk} {c : Cx} {ops : Array fc} {s kk : Bool} {d : Nat} {ty : ea} {pos : String} {aft : Array Edge} {l : List (Bool × Bool × fc)} {Q : St → Prop} {T : Nat → V} {G G' H H0 : A5} {rs : List B8} {op : Op} {F F2 : List Nat}
variable {α : Type} [AF α] [Az α]
end steps
section steps
variable {P : ep} {h : BX} {fk n base : Nat} {lk : Lk} {c : Cx} {ops : Array fc} {s kk : Bool} {d : Nat} {ty : ea} {pos : String} {aft : Array Edge} {l : List (Bool × Bool × fc)} {Q : St → Prop} {T : Nat → V} {G G' H H0 : A5} {rs uz rs1 : List B8} {op : Op} {S F F2 : List Nat}
variable {α : Type} [AF α]
theorem uK [Az α] {x : α} {cs VS : List V} {t : ea} {y z : ed} {b sz : Nat} (hO : A6 H G rs) (jb j : Nat) (hz : B3 P t = some (AF.sz α)) (hb : base = H.length) (k : ∀ G', A6 H G' (rs.set jb (.Au b (.cells sz cs))) → BZ (Ar P h fk n base lk) ops l ⟨T, G'⟩ Q)
  (h1 : ev T y = some (.ptr b 0) := by rfl) (h2 : ev T z = some (.agg cs) := by rfl) (hjb : rs[jb]? = some (.Au b (.cells sz VS)) := by rfl) (hj : rs[j]? = some (Dl S F x cs) := by rfl) (hold : VS.length = AF.sz α := by rfl) :
  BZ (Ar P h fk n base lk) ops ((s, kk, ⟨none, .store t y z, ty, pos, aft, none⟩) :: l) ⟨T, G⟩ Q := by
 subst hb
 obtain ⟨e1, e2⟩ := VN hO hj
 obtain ⟨hg, tj⟩ := hO.get hjb
 have sd : b < G.length := (du.1 hg).1
 have e3 : CA VS 0 cs = cs := by
  unfold CA
  rw [qt, kb, ln (by omega)]; simp
 have wi := Kg (P := P) (h := h) (fk := fk) (n := n) (lk := lk) (s := s) (kk := kk) (base := H.length) (T := T) (G := G) (off := 0) (sz := sz) (y := y) (z := z) (w := .agg cs) hz (cells := VS) (b := b) (by unfold Cx.Bi; simp only [gg, ry]; exact .inl tj) (rr (ib.2 tj)) hg (by show 0 + cs.length ≤ _; omega) e1 e2 h1 h2
 refine fF wi (k _ ?_)
 show A6 H (G.set b (.cells sz (CA VS 0 cs))) _
 rw [e3]
 exact hO.set hjb rfl rfl ⟨tj, by rw [AX, ru ⟨rfl, sd⟩]⟩
theorem nK [Az α] {x : α} {cs : List V} {t : ea} {y : ed} {b sz : Nat} (hO : A6 H G rs) (jb j : Nat) (ha : D7 P t = some true) (hz : B3 P t = some (AF.sz α)) (k : BZ (Ar P h fk n base lk) ops l ⟨D6 T d (.agg cs), G⟩ Q)
  (h1 : ev T y = some (.ptr b 0) := by rfl) (hjb : rs[jb]? = some (.Au b (.cells sz cs)) := by rfl) (hj : rs[j]? = some (Dl S F x cs) := by rfl) (hd : fj d n = true := by rfl) :
  BZ (Ar P h fk n base lk) ops ((s, kk, ⟨some d, .load t y, ty, pos, aft, none⟩) :: l) ⟨T, G⟩ Q := by
 obtain ⟨e1, e2⟩ := VN hO hj
 refine oE (.agg cs) (hO.get hjb).1 ?_ k h1 hd
 unfold BN
 simp only [ha, hz, ba]
 rw [ru (by omega), mn, ← e1, mi]
def oM (n : Nat) (H : A5) (rs : List B8) (cs sk : List V) (uz : List B8) : Prop := ∀ G, A6 H G rs → ∀ k, ∃ G2, AV.giveL (AV H.length (k + n)) G cs = some (sk, G2) ∧ A6 H G2 uz
def lN (n : Nat) (H : A5) (rs : List B8) (v v' : V) (uz : List B8) : Prop := ∀ G, A6 H G rs → ∀ k, ∃ G2, AV H.length (k + n) G v = some (v', G2) ∧ A6 H G2 uz
theorem FW (kd : jo) (x : Int) : lN 2 H rs (.int kd x) (.int kd x) rs := fun G hO k => ⟨G, rfl, hO⟩
theorem De (xs : List α) : lN 2 H rs (.lit 0 xs.length ((AB 0) xs)) (.lit 0 xs.length ((AB 0) xs)) rs := fun G hO k => ⟨G, by rw [AV, ru (by simp only [clean, CH, sa, rf, Bool.true_and])], hO⟩
theorem QR (α : Type) [AF α] : lN 2 H rs (.tl 0 []) (.lit 0 ([] : List α).length ((AB 0) ([] : List α))) rs := fun G hO k => ⟨G, by rw [AV]; rfl, hO⟩
theorem Ud : oM 2 H rs [] [] rs := fun G hO k => ⟨G, rfl, hO⟩
theorem D3 {v v' : V} {vs so : List V} (h1 : lN 2 H rs v v' rs1) (h2 : oM 2 H rs1 vs so uz) : oM 2 H rs (v :: vs) (v' :: so) uz := fun G hO k => by
 obtain ⟨G1, e1, o1⟩ := h1 G hO k
 obtain ⟨G2, e2, o2⟩ := h2 G1 o1 k
 exact ⟨G2, by simp only [AV.giveL, e1, ba, e2, dq], o2⟩
theorem cR {cs sk : List V} (h : oM 2 H rs cs sk uz) : lN 3 H rs (.agg cs) (.agg sk) uz := fun G hO k => by
 obtain ⟨G2, e, o⟩ := h G hO k
 exact ⟨G2, by rw [AV, e]; rfl, o⟩
end steps
section
variable {α β : Type} [AF α] [Az α] [AF β] [Az β] {lo d n m : Nat} {tr : A5 → List V → List Nat → Prop} {G G' H : A5} {cs c1 c2 : List V} {F F1 F2 : List Nat} {x : α} {y : β} {v : V} {rs : List B8}
theorem HN.up (hm : jn n m = true) (h : HN lo d n tr G cs F) : HN lo d m tr G cs F := by
 have hm := fb hm
 obtain ⟨F', h1, h2, h3⟩ := h
 refine ⟨F', h1, h2, fun X hX k => ?_⟩
 have := h3 X hX (k + (m - n))
 rwa [show k + (m - n) + n = k + m by omega] at this
theorem TY [Cq α] (x : α) : HN lo d (Az.dep α) (fun G => Az.tr G x) G (AF.BD 0 x) [] :=
 DL.prom ⟨[], .nil, fun _ h => h, Cq.fl G x⟩ fun b hb => (by cases hb)
theorem HN.pair (h1 : HN lo d n (fun G => Az.tr G x) G c1 F1) (h2 : HN lo d n (fun G => Az.tr G y) G c2 F2) (hd : ∀ b ∈ F2, b ∉ F1) : HN lo d n (fun G => Az.tr G (x, y)) G (c1 ++ c2) (F1 ++ F2) := by
 obtain ⟨A, a1, a2, a3⟩ := h1
 obtain ⟨B, b1, b2, b3⟩ := h2
 refine ⟨A ++ B, ?_, fun b hb => ?_, fun X hX k => ?_⟩
 ·rw [fy]
  exact ⟨a1, b1, fun p hp q hq e => by subst e; exact hd p (b2 p hq) (a2 p hp)⟩
 ·rcases eb.1 hb with h | h
  ·exact ew _ (a2 b h)
  ·exact ft _ (b2 b h)
 ·refine FV.pair (t1 := fun G => Az.tr G x) (t2 := fun G => Az.tr G y) (fun h hg => Az.frame h hg) (a3 X (fun b hb => hX b (ew _ hb)) k) fun Y hY => b3 Y (fun b hb => ?_) k
  rw [hY b fun h => hd b (b2 b hb) (a2 b h)]
  exact hX b (ft _ hb)
end
section
variable {α : Type} [AF α] {H : A5}
theorem EZ {c : Cx} (kd : jo) (x : Int) : Fb c H (.int kd x) = some (.int kd x, H) := by
 cases h : c.hints.Ih c.fn with
 | false => exact fJ h kd x
 | true => unfold Fb; rw [h]; rfl
theorem Bg {c : Cx} (x : α) : Fb c H (.agg ((AF.BD 0) x)) = some (.agg ((AF.BD 0) x), H) := by
 cases h : c.hints.Ih c.fn with
 | false => exact fI h x
 | true => unfold Fb; rw [h]; rfl
end
section calls
variable {P : ep} {h : BX} {fk n base : Nat} {lk : Lk} {ops : Array fc} {s kk : Bool} {d : Nat} {ty : ea} {pos : String} {aft : Array Edge} {l : List (Bool × Bool × fc)} {Q : St → Prop} {T : Nat → V} {G G' H : A5} {rs : List B8}
variable {α : Type} [AF α] [Az α]
theorem rE {f : ed} {args : Array ed} {ats : Array ea} {g : jc} {caps vs so : List V} {M : List Nat} {xs : List α} (hO : A6 H G rs) (hlo : EK lk H.length) (hb : base = H.length) (hr : ∀ L, EK (lk ++ [L]) G.length → ∃ v H1, Aw P h g so G (lk ++ [L]) = some (v, H1) ∧ Jk G xs v H1)
  (k : ∀ v F G', A6 H G' (Dl [] F xs [v] :: rs) → BZ (Ar P h fk n base lk) ops l ⟨D6 T d v, G'⟩ Q) (h1 : ev T f = some (.fn g caps) := by rfl) (h2 : Ld T args.toList = some vs := by rfl)
  (h3 : AW ((Ar P h fk n base lk).Ay s kk) [] G (vs ++ caps) = some (so, M, G) := by rfl) (hd : fj d n = true := by rfl) (hm : h.Df g = [] := by rfl) :
  BZ (Ar P h fk n base lk) ops ((s, kk, ⟨some d, .call ⟨.value f, args, ats⟩, ty, pos, aft, none⟩) :: l) ⟨T, G⟩ Q := by
 obtain ⟨v, H1, e, L, F, rfl, hn, tp, ht⟩ := hr (((Ar P h fk n base lk).Ay s kk).C6 g M G) (hlo.push hO.len (Qb (IL _ _ _ h3) (by show base ≤ _; rw [hb]; exact hO.len)))
 refine pV ?_ hd (k v F _ (hO.fresh hn tp ht))
 rw [GF]
 simp only [h1, h2, ba, Pz]
 show (AW ((Ar P h fk n base lk).Ay s kk) (h.Df g) G (vs ++ caps)).bind _ = _
 rw [hm, h3]
 exact e
end calls
section
variable {α : Type} [AF α] {G G' H : A5} {F : List Nat} {xs : List α} {v : V} {rs : List B8}
def lJ (lo d : Nat) (G : A5) (xs : List α) (v : V) (F : List Nat) : Prop := (v = .tl xs.length ((AB 0) xs)) ∨ (∃ b, v = .snap b xs.length ((AB 0) xs) ∧ b ∈ F ∧ G[b]? = some (.Bt d xs.length (AF.sz α))) ∨ ∃ b, v = .sl b 0 xs.length ∧ b ∈ F ∧ G[b]? = some (.cells (AF.sz α) ((AB 0) xs))
theorem lJ.mono {lo d : Nat} (h : lJ lo d G xs v F) (hg : ∀ b ∈ F, G'[b]? = G[b]?) : lJ lo d G' xs v F := by
 rcases h with h | ⟨b, h1, h2, h3⟩ | ⟨b, h1, h2, h3⟩
 ·exact .inl h
 ·exact .inr (.inl ⟨b, h1, h2, by rw [hg b h2]; exact h3⟩)
 ·exact .inr (.inr ⟨b, h1, h2, by rw [hg b h2]; exact h3⟩)
theorem A6.swapT {j : Nat} {r : B8} {p : A5 → Prop} (hO : A6 H G rs) (hj : rs[j]? = some r) (ho : r.XK = true) (hp : ∀ G', (∀ b ∈ r.CP, G'[b]? = G[b]?) → p G') : A6 H G (rs.set j (.tree [] r.CP p)) where
 pre := hO.pre
 len := hO.len
 ok := fun r2 hr => by
  obtain ⟨i, hi, e⟩ := ij.1 hr
  rw [fa] at hi
  rw [iu] at e
  have h0 := hO.ok _ (ee hj)
  split at e
  ·subst e
   refine ⟨fun b hb => ⟨B8.Er h0 hb, fun sd => ?_⟩, hp⟩
   have := B8.Mb h0 ho hb
   omega
  ·subst e
   exact hO.ok _ (gl hi)
 apart := FP hO.apart hj fun x hx => hx
end
section steps
variable {P : ep} {h : BX} {fk n base : Nat} {lk : Lk} {c : Cx} {ops : Array fc} {s kk : Bool} {d : Nat} {ty : ea} {pos : String} {aft : Array Edge} {l : List (Bool × Bool × fc)} {Q : St → Prop} {T : Nat → V} {G G' H H0 : A5} {rs : List B8} {op : Op} {S F : List Nat}
variable {α : Type} [AF α]
end steps
class RD (α : Type) [AF α] [Az α] : Prop where
 inv : ∀ {G : A5} {x : α} {cs F}, Az.tr G x cs F → cs = AF.BD 0 x ∧ F = []
instance : RD Int := ⟨fun h => h⟩
instance : RD Bool := ⟨fun h => h⟩
instance : RD ByteArray := ⟨fun h => h⟩
instance {α β : Type} [AF α] [Az α] [RD α] [AF β] [Az β] [RD β] : RD (α × β) := ⟨fun h => by
 obtain ⟨c1, c2, F1, F2, rfl, rfl, h1, h2⟩ := h
 obtain ⟨rfl, rfl⟩ := RD.inv h1
 obtain ⟨rfl, rfl⟩ := RD.inv h2
 exact ⟨rfl, rfl⟩⟩
section
variable {α β : Type} [AF α] [Az α] [AF β] [Az β] {G G1 G' H H0 H' : A5} {rs ub rs0' rest : List B8} {S F : List Nat} {x : α} {y : β} {cs : List V}
def B8.sP (S : List Nat) : B8 → B8
 | .Au n b => .Aj S n b
 | .Aj _ n b => .Aj S n b
 | .tree _ F p => .tree S F p
 | r => r
def B8.lQ : B8 → Bool
 | .Au .. | .Aj .. | .tree .. => true
 | _ => false
theorem B8.R9 (S : List Nat) (r : B8) : (r.sP S).CP = r.CP := by cases r <;> rfl
theorem nT {r : B8} (h : r.ok H G) (hc : r.lQ = true) (hS : ∀ b ∈ r.CP, b ∈ S) : (r.sP S).ok G G := by
 have sd := fun b hb => B8.Er h (x := b) hb
 cases r with
 | Au n b => exact ⟨fun _ => hS n (by simp [B8.CP]), h.2⟩
 | Aj S' n b => exact ⟨fun _ => hS n (by simp [B8.CP]), h.2⟩
 | tree S' F p => exact ⟨fun b hb => ⟨sd b hb, fun _ => hS b hb⟩, h.2⟩
 | own v d sz n cells => cases hc
 | N4 S' v d d1 sz n cells => cases hc
end
section calls
variable {P : ep} {h : BX} {fk n base : Nat} {lk : Lk} {ops : Array fc} {s kk : Bool} {d : Nat} {ty : ea} {pos : String} {aft : Array Edge} {l : List (Bool × Bool × fc)} {Q : St → Prop} {T : Nat → V} {G G' H : A5} {ub rs0' rest : List B8} {S : List Nat}
end calls
section
def B8.vQ : B8 → Bool
 | .Au .. => true
 | .own .. => true
 | .tree [] _ _ => true
 | _ => false
theorem A6.lo {H G : A5} {ub rest : List B8} (hO : A6 H G (ub ++ rest)) (h : ub.all B8.vQ = true := by rfl) : ∀ r ∈ ub, ∀ b ∈ r.CP, H.length ≤ b := fun r hr b hb => by
 have h1 := hO.ok r (ew _ hr)
 have h2 := gb.1 h r hr
 cases r with
 | Au n x => exact B8.Mb h1 rfl hb
 | own v d sz n cells => exact B8.Mb h1 rfl hb
 | Aj S n x => cases h2
 | N4 S v d d1 sz n cells => cases h2
 | tree S F p =>
  cases S with
  | nil => exact ib.1 fun sd => by cases (h1.1 b hb).2 sd
  | cons a S => cases h2
theorem Bz {α : Type} {xs : List α} {i : Int} {x : α} (h : AR xs i = some x) (y : α) : AR (xs.set i.toNat y) i = some y := by
 have := Fj h
 unfold AR
 rw [ru this.1, mb, ru rfl, ru (by omega)]
theorem DJ {α : Type} {xs : List α} {v : V} {b j : Nat} {y : α} (h : v = .sl b 0 xs.length) : v = .sl b 0 (xs.set j y).length := by rw [fa]; exact h
section steps
variable {P : ep} {h : BX} {fk n base : Nat} {lk : Lk} {c : Cx} {ops : Array fc} {s kk : Bool} {d : Nat} {ty : ea} {pos : String} {aft : Array Edge} {l : List (Bool × Bool × fc)} {Q : St → Prop} {T : Nat → V} {G G' H H0 : A5} {rs : List B8} {op : Op} {S F : List Nat}
theorem Bw {x : ed} {v : V} (k : BZ (Ar P h fk n base lk) ops l ⟨D6 T d v, G⟩ Q) (h1 : ev T x = some v := by rfl) (h2 : Vf v = some v := by rfl) (hd : fj d n = true := by rfl) :
  BZ (Ar P h fk n base lk) ops ((s, kk, ⟨some d, .nilCheck x, ty, pos, aft, none⟩) :: l) ⟨T, G⟩ Q := by
 refine pV ?_ hd k
 rw [TR]
 simp only [h1, h2, ba, dq]
section
variable {α β : Type} [AF α] [Az α] [AF β] [Az β] [RD β]
end
section
variable {α β : Type} [AF α] [Az α] [AF β] [Az β]
end
variable {α : Type} [AF α] [Az α] [Cq α]
end steps
end
section
class Xr (α : Type) [AF α] [Az α] : Prop where
 cl : ∀ {G : A5} {x : α} {cs F}, Az.tr G x cs F → ∀ d, cs.all (BS d) = true ∧ ∀ b ∈ F, ∃ sz cells, G[b]? = some (.cells sz cells) ∧ cells.all (BS d) = true
instance : Xr Int := ⟨fun h d => by obtain ⟨rfl, rfl⟩ := h; exact ⟨rfl, fun b hb => by cases hb⟩⟩
instance : Xr Bool := ⟨fun h d => by obtain ⟨rfl, rfl⟩ := h; exact ⟨rfl, fun b hb => by cases hb⟩⟩
instance : Xr ByteArray := ⟨fun h d => by obtain ⟨rfl, rfl⟩ := h; exact ⟨rfl, fun b hb => by cases hb⟩⟩
section
variable {α β : Type} [AF α] [Az α] [Xr α] [AF β] [Az β] [Xr β] {G : A5}
instance : Xr (α × β) := ⟨fun h d => by
 obtain ⟨c1, c2, F1, F2, rfl, rfl, h1, h2⟩ := h
 refine ⟨by rw [gk, (Xr.cl h1 d).1, (Xr.cl h2 d).1]; rfl, fun b hb => ?_⟩
 rcases eb.1 hb with hb | hb
 ·exact (Xr.cl h1 d).2 b hb
 ·exact (Xr.cl h2 d).2 b hb⟩
theorem Xm (d : Nat) : ∀ {xs : List α} {cs F}, NP Az.tr G xs cs F → cs.all (BS d) = true ∧ ∀ b ∈ F, ∃ sz cells, G[b]? = some (.cells sz cells) ∧ cells.all (BS d) = true
 | [], cs, F, h => by obtain ⟨rfl, rfl⟩ := h; exact ⟨rfl, fun b hb => by cases hb⟩
 | x :: xs, cs, F, h => by
  obtain ⟨c1, c2, F1, F2, rfl, rfl, h1, h2⟩ := h
  have h3 := Xm d h2
  refine ⟨by rw [gk, (Xr.cl h1 d).1, h3.1]; rfl, fun b hb => ?_⟩
  rcases eb.1 hb with hb | hb
  ·exact (Xr.cl h1 d).2 b hb
  ·exact h3.2 b hb
instance : Xr (List α) := ⟨fun h d => by
 rcases h with ⟨rfl, rfl, rfl⟩ | ⟨b, cells, F', rfl, h1, h2, rfl⟩
 ·exact ⟨rfl, fun b hb => by cases hb⟩
 ·have h3 := Xm d h2
  refine ⟨rfl, fun c hc => ?_⟩
  rcases fi.1 hc with rfl | hc
  ·exact ⟨_, _, h1, h3.1⟩
  ·exact h3.2 c hc⟩
end
def Kl (base d : Nat) (G : A5) : A5 := G.take base ++ (G.drop base).map (NI d)
def ZE (base d : Nat) (r : B8) : Prop := ∀ H G : A5, H.length = base → H.length ≤ G.length → r.ok H G → r.ok H (Kl base d G)
def ZD (base d : Nat) (rs : List B8) : Prop := ∀ r ∈ rs, ZE base d r
theorem GL {base d : Nat} : ZD base d [] := fun r hr => by cases hr
theorem BJ {base d : Nat} {r : B8} {rs : List B8} (h : ZE base d r) (hs : ZD base d rs) : ZD base d (r :: rs) := fun q hq => by
 rcases fi.1 hq with rfl | hq
 ·exact h
 ·exact hs q hq
theorem GW {P : ep} {h : BX} {T : Nat → V} {G H0 Hm : A5} {S : List Nat} {k d : Nat} {lr : List ir} {vs : List V} {v : V} {xx : X} {ι : Type} {rsF : ι → List B8} (Fs : ι) (hO : A6 Hm G (rsF Fs)) (sb : BK H0 Hm S) (hrel : ZD H0.length d (rsF Fs)) (h1 : BP P G T lr = some vs) (h2 : FT vs = v) (hc : BS d v = true) (hg : h.grow k = true) (hx : xx = .normal ∨ xx = .ret) :
  VV P h k H0.length d lr (fun v1 H1 => v1 = v ∧ ∃ (Fs : ι) (Hm : A5), BK H0 Hm S ∧ A6 Hm H1 (rsF Fs)) xx ⟨T, G⟩ := by
 have hl : Hm.length = H0.length := sb.1
 have ye := hO.len
 have hlen : (Kl H0.length d G).length = G.length := by unfold Kl; rw [dw, gh, ja, ko]; omega
 refine ⟨hx, v, Kl H0.length d G, ?_, rfl, Fs, Hm, sb, fun b hb => ?_, by rw [hlen]; exact hO.len, fun r hr => hrel r hr _ _ hl ye (hO.ok r hr), hO.apart⟩
 ·simp only [h1, ba, h2, En, hg, if_true, hc]; rfl
 ·unfold Kl
  rw [J0 (by omega), ru (by omega)]
  exact hO.pre b hb
section
variable {α β : Type} [AF α] [Az α] [AF β] [Az β] {G G1 G' H H0 Hm : A5} {rs ub rs1 rest : List B8} {S Sc F F2 : List Nat}
theorem BK.trans {Ha Hb Hc : A5} (h1 : BK Ha Hb S) (h2 : BK Hb Hc Sc) (hs : ∀ b ∈ Sc, b < Hb.length → b ∈ S) : BK Ha Hc S := ⟨h2.1.trans h1.1, fun b hb => by
 rcases fp b Hb.length with hl | hl
 ·rw [h2.2 b fun h => hb (hs b h hl)]; exact h1.2 b hb
 ·rw [← h1.2 b hb, en hl, en (by have := h2.1; omega)]⟩
theorem A6.join {j : Nat} {p p' q : A5 → Prop} (hO : A6 H G (.tree [] F2 q :: rs)) (hj : rs[j]? = some (.tree S F p)) (hl : G'.length = G.length) (hs : ∀ b, b ∉ F → G'[b]? = G[b]?) (hp : ∀ G2, (∀ b ∈ F ++ F2, G2[b]? = G'[b]?) → p' G2) :
  A6 (G'.take H.length) G' (rs.set j (.tree S (F ++ F2) p')) := by
 have zg : (B8.tree [] F2 q :: rs)[j + 1]? = some (.tree S F p) := hj
 have l1 := hO.len
 have ht : (G'.take H.length).length = H.length := by rw [gh]; omega
 obtain ⟨_, xg⟩ := hO.tree zg
 obtain ⟨_, hbd2⟩ := hO.tree (j := 0) (F := F2) (S := []) rfl
 obtain ⟨hj1, zh⟩ := du.1 hj
 obtain ⟨hO1, hO2, hO3, hO4⟩ := hO
 have hp2 := fx.1 (il.1 hO4).2
 have key : ∀ i (hi : i < rs.length), i ≠ j → ∀ c ∈ F ++ F2, c ∉ rs[i].CP := fun i hi hij c hc wq => by
  rcases eb.1 hc with hc | hc
  ·rcases fp i j with h | h
   ·exact hp2 i j hi hj1 h c wq (by rw [zh]; exact hc)
   ·exact hp2 j i hj1 hi (by omega) c (by rw [zh]; exact hc) wq
  ·exact (il.1 hO4).1 _ (gl hi) c hc wq
 refine ⟨fun c hc => ?_, by rw [ht]; omega, fun r hr => B8.TO ht ?_, ?_⟩
 ·rw [ht] at hc; rw [gm, ru hc]
 ·obtain ⟨i, hi, e⟩ := ij.1 hr
  rw [fa] at hi
  rw [iu] at e
  split at e
  ·subst e
   refine ⟨fun c hc => ?_, hp⟩
   rw [hl]
   rcases eb.1 hc with hc | hc
   ·exact xg c hc
   ·exact ⟨(hbd2 c hc).1, fun h => by cases (hbd2 c hc).2 h⟩
  ·rename_i hij
   subst e
   have vm := hO3 _ (fm (B8.tree [] F2 q) (gl hi))
   exact B8.Et vm fun c hc => hs c fun hcF => key i hi (by omega) c (by simp [hcF]) hc
 ·rw [fx]
  intro a b ha hb hab c hc wq
  rw [fa] at ha hb
  rw [iu] at hc wq
  split at hc
  ·rename_i e; subst e
   rw [rr (by omega)] at wq
   exact key b hb (by omega) c hc wq
  ·split at wq
   ·rename_i e; subst e
    exact key a ha (by omega) c wq hc
   ·exact hp2 a b ha hb hab c hc wq
end
section steps
variable {P : ep} {h : BX} {fk n base : Nat} {lk : Lk} {c : Cx} {ops : Array fc} {s kk : Bool} {d : Nat} {ty : ea} {pos : String} {aft : Array Edge} {l : List (Bool × Bool × fc)} {Q : St → Prop} {T : Nat → V} {G G' H H0 : A5} {rs : List B8} {op : Op} {S F F2 : List Nat}
section
variable {α β : Type} [AF α] [Az α] [AF β] [Az β]
end
variable {ub rest : List B8} {ι : Type} {rs1 : ι → List B8}
theorem iV {g : jc} : ∀ b ∈ ((Ar P h fk n base lk).Ay s false).C6 g [] G, b < base ∧ h.grow fk = false := fun b hb => by
 unfold Cx.C6 at hb
 rw [rr (by show ¬ false = true; simp)] at hb
 split at hb
 ·rename_i e
  have e' : (h.grow g && !h.grow fk) = true := e
  simp only [ec, jj] at e'
  have h9 : b ∈ ([] : List Nat) ++ gj base := hb
  exact ⟨by simpa using h9, e'.2⟩
 ·cases hb
end steps
end
theorem ZI {α : Type} {n : Nat} {ys z : List α} (h : CL n [] ys = some z) : z = ys := by
 unfold CL at h
 split at h
 ·rw [gu] at h; exact (dv h).symm
 ·cases h
section
variable {α β : Type} [AF α] [Az α] [AF β] [Az β] {G G' H : A5} {F F2 : List Nat} {xs : List α} {x : α} {y : β} {v : V} {rs : List B8} {cs c1 c2 : List V}
variable {m : Nat}
def ZA (m : Nat) (G : A5) (xs : List α) (v : V) (F : List Nat) (k : Nat) : Prop := ∃ F', F'.Nodup ∧ (∀ b ∈ F', b ∈ F) ∧ ((xs = [] ∧ v = .tl 0 [] ∧ F' = []) ∨
 ∃ b c1 F2, v = .sl b 0 xs.length ∧ G[b]? = some (.cells (AF.sz α) (c1 ++ AB m (xs.drop k))) ∧ NP Az.tr G (xs.take k) c1 F2 ∧ F' = b :: F2)
theorem ZA.mono {k : Nat} (h : ZA m G xs v F k) (hg : ∀ b ∈ F, G'[b]? = G[b]?) : ZA m G' xs v F k := by
 obtain ⟨F', h1, h2, h3⟩ := h
 refine ⟨F', h1, h2, ?_⟩
 rcases h3 with h3 | ⟨b, c1, F2, e1, e2, e3, rfl⟩
 ·exact .inl h3
 ·exact .inr ⟨b, c1, F2, e1, by rw [hg b (h2 b (by simp))]; exact e2, Ge e3 fun c hc => hg c (h2 c (by simp [hc])), rfl⟩
end
theorem nE {i : Int} {n : Nat} (h : decide (i < (n : Int)) = false) : n ≤ i.toNat := by
 have := of_decide_eq_false h
 omega
section steps
variable {m : Nat}
variable {P : ep} {h : BX} {fk n base : Nat} {lk : Lk} {c : Cx} {ops : Array fc} {s kk : Bool} {d : Nat} {ty : ea} {pos : String} {aft : Array Edge} {l : List (Bool × Bool × fc)} {Q : St → Prop} {T : Nat → V} {G G' H H0 : A5} {rs : List B8} {op : Op} {S F F2 : List Nat}
variable {α β : Type} [AF α] [Az α] [AF β] [Az β]
end steps
def Jd (i : Nat) : List Nat → Bool
 | [] => false
 | d :: l => bif gp i d then true else Jd i l
def Ag (ds : List Nat) (T T1 : Nat → V) : Prop := ∀ i, Jd i ds = false → T1 i = T i
def kp (ds : List Nat) (T J : Nat → V) : Nat → V := fun i => bif Jd i ds then J i else T i
section
variable {ds ds2 : List Nat} {T T1 J : Nat → V} {d : Nat} {v : V}
theorem Ag.same : Ag ds T T := fun _ _ => rfl
theorem Ag.up (h : Ag ds T T1) (hd : Jd d ds = true) : Ag ds T (D6 T1 d v) := fun i hi => by
 unfold D6
 split
 ·rename_i e; subst e; rw [hd] at hi; cases hi
 ·exact h i hi
theorem Ag.kp (h : Ag ds T T1) (hs : (ds2.all fun i => Jd i ds) = true) : Ag ds T (kp ds2 T1 J) := fun i hi => by
 have : Jd i ds2 = false := by
  cases hm : Jd i ds2 with
  | false => rfl
  | true =>
   have key : ∀ l : List Nat, Jd i l = true → (l.all fun i => Jd i ds) = true → Jd i ds = true := by
    intro l
    induction l with
    | nil => intro h; cases h
    | cons x l ih =>
     intro h1 h2
     rw [jr, ec] at h2
     unfold Jd at h1
     cases hb : gp i x with
     | true => rw [Nat.eq_of_beq_eq_true hb]; exact h2.1
     | false => rw [hb] at h1; exact ih h1 h2.2
   rw [key ds2 hm hs] at hi
   cases hi
 show (bif Jd i ds2 then J i else T1 i) = T i
 rw [this]
 exact h i hi
end
section
variable {P : ep} {h : BX} {fk n base : Nat} {lk : Lk} {c : Cx} {ops : Array fc} {T T1 : Nat → V} {G : A5} {Q : St → Prop} {d : Nat} {v : V} {ds : List Nat}
theorem ek {T1 : Nat → V} (hd : T1 d = v := by rfl) (ha : Ag ds T T1 := by repeat (first | refine Ag.up ?_ (by rfl) | refine Ag.kp ?_ (by rfl) | exact Ag.same)) : ∃ T2, Ag ds T T2 ∧ T2 d = v ∧ (⟨T1, G⟩ : St) = ⟨T2, G⟩ := ⟨T1, ha, hd, rfl⟩
end
section
variable {P : ep} {h : BX} {fk n base : Nat} {lk : Lk} {c : Cx} {ops : Array fc} {s kk : Bool} {d : Nat} {ty : ea} {pos : String} {aft : Array Edge} {l : List (Bool × Bool × fc)} {Q : St → Prop} {T : Nat → V} {G G' H : A5} {rs : List B8} {op : Op}
variable {α : Type} [AF α]
end
section
variable {P : ep} {h : BX} {G H : A5} {rs rs1 rs2 rs3 : List B8} {T : Nat → V} {dd : Nat}
variable {α β γ : Type} [AF α] [Az α] [AF β] [Az β] [AF γ] [Az γ]
end
section calls
variable {P : ep} {h : BX} {fk n base : Nat} {lk : Lk} {ops : Array fc} {s kk : Bool} {d : Nat} {ty : ea} {pos : String} {aft : Array Edge} {l : List (Bool × Bool × fc)} {Q : St → Prop} {T : Nat → V} {G G' H : A5} {rs : List B8}
variable {α β γ : Type} [AF α] [Az α] [AF β] [Az β] [AF γ] [Az γ]
end calls
def oW (l : List Nat) : List (Nat × Bool) := l.map fun n => (n / 2, n % 2 == 1)
theorem GC {P : ep} {hs : BX} {fk n base : Nat} {lk : Lk} {ops : Array fc} {S : St} {Q : X → St → Prop} {id : Nat} (l : List Nat) (l' : List (Bool × Bool × fc)) (hq : BZ (Ar P hs fk n base lk) ops l' S (Q .normal)) (h : ZP (hs.lits fk || hs.iO fk) ops (oW l) = true := by decide +kernel) (hl : Mu ops (oW l) = l' := by rfl) : HC (Ar P hs fk n base lk) (.region id ops true) S Q := k8 _ l' h hl hq
section
variable {P : ep} {h : BX} {fk n base : Nat} {lk : Lk} {c : Cx} {ops : Array fc} {S : St} {Q : X → St → Prop} {T : Nat → V} {G : A5}
theorem pg {k : St → Prop} (h1 : k ⟨T, G⟩) : BZ c ops [] ⟨T, G⟩ (QM k Q .normal) := pE (gn h1)
theorem sr {id : Nat} {l : List fc} {q : Code} (h1 : BZ (Ar P h fk n base lk) l.toArray (l.map fun o => (false, false, o)) S (QM (fun S' => HC (Ar P h fk n base lk) q S' Q) Q .normal)) : HC (Ar P h fk n base lk) (.seq (.region id l.toArray false) q) S Q := AU (Cj h1)
end
section
variable {α : Type} [AF α] {H G : A5} {rs rs1 : List B8} {F : List Nat} {xs : List α} {w : V} {d : Nat}
end
section
variable {c : Cx} {G : A5} {v v' : V} {vs so : List V} {M1 M2 : List Nat} {ms : List SZ}
theorem RQ : AW c ms G [] = some ([], [], G) := rfl
end
section steps
variable {P : ep} {h : BX} {fk n base : Nat} {lk : Lk} {ops : Array fc} {s kk : Bool} {d : Nat} {ty : ea} {pos : String} {aft : Array Edge} {l : List (Bool × Bool × fc)} {Q : St → Prop} {T : Nat → V} {G G' H : A5} {rs : List B8}
variable {α : Type} [AF α]
end steps
section
variable {α : Type} [AF α] [Az α] [RD α] {G H : A5} {rs : List B8} {F : List Nat} {v : V} {xs : List α}
end
section
variable {α : Type} [AF α] {G G' H H0 : A5} {F S : List Nat} {sc : Nat} {xs : List α} {v : V} {rs : List B8}
def Z9 (sc : Nat) (G : A5) (xs : List α) (v : V) (F : List Nat) : Prop := (v = .tl 0 [] ∧ xs = [] ∧ F = []) ∨ ∃ b l, v = .snap b xs.length (AB 0 xs) ∧ F = [b] ∧ G[b]? = some (.Bt l xs.length (AF.sz α)) ∧ sc ≤ l
abbrev Gr (S F : List Nat) (sc : Nat) (xs : List α) (v : V) : B8 := .tree S F fun G => Z9 sc G xs v F
theorem Z9.mono (h : Z9 sc G xs v F) (hg : ∀ b ∈ F, G'[b]? = G[b]?) : Z9 sc G' xs v F := by
 rcases h with h | ⟨b, l, h1, h2, h3, h4⟩
 ·exact .inl h
 ·exact .inr ⟨b, l, h1, h2, by rw [hg b (by rw [h2]; simp)]; exact h3, h4⟩
theorem JL (h : Z9 sc G xs v F) : (v = .tl xs.length (AB 0 xs)) ∨ ∃ b, v = .snap b xs.length (AB 0 xs) := by
 rcases h with ⟨rfl, rfl, _⟩ | ⟨b, l, h1, _⟩
 ·exact .inl rfl
 ·exact .inr ⟨b, h1⟩
theorem BT {j : Nat} (hO : A6 H G rs) (hj : rs[j]? = some (Gr S F sc xs v)) : v.cellsOf = [v] ∧ v.Bm = true := by
 rcases JL (hO.tree hj).1 with rfl | ⟨b, rfl⟩ <;> exact ⟨rfl, rfl⟩
theorem Cu {j : Nat} (hO : A6 H G rs) (hj : rs[j]? = some (Gr S F sc xs v)) (dg : Nat) (hdg : 0 < dg) : BS dg v = true := by
 rcases JL (hO.tree hj).1 with rfl | ⟨b, rfl⟩ <;> (simp only [BS]; exact Jx hdg xs)
theorem Tx {j : Nat} (hO : A6 H G rs) (hj : rs[j]? = some (Gr S F sc xs v)) : Kn G v xs := by
 rcases JL (hO.tree hj).1 with rfl | ⟨b, rfl⟩ <;> exact ⟨rfl, rfl⟩
theorem A6.Im (hO : A6 H G rs) (α : Type) [AF α] (S : List Nat) (sc : Nat) : A6 H G (Gr S [] sc ([] : List α) (.tl 0 []) :: rs) where
 pre := hO.pre
 len := hO.len
 ok := fun r hr => by
  rcases fi.1 hr with rfl | hr
  ·exact ⟨fun b hb => (by cases hb), fun _ _ => .inl ⟨rfl, rfl, rfl⟩⟩
  ·exact hO.ok r hr
 apart := il.2 ⟨fun r hr x hx => (by cases hx), hO.apart⟩
theorem MR (hO : A6 H G rs) (j : Nat) (lv : Nat) (hj : rs[j]? = some (Gr S F sc xs v) := by rfl) : ∃ l, ∀ k, Al lv G (k + 2) v = some (.lit l xs.length (AB 0 xs), []) := by
 rcases JL (hO.tree hj).1 with rfl | ⟨b, rfl⟩
 ·exact ⟨lv, fun k => by rw [Al, K3 _ (CH xs) (CY xs)]; rfl⟩
 ·exact ⟨lv, fun k => by rw [Al, K3 _ (CH xs) (CY xs)]; rfl⟩
theorem Cf {base d : Nat} (hd : sc ≤ d - 1) : ZE base d (Gr S F sc xs v) := fun H G hl hlg h => by
 obtain ⟨hb, hp⟩ := h
 subst hl
 have hlen : (Kl H.length d G).length = G.length := by unfold Kl; rw [dw, gh, ja, ko]; omega
 refine ⟨fun b tp => by rw [hlen]; exact hb b tp, fun G' hg => ?_⟩
 rcases hp G fun _ _ => rfl with h | ⟨b, l, h1, h2, h3, h4⟩
 ·exact .inl h
 ·have e := hg b (by rw [h2]; simp)
  unfold Kl at e
  rw [J0 hlg, h3] at e
  split at e
  ·exact .inr ⟨b, l, h1, h2, e, h4⟩
  ·exact .inr ⟨b, min l (d - 1), h1, h2, e, by omega⟩
theorem kI {d : Nat} (hd : 0 < d) (j : Nat) (hj : rs[j]? = some (Gr [] F sc xs v) := by rfl) (sj : sc = d := by rfl) : Z7 2 H d rs v (.lit 0 xs.length (AB 0 xs)) (rs.eraseIdx j) := fun G hO k => by
 subst sj
 obtain ⟨h, xg⟩ := hO.tree hj
 have td := fun X => Gc (th := false) (lo := H.length) (d := sc) (k := k) (X := X) (AB 0 xs) (GV hd ig _ (CH xs)) (CY xs)
 rcases h with ⟨rfl, rfl, _⟩ | ⟨b, l, rfl, hF, xw, hl⟩
 ·exact ⟨G, by rw [BO]; rfl, hO.drop (jq _ _)⟩
 ·have hb : b ∈ F := by rw [hF]; simp
  have hlo := ib.1 fun h => by cases (xg b hb).2 h
  refine ⟨G.set b .dead, ?_, La hO hj (by rw [fa]; exact hO.len) fun c hc => ?_⟩
  ·rw [BO]
   simp only [xw]
   rw [rr (by omega), td]
   rfl
  ·rw [AX, rr]
   rintro ⟨rfl, _⟩; exact hc hb
theorem Kr (j : Nat) (hj : rs[j]? = some (Gr [] F sc xs v) := by rfl) : lN 2 H rs v (.lit 0 xs.length (AB 0 xs)) (rs.eraseIdx j) := fun G hO k => by
 have td := fun G => Du (lo := H.length) (k := k) (H := G) (AB 0 xs) (CH xs) (CY xs)
 obtain ⟨h, xg⟩ := hO.tree hj
 rcases h with ⟨rfl, rfl, _⟩ | ⟨b, l, rfl, hF, xw, hl⟩
 ·exact ⟨G, by rw [AV]; rfl, hO.drop (jq _ _)⟩
 ·have hb : b ∈ F := by rw [hF]; simp
  have hlo := ib.1 fun h => by cases (xg b hb).2 h
  refine ⟨G.set b .dead, ?_, La hO hj (by rw [fa]; exact hO.len) fun c hc => ?_⟩
  ·rw [AV]
   simp only [xw]
   rw [rr (by omega), td]; rfl
  ·rw [AX, rr]
   rintro ⟨rfl, _⟩; exact hc hb
theorem A6.qM {j : Nat} {p p' : A5 → Prop} (hO : A6 H G rs) (hj : rs[j]? = some (.tree S [] p)) (x : Bv) (hp : ∀ G2 : A5, G2[G.length]? = some x → p' G2) : A6 H (G ++ [x]) (rs.set j (.tree S [G.length] p')) := by
 refine hO.swap hj rfl rfl ⟨fun b hb => ?_, fun G' hg => hp G' ?_⟩
 ·simp only [dt] at hb
  subst hb
  exact ⟨by simp, fun sd => absurd hO.len (by omega)⟩
 ·rw [hg _ (by simp)]; exact H7 _ _
end
section steps
variable {P : ep} {h : BX} {fk n base : Nat} {lk : Lk} {c : Cx} {ops : Array fc} {s kk : Bool} {d : Nat} {ty : ea} {pos : String} {aft : Array Edge} {l : List (Bool × Bool × fc)} {Q : St → Prop} {T : Nat → V} {G G' H H0 : A5} {rs : List B8} {op : Op} {S F F2 : List Nat}
variable {α : Type} [AF α]
theorem TW {xs : List α} {x : ed} {t : ea} {v : V} {sc : Nat} (hO : A6 H G rs) (j : Nat) (ht : IA P t = some false) (k : BZ (Ar P h fk n base lk) ops l ⟨D6 T d (.int .i64 xs.length), G⟩ Q) (h1 : ev T x = some v := by rfl) (hj : rs[j]? = some (Gr S F sc xs v) := by rfl) (hd : fj d n = true := by rfl) :
  BZ (Ar P h fk n base lk) ops ((s, kk, ⟨some d, .call ⟨.builtin .len, #[x], #[t]⟩, ty, pos, aft, none⟩) :: l) ⟨T, G⟩ Q := by
 refine BE (b := false) (a := v) ht k h1 ?_ hd
 rcases JL (hO.tree hj).1 with rfl | ⟨b, rfl⟩ <;> rfl
theorem kE {st xt e e' : ea} {x y : ed} {v w : V} {xs ys zs : List α} {by_ sc : Nat} {z : List V} (hO : A6 H G rs) (j : Nat) (tf : CL by_ xs ys = some zs) (hy : Kn G w ys) (he : B0 P st = some e) (hz : B3 P e = some (AF.sz α)) (vd : C3 P e = some by_) (vi : BH P e = some z) (he' : B0 P xt = some e') (sj : sc ≤ lk.length) (hU : ∀ b ∈ S, AT lk b = true)
  (h1 : ev T x = some v) (h2 : ev T y = some w) (ug : z.length = AF.sz α) (hj : rs[j]? = some (Gr S F sc xs v)) (yu : h.XE fk = false) :
  ∃ v' F' G', He ((Ar P h fk n H.length lk).Ay s kk) (.call ⟨.builtin .append, #[x, y], #[st, xt]⟩) ⟨T, G⟩ = some (v', G') ∧ ((G'.length = G.length ∧ F' = F ∧ (∀ b, b ∉ F → G'[b]? = G[b]?) ∧ A6 (G'.take H.length) G' (rs.set j (Gr S F' sc zs v'))) ∨ A6 H G' (rs.set j (Gr S F' sc zs v'))) := by
 obtain ⟨hg, xg⟩ := hO.tree hj
 unfold CL at tf
 split at tf
 case isFalse => cases tf
 rename_i tb
 simp only [an] at tf
 subst tf
 have start : ∀ r : Option (V × A5), ER ((Ar P h fk n H.length lk).Ay s kk) st xt G v w = r → He ((Ar P h fk n H.length lk).Ay s kk) (.call ⟨.builtin .append, #[x, y], #[st, xt]⟩) ⟨T, G⟩ = r := by
  intro r hr
  rw [LL]
  simp only [h1, h2, ba]
  rw [TA (show _ = false from yu)]
  exact hr
 have um : (B0 P xt).isSome = true := by rw [he']; rfl
 have hap1 := fun m cs => ZH (c := (Ar P h fk n H.length lk).Ay s kk) (m := m) (cs := cs) hy he hz vd vi um ug
 have hap2 := fun b m cs => Sd (c := (Ar P h fk n H.length lk).Ay s kk) (b := b) (m := m) (cs := cs) hy he hz vd vi um ug
 have hrs : rs.set j (Gr S F sc xs v) = rs := by
  apply lj
  intro i
  rw [mb]
  split
  ·rename_i e1; subst e1
   obtain ⟨q1, q2⟩ := du.1 hj
   rw [ru q1, hj]
  ·rfl
 rcases ke ys.length with h0 | h0
 ·have hys : ys = [] := ff h0
  subst hys
  refine ⟨v, F, G, start _ ?_, .inr (by simp only [gi]; rw [hrs]; exact hO)⟩
  rcases JL hg with rfl | ⟨b, rfl⟩
  ·rw [hap1]; exact ru rfl
  ·rw [hap2]; exact ru rfl
 ·have tb := tb.resolve_left (by omega)
  have ye : (AB 0 xs ++ AB 0 ys).length = (xs.length + ys.length) * AF.sz α := by rw [dw, By, By, kq]
  have e1 : (xs ++ ys).length = xs.length + ys.length := dw
  rcases hg with ⟨rfl, rfl, rfl⟩ | ⟨b, lv, rfl, rfl, xw, hlv0⟩
  ·refine ⟨.snap G.length ys.length (AB 0 ys), [G.length], G ++ [.Bt lk.length ys.length (AF.sz α)], start _ ?_, .inr (hO.qM hj _ fun G2 h2 => .inr ⟨G.length, lk.length, by simp only [gu], rfl, by simpa using h2, sj⟩)⟩
   rw [hap1, rr (by omega), ru ⟨by simp, by simpa using tb⟩]
   simp only [kb, gu]
   rfl
  ·have sd : b < G.length := (du.1 xw).1
   have hm : ((Ar P h fk n H.length lk).Ay s kk).Bi b = true := Mf hU (xg b (by simp)).2
   have tg : ∀ c, c ∉ [b] → (G.set b (.Bt lv (xs.length + ys.length) (AF.sz α)))[c]? = G[c]? := fun c hc => by
    rw [AX, rr]; rintro ⟨rfl, _⟩; exact hc (by simp)
   refine ⟨.snap b (xs.length + ys.length) (AB 0 xs ++ AB 0 ys), [b], G.set b (.Bt lv (xs.length + ys.length) (AF.sz α)), start _ ?_, .inl ⟨fa .., rfl, tg, hO.lR hj (fa ..) tg fun G2 h2 => .inr ⟨b, lv, by rw [e1, Gv], rfl, ?_, hlv0⟩⟩⟩
   ·rw [hap2, rr (by omega), xw]
    simp only []
    rw [ru ⟨By xs, tb, trivial, trivial, hm⟩]
   ·rw [h2 b (by simp), AX, ru ⟨rfl, sd⟩, e1]
theorem TV {st xt e e' : ea} {x y : ed} {v w : V} {xs ys zs : List α} {by_ sc : Nat} {z : List V} (hO : A6 H G rs) (j : Nat) (tf : CL by_ xs ys = some zs) (hy : Kn G w ys) (he : B0 P st = some e) (hz : B3 P e = some (AF.sz α)) (vd : C3 P e = some by_) (vi : BH P e = some z) (he' : B0 P xt = some e') (sj : sc ≤ lk.length) (hb : base = H.length)
  (k : ∀ v' F' G', A6 H G' (rs.set j (Gr [] F' sc zs v')) → BZ (Ar P h fk n base lk) ops l ⟨D6 T d v', G'⟩ Q)
  (h1 : ev T x = some v := by rfl) (h2 : ev T y = some w := by rfl) (ug : z.length = AF.sz α := by rfl) (hj : rs[j]? = some (Gr [] F sc xs v) := by rfl) (yu : h.XE fk = false := by rfl) (hd : fj d n = true := by rfl) :
  BZ (Ar P h fk n base lk) ops ((s, kk, ⟨some d, .call ⟨.builtin .append, #[x, y], #[st, xt]⟩, ty, pos, aft, none⟩) :: l) ⟨T, G⟩ Q := by
 subst hb
 obtain ⟨v', F', G', e1, ⟨q1, rfl, q2, q3⟩ | q⟩ := kE (S := []) hO j tf hy he hz vd vi he' sj (fun b hb => by cases hb) h1 h2 ug hj yu
 ·rw [R8 hO hj q2] at q3
  exact pV e1 hd (k v' F' G' q3)
 ·exact pV e1 hd (k v' F' G' q)
theorem dV {st xt e e' : ea} {x y : ed} {v w : V} {xs ys zs : List α} {by_ dd sz : Nat} {z : List V} (hO : A6 H G rs) (j : Nat) (tf : CL by_ xs ys = some zs) (hy : Kn G w ys) (he : B0 P st = some e) (hz : B3 P e = some (AF.sz α)) (vd : C3 P e = some by_) (vi : BH P e = some z) (he' : B0 P xt = some e') (hb : base = H.length)
  (k : ∀ G', A6 H G' (rs.eraseIdx j) → BZ (Ar P h fk n base lk) ops l ⟨D6 T d (.lit 0 zs.length (AB 0 zs)), G'⟩ Q)
  (h1 : ev T x = some v := by rfl) (h2 : ev T y = some w := by rfl) (ug : z.length = AF.sz α := by rfl) (hj : rs[j]? = some (.own v dd sz xs.length (AB 0 xs)) := by rfl) (tu : sz = AF.sz α := by rfl) (yu : h.XE fk = true := by rfl) (hd : fj d n = true := by rfl) :
  BZ (Ar P h fk n base lk) ops ((s, kk, ⟨some d, .call ⟨.builtin .append, #[x, y], #[st, xt]⟩, ty, pos, aft, none⟩) :: l) ⟨T, G⟩ Q := by
 subst hb tu
 obtain ⟨hl, hv⟩ := hO.own hj
 unfold CL at tf
 split at tf
 case isFalse => cases tf
 rename_i tb
 simp only [an] at tf
 subst tf
 have start : ∀ (r : V × A5) (q : V × A5), ER ((Ar P h fk n H.length lk).Ay s kk) st xt G v w = some r → MM ((Ar P h fk n H.length lk).Ay s kk) r = some q → He ((Ar P h fk n H.length lk).Ay s kk) (.call ⟨.builtin .append, #[x, y], #[st, xt]⟩) ⟨T, G⟩ = some q := by
  intro r q hr hq
  rw [LL]
  simp only [h1, h2, ba, hr]
  exact hq
 have fz1 : ∀ (m : Nat) (us : List α) (G : A5), MM ((Ar P h fk n H.length lk).Ay s kk) (.tl m (AB 0 us), G) = some (.lit 0 m (AB 0 us), G) := fun m us G => by
  unfold MM
  rw [ru (show ((Ar P h fk n H.length lk).Ay s kk).hints.XE ((Ar P h fk n H.length lk).Ay s kk).fn = true from yu)]
  simp only []
  rw [ru (by rw [CH, CY]; rfl)]
  show AV _ (6 + 1 + 1) G (.tl m (AB 0 us)) = _
  rw [AV, Du _ (CH us) (CY us)]; rfl
 have fz2 : ∀ (m b l sz : Nat) (us : List α) (G : A5), G[b]? = some (.Bt l m sz) → H.length ≤ b → MM ((Ar P h fk n H.length lk).Ay s kk) (.snap b m (AB 0 us), G) = some (.lit 0 m (AB 0 us), G.set b .dead) := fun m b l sz us G hb hlo => by
  unfold MM
  rw [ru (show ((Ar P h fk n H.length lk).Ay s kk).hints.XE ((Ar P h fk n H.length lk).Ay s kk).fn = true from yu)]
  simp only []
  rw [ru (by rw [CH, CY]; rfl), hb]
  simp only []
  show AV H.length (6 + 1 + 1) G (.snap b m (AB 0 us)) = _
  rw [AV]
  simp only [hb]
  rw [rr (by omega), Du _ (CH us) (CY us)]; rfl
 have um : (B0 P xt).isSome = true := by rw [he']; rfl
 have hap1 := fun m cs => ZH (c := (Ar P h fk n H.length lk).Ay s kk) (m := m) (cs := cs) hy he hz vd vi um ug
 have hap2 := fun b m cs => Sd (c := (Ar P h fk n H.length lk).Ay s kk) (b := b) (m := m) (cs := cs) hy he hz vd vi um ug
 rcases ke ys.length with h0 | h0
 ·have hys : ys = [] := ff h0
  subst hys
  simp only [gi] at k
  rcases hv with rfl | ⟨b, rfl, tj, xw⟩
  ·exact pV (start _ _ (by rw [hap1]; exact ru rfl) (fz1 _ _ _)) hd (k G (hO.drop (jq _ _)))
  ·exact pV (start _ _ (by rw [hap2]; exact ru rfl) (fz2 _ _ _ _ _ _ xw tj)) hd (k _ (hO.kill hj rfl))
 ·have tb := tb.resolve_left (by omega)
  have ye : (AB 0 xs ++ AB 0 ys).length = (xs.length + ys.length) * AF.sz α := by rw [dw, By, By, kq]
  have e1 : (xs ++ ys).length = xs.length + ys.length := dw
  rw [e1] at k
  rcases hv with rfl | ⟨b, rfl, tj, xw⟩
  ·refine pV (start (.snap G.length (xs.length + ys.length) (AB 0 (xs ++ ys)), G ++ [.Bt lk.length (xs.length + ys.length) (AF.sz α)]) _ ?_ (fz2 _ _ _ _ _ _ (H7 _ _) hO.len)) hd (k _ ?_)
   ·rw [hap1, rr (by omega), ru ⟨hl, tb⟩, Gv]
    rfl
   ·have h3 := (hO.alloc (.Bt lk.length (xs.length + ys.length) (AF.sz α))).kill (k := 0) rfl rfl
    exact h3.drop (jq _ _)
  ·have sd : b < G.length := (du.1 xw).1
   have hm : ((Ar P h fk n H.length lk).Ay s kk).Bi b = true := by
    unfold Cx.Bi
    simp only [gg, ry]
    exact .inl tj
   refine pV (start (.snap b (xs.length + ys.length) (AB 0 (xs ++ ys)), G.set b (.Bt dd (xs.length + ys.length) (AF.sz α))) _ ?_ (fz2 _ _ _ _ _ _ (by rw [AX, ru ⟨rfl, sd⟩]) tj)) hd (k _ ?_)
   ·rw [hap2, rr (by omega), xw]
    simp only []
    rw [ru ⟨hl, tb, trivial, trivial, hm⟩, Gv]
   ·rw [List.set_set]
    exact hO.kill hj rfl
end steps
end Go.Proofs.YtjklepgidjimfaaGreat.K
