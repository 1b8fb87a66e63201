/-
 An interpreter of the Go code, proved sound, and the rules by which typed functions are shown to be what it computes. Part 3 of 3. No conditions.
-/
import Derived.Test.YtblodpbcinkehaaGreatK1
import Derived.WalkKit
import Derived.ProofKit
import Derived.OpenShut
import Derived.ShutString
import Derived.ChangeOld
import Derived.Below
import Derived.SizedLaws
import Derived.Carry
import Derived.IntWalk
import GoSem.ClaimFn
import Derived.KernelRfl
set_option linter.unusedVariables false
set_option linter.unusedSimpArgs false
namespace Go.Proofs.YtblodpbcinkehaaGreat.K
open Go renaming Oper → bq, Operand → aw, TypeId → ao, FuncId → fh, Program → bg, ResultVar → dv, IntKind → fc, World → ej, Value → bm
open Option.some renaming injEq → aa, inj → an
open Prod.mk renaming injEq → ag
open Nat renaming le_refl → ak, lt_of_lt_of_le → ck, lt_irrefl → ig, lt_or_ge → bz, le_max_left → gi, le_max_right → gh, blt → cg, le_of_ble_eq_true → bp, ble → fj, not_lt → dt, succ_mul → gp, add_comm → ij, one_pos → fa, add_sub_cancel_left → jt, zero_add → fy, sub_self → gq, add_assoc → gk, pos_iff_ne_zero → eu, zero_le → db, add_zero → ju, eq_zero_or_pos → jh, sub_add_cancel → lz, beq → ed
open List renaming map_cons → df, range → da, ext_getElem? → ib, getElem?_map → dj, getElem?_eq_none → bf, map_map → kz, all_eq_true → cb, mem_map → ea, mem_cons_self → bu, mem_cons_of_mem → ca, getElem?_cons_zero → ee, mem_singleton → bl, getElem?_eq_some_iff → al, getElem?_eq_getElem → aj, getElem?_append_left → az, length_append → aq, mem_cons → bw, pairwise_cons → ec, pairwise_iff_getElem → cr, length_set → cp, getElem_set → ef, mem_of_getElem? → bh, mem_iff_getElem → dh, getElem_mem → dc, getElem?_take → dn, cons_append → di, append_nil → cu, length_cons → du, all_append → dk, getElem?_cons_succ → ku, append_assoc → bj, getElem?_append_right → cd, drop_append → kc, drop_of_length_le → ic, nil_append → ff, length_drop → kn, set_cons_zero → lj, take_zero → mN, drop_zero → ga, take_length_add_append → kg, drop_length_add_append → kh, replicate → ch, replicate_succ → jz, all_cons → fg, length_map → fe, mapM_cons → jw, drop_drop → mO, take_append_drop → lR, take_of_length_le → eh, set_append_right → lS, length_take → dq, length_replicate → gj, map_append → fi, drop_length → mA, eq_nil_of_length_eq_zero → bx, getElem?_set → jj, getElem_eraseIdx → jo, length_eraseIdx → js, eraseIdx_sublist → fw, take_length → gf, all_nil → mU, length_singleton → dw, mem_reverse → mB, mem_append → au, contains_iff_mem → lT, nodup_append → cn, mem_append_right → cw, mem_append_left → cq, drop → kf, nodup_cons → dr, take_left' → mG, drop_left' → mH, length_eq_one_iff → ie, headD_cons → mI, tail_cons → mP
open List.cons renaming injEq → ei
open Option renaming map_some → ai, map_eq_some_iff → af, bind_some → ab, bind_eq_some_iff → ae, pure_def → ji, bind_eq_bind → jr, map_none → gg
open Bool renaming and_eq_true → av, false_eq_true → ba, or_eq_true → de, false_or → mQ, eq_iff_iff → fb, and_true → ke, not_eq_true' → ft, not_eq_true → mC
open Classical renaming choose → eb, choose_spec → cj
open Int renaming toNat_natCast → fm
def G5 (c : Cx) (b : Code) (S : St) (Q : X → St → Prop) : Prop := ∃ x S', Dd c b S = some (x, S') ∧ Q x S'
def Nf (k : St → Prop) (Q : X → St → Prop) (x : X) (S : St) : Prop := match x with | .normal => k S | x => Q x S
def D4 (T : Nat → V) (d : Nat) (v : V) : Nat → V := fun i => if i = d then v else T i
theorem MS (T : Nat → V) (d : Nat) (v : V) (i : Nat) : D4 T d v i = if i = d then v else T i := rfl
def LM (c : Cx) (ops : Array bq) : List (Bool × Bool × bq) → St → Option St
 | [], S => some S
 | (s, k, o) :: l, S => (BZ (c.BQ s k) ops o S).bind fun S' => LM c ops l S'
def BW (c : Cx) (ops : Array bq) (l : List (Bool × Bool × bq)) (S : St) (Q : St → Prop) : Prop := ∃ S', LM c ops l S = some S' ∧ Q S'
def dH (x : Option (V × A4)) (Q : V → A4 → Prop) : Prop := ∃ v H, x = some (v, H) ∧ Q v H
def dG {α : Type} (x : Option α) (Q : α → Prop) : Prop := ∃ v, x = some v ∧ Q v
def HX (c : Cx) (op : Op) (S : St) : Option (V × A4) := C5 c ⟨none, op, 0, "", #[], none⟩ S
theorem QU (c : Cx) (o : bq) (S : St) : C5 c o S = HX c o.op S := rfl
theorem XU {α : Type} (a : α) (Q : α → Prop) : dG (some a) Q = Q a := by
 apply propext
 simp [dG]
section
variable {c : Cx} {ops : Array bq} {S : St} {Q : X → St → Prop}
theorem TU {x : X} : (∃ x' S', some (x, S) = some (x', S') ∧ Q x' S') ↔ Q x S := by
 constructor
 ·rintro ⟨x', S', h, hq⟩
  simp only [aa, ag] at h
  obtain ⟨rfl, rfl⟩ := h
  exact hq
 ·exact fun h => ⟨_, _, rfl, h⟩
theorem XT : G5 c .skip S Q = Q .normal S := by
 apply propext; unfold G5; rw [SO]; exact TU
theorem XR (id : Nat) : G5 c (.exit id) S Q = Q (.exit id) S := by
 apply propext; unfold G5; rw [SM]; exact TU
theorem ZQ : G5 c .ret S Q = Q .ret S := by
 apply propext; unfold G5; rw [Ug]; exact TU
theorem US (p q : Code) : G5 c (.seq p q) S Q = G5 c p S (Nf (fun S' => G5 c q S' Q) Q) := by
 apply propext
 unfold G5
 simp only [Uh, Rv]
 constructor
 ·rintro ⟨x, S', h, hq⟩
  split at h
  ·rename_i S1 h1
   exact ⟨.normal, S1, h1, x, S', h, hq⟩
  ·rename_i hne
   refine ⟨x, S', h, ?_⟩
   cases x with
   | normal => exact absurd h (hne S')
   | exit i => exact hq
   | ret => exact hq
 ·rintro ⟨x, S', h, hq⟩
  rw [h]
  cases x with
  | normal => exact hq
  | exit i => exact ⟨_, _, rfl, hq⟩
  | ret => exact ⟨_, _, rfl, hq⟩
def cN (v : V) (A B : Prop) : Prop := match v with | .bool true => A | .bool false => B | _ => False
theorem VU (b : Bool) (A B : Prop) : cN (.bool b) A B = if b then A else B := by cases b <;> rfl
theorem XP (y : aw) (p q : Code) : G5 c (.cond y p q) S Q = dG (ev S.T y) fun v => cN v (G5 c p S Q) (G5 c q S Q) := by
 apply propext
 unfold G5
 simp only [SK, dG]
 constructor
 ·rintro ⟨x, S', h, hq⟩
  split at h
  ·rename_i hy; exact ⟨_, hy, x, S', h, hq⟩
  ·rename_i hy; exact ⟨_, hy, x, S', h, hq⟩
  ·cases h
 ·rintro ⟨v, hv, h⟩
  rw [hv]
  unfold cN at h
  split at h
  ·exact h
  ·exact h
  ·exact h.elim
theorem VV (id : Nat) (p : Code) : G5 c (.block id p) S Q = G5 c p S fun x S' => match x with | .exit i => if i = id then Q .normal S' else Q (.exit i) S' | x => Q x S' := by
 apply propext
 unfold G5
 simp only [R5]
 constructor
 ·rintro ⟨x, S', h, hq⟩
  split at h
  ·rename_i i S1 h1
   refine ⟨_, _, h1, ?_⟩
   split at h <;>
   ·rename_i hi
    simp only [aa, ag] at h
    obtain ⟨rfl, rfl⟩ := h
    simp only [hi, if_true, if_false]
    exact hq
  ·rename_i hne
   refine ⟨x, S', h, ?_⟩
   cases x with
   | normal => exact hq
   | exit i => exact absurd h (hne i S')
   | ret => exact hq
 ·rintro ⟨x, S', h, hq⟩
  rw [h]
  cases x with
  | normal => exact ⟨_, _, rfl, hq⟩
  | exit i =>
   simp only [] at hq ⊢
   split at hq
   ·rename_i hi; rw [if_pos hi]; exact ⟨_, _, rfl, hq⟩
   ·rename_i hi; rw [if_neg hi]; exact ⟨_, _, rfl, hq⟩
  | ret => exact ⟨_, _, rfl, hq⟩
theorem Kn {b : Code} {Q' : X → St → Prop} (h : G5 c b S Q) (hq : ∀ x S, Q x S → Q' x S) : G5 c b S Q' :=
 let ⟨x, S', h1, h2⟩ := h; ⟨x, S', h1, hq _ _ h2⟩
theorem XS {p : Code} (I : Nat → St → Prop) : ∀ (n : Nat) {S : St}, I n S → (∀ k S, k ≤ n → I k S → G5 c p S (Nf (fun S' => ∃ j, j < k ∧ I j S') Q)) → G5 c (.loop p) S Q := by
 intro n
 induction n using Nat.strongRecOn with
 | _ n ih =>
  intro S h0 hstep
  obtain ⟨x, S1, h1, h2⟩ := hstep n S (ak _) h0
  unfold G5
  rw [SN, h1]
  unfold Nf at h2
  cases x with
  | normal =>
   obtain ⟨j, hj, hI⟩ := h2
   exact ih j hj hI fun k S hk hI => hstep k S (by omega) hI
  | exit i => exact ⟨_, _, rfl, h2⟩
  | ret => exact ⟨_, _, rfl, h2⟩
theorem QW {cf : Nat → Cx} {fl : Nat → Bool × Bool} (hcf : ∀ i, cf i = c.BQ (fl i).1 (fl i).2) : ∀ (l : List Nat) (l' : List (Bool × Bool × bq)) (S : St), (l.map fun i => (ops[i]?).map fun o => ((fl i).1, (fl i).2, o)) = l'.map some → DK cf ops l S = LM c ops l' S
 | [], l', S, h => by
  cases l' with
  | nil => rfl
  | cons x l' => simp at h
 | i :: l, l', S, h => by
  cases l' with
  | nil => simp at h
  | cons x l' =>
   simp only [df, ei] at h
   obtain ⟨h1, h2⟩ := h
   cases ho : ops[i]? with
   | none => rw [ho] at h1; cases h1
   | some o =>
    rw [ho] at h1
    simp only [ai, aa] at h1
    subst h1
    simp only [DK, ho, LM, hcf i]
    congr 1
    funext S'
    exact QW hcf l l' S' h2
def T3 (ops : Array bq) : List (Bool × Bool × bq) := ops.toList.map fun o => (false, false, o)
theorem VB (l : List bq) : (da l.length).map (fun i => l[i]?) = l.map some := by
 apply ib
 intro i
 simp only [dj]
 by_cases h : i < l.length
 ·simp [h]
 ·rw [bf (by simp; omega), bf (by omega)]
  rfl
theorem TT (hc : c.still = false ∧ c.calm = false) (id : Nat) (ops : Array bq) : G5 c (.region id ops false) S Q = BW c ops (T3 ops) S (Q .normal) := by
 have h1 : DK (fun _ => c) ops (da ops.size) S = LM c ops (T3 ops) S := by
  refine QW (fl := fun _ => (false, false)) (fun i => ?_) _ _ _ ?_
  ·unfold Cx.BQ
   cases c
   simp only [Cx.mk.injEq, true_and] at hc ⊢
   exact ⟨hc.1, hc.2, trivial⟩
  ·have := VB ops.toList
   unfold T3
   rw [kz]
   have h2 := congrArg (List.map (Option.map fun o => (false, false, o))) this
   simp only [kz] at h2
   simpa [Function.comp_def] using h2
 apply propext
 unfold G5 BW
 rw [Ph, h1]
 constructor
 ·rintro ⟨x, S', h, hq⟩
  simp only [af, ag] at h
  obtain ⟨S1, h1, rfl, rfl⟩ := h
  exact ⟨S1, h1, hq⟩
 ·rintro ⟨S', h, hq⟩
  exact ⟨.normal, S', by rw [h]; rfl, hq⟩
def Vn (ow : Bool) (ops : Array bq) (l : List (Nat × Bool)) (ps : List (Nat × Nat)) : Bool := Ih ow ops && Oc ow ops == l.map (·.1) && (l.all fun x => Jh ops (Ex ops) x.1 == x.2) && Wf ops (Ex ops) == ps
def Vm (ow : Bool) (ops : Array bq) (l : List (Nat × Bool)) : Bool := Vn ow ops l []
def Kt (ops : Array bq) (l : List (Nat × Bool)) : List (Bool × Bool × bq) := l.filterMap fun x => (ops[x.1]?).map fun o => (true, x.2, o)
theorem VW {id : Nat} (l : List (Nat × Bool)) (ps : List (Nat × Nat)) (h : Vn c.lits ops l ps = true) (hq : BW c ops (Kt ops l) S fun S' => (ps.all fun p => G0 c.base (S'.T p.1) (S'.T p.2)) = true ∧ Q .normal S') : G5 c (.region id ops true) S Q := by
 unfold Vn at h
 rw [av, beq_iff_eq] at h
 obtain ⟨h, hps⟩ := h
 simp only [av, beq_iff_eq, cb] at h
 obtain ⟨⟨hok, hord⟩, hcalm⟩ := h
 obtain ⟨S', h1, hpo, h2⟩ := hq
 refine ⟨.normal, S', ?_, h2⟩
 rw [SL, if_pos hok, hord]
 have hlt : ∀ x ∈ l, x.1 < ops.size := by
  intro x hx
  refine (Ii hok).2.1 x.1 ?_
  rw [hord]
  exact ea.2 ⟨x, hx, rfl⟩
 have : DK (Ed c ops) ops (l.map (·.1)) S = LM c ops (Kt ops l) S := by
  refine QW (fl := fun i => (true, Jh ops (Ex ops) i)) (fun i => rfl) _ _ _ ?_
  clear h1 hord
  unfold Kt
  induction l with
  | nil => rfl
  | cons x l ih =>
   have hx := hlt x (bu ..)
   have hcx := hcalm x (bu ..)
   have ih := ih (fun y hy => hcalm y (ca _ hy)) (fun y hy => hlt y (ca _ hy))
   simp only [df, List.filterMap_cons, Array.getElem?_eq_getElem hx, ai, hcx, ei, true_and]
   exact ih
 rw [this, h1, ab, if_pos]
 ·rfl
 ·unfold Jw
  rw [hps]
  exact hpo
theorem XQ {id : Nat} (l : List (Nat × Bool)) (h : Vm c.lits ops l = true) (hq : BW c ops (Kt ops l) S (Q .normal)) : G5 c (.region id ops true) S Q :=
 VW l [] h (by obtain ⟨S', h1, h2⟩ := hq; exact ⟨S', h1, rfl, h2⟩)
theorem ZR (Q : St → Prop) : BW c ops [] S Q = Q S := by
 apply propext; simp [BW, LM]
theorem XW {s k : Bool} {d : Nat} {op : Op} {ty : ao} {pos : String} {aft : Array Edge} {l : List (Bool × Bool × bq)} {Q : St → Prop} :
  BW c ops ((s, k, ⟨some d, op, ty, pos, aft, none⟩) :: l) S Q = (d < c.ntmps ∧ dH (HX (c.BQ s k) op S) fun v H => BW c ops l ⟨D4 S.T d v, H⟩ Q) := by
 apply propext
 unfold BW dH
 simp only [LM, BZ, CW, ab, if_true, IV]
 constructor
 ·rintro ⟨S', h, hq⟩
  simp only [ae] at h
  obtain ⟨S1, h1, h2⟩ := h
  split at h1
  case isFalse => cases h1
  rename_i hd
  simp only [af, Prod.exists] at h1
  obtain ⟨v, H, h3, rfl⟩ := h1
  exact ⟨hd, v, H, h3, S', h2, hq⟩
 ·rintro ⟨hd, v, H, h3, S', h2, hq⟩
  refine ⟨S', ?_, hq⟩
  have hd' : d < (c.BQ s k).ntmps := hd
  rw [if_pos hd', QU, h3]
  exact h2
theorem XV {s k : Bool} {op : Op} {ty : ao} {pos : String} {aft : Array Edge} {l : List (Bool × Bool × bq)} {Q : St → Prop} :
  BW c ops ((s, k, ⟨none, op, ty, pos, aft, none⟩) :: l) S Q = dH (HX (c.BQ s k) op S) fun v H => BW c ops l ⟨S.T, H⟩ Q := by
 apply propext
 unfold BW dH
 simp only [LM, BZ, CW, ab, if_true, IV]
 constructor
 ·rintro ⟨S', h, hq⟩
  simp only [ae, af, Prod.exists] at h
  obtain ⟨S1, ⟨v, H, h3, rfl⟩, h2⟩ := h
  exact ⟨v, H, h3, S', h2, hq⟩
 ·rintro ⟨v, H, h3, S', h2, hq⟩
  refine ⟨S', ?_, hq⟩
  rw [QU, h3]
  exact h2
def Nj (ops : Array bq) (T : Nat → V) (j : Nat) (w : Bool) : Option Bool :=
 ((ops[j]?).bind (·.dst)).bind fun t => match T t with
  | .bool b => some (b == w)
  | .EZ [] => some false
  | _ => none
theorem PT {s k : Bool} {d : Nat} {op : Op} {ty : ao} {pos : String} {aft : Array Edge} {j : Nat} {w : Bool} {l : List (Bool × Bool × bq)} {Q : St → Prop} :
  BW c ops ((s, k, ⟨some d, op, ty, pos, aft, some (j, w)⟩) :: l) S Q = (d < c.ntmps ∧ dG (Nj ops S.T j w) fun b => if b then dH (HX (c.BQ s k) op S) fun v H => BW c ops l ⟨D4 S.T d v, H⟩ Q else BW c ops l ⟨D4 S.T d C7, S.H⟩ Q) := by
 have hw : CW ops S.T ⟨some d, op, ty, pos, aft, some (j, w)⟩ = Nj ops S.T j w := by
  unfold CW Nj
  simp only []
  cases (ops[j]?).bind (·.dst) <;> rfl
 apply propext
 unfold BW dH dG
 simp only [LM, BZ, hw, IV]
 constructor
 ·rintro ⟨S', h, hq⟩
  simp only [ae] at h
  obtain ⟨S1, ⟨b, hb, h1⟩, h2⟩ := h
  cases b with
  | true =>
   simp only [if_true] at h1
   split at h1
   case isFalse => cases h1
   rename_i hd
   simp only [af, Prod.exists] at h1
   obtain ⟨v, H, h3, rfl⟩ := h1
   exact ⟨hd, true, hb, by rw [if_pos rfl]; exact ⟨v, H, h3, S', h2, hq⟩⟩
  | false =>
   simp only [ba, if_false] at h1
   split at h1
   case isFalse => cases h1
   rename_i hd
   simp only [aa] at h1
   subst h1
   exact ⟨hd, false, hb, by rw [if_neg (by simp)]; exact ⟨S', h2, hq⟩⟩
 ·rintro ⟨hd, b, hb, h⟩
  have hd' : d < (c.BQ s k).ntmps := hd
  cases b with
  | true =>
   rw [if_pos rfl] at h
   obtain ⟨v, H, h3, S', h2, hq⟩ := h
   refine ⟨S', ?_, hq⟩
   simp only [hb, ab, if_true, if_pos hd', QU, h3]
   exact h2
  | false =>
   rw [if_neg (by simp)] at h
   obtain ⟨S', h2, hq⟩ := h
   refine ⟨S', ?_, hq⟩
   simp only [hb, ab, ba, if_false, if_pos hd']
   exact h2
theorem Wl (x : aw) : HX c (.move x) S = (ev S.T x).map fun v => (v, S.H) := rfl
theorem Sx (x : aw) : HX c (.assign x) S = (ev S.T x).map fun v => (v, S.H) := rfl
def UB (v : V) (x y : Option V) : Option V := match v with | .bool true => x | .bool false => y | _ => none
theorem T0 (x y : Option V) : UB (.bool true) x y = x := rfl
theorem Rk (x y : Option V) : UB (.bool false) x y = y := rfl
theorem Rg (a x y : aw) : HX c (.pick a x y) S = ((ev S.T a).bind fun v => UB v (ev S.T x) (ev S.T y)).map fun v => (v, S.H) := by
 unfold HX C5 UB
 simp only []
 cases ev S.T a with
 | none => rfl
 | some v =>
  cases v with
  | bool b => cases b <;> rfl
  | _ => rfl
theorem V3 (t : ao) : HX c (.alloc t) S = (Aw c.P t).bind fun sz => (BG c.P t).bind fun z => some (.ptr S.H.length 0, S.H ++ [.cells sz z]) := rfl
theorem U5 (t : ao) (x : aw) : HX c (.box t x) S = (Aw c.P t).bind fun sz => (ev S.T x).bind fun v => if v.cellsOf.all V.Ba then some (.ptr S.H.length 0, S.H ++ [.cells sz v.cellsOf]) else none := rfl
theorem V5 (t : ao) (ps : Array (Nat × aw)) : HX c (.build t ps) S = (Qp S.T ps.toList).bind fun ps => (BG c.P t).bind fun z => (Dg c.P t).bind fun pl => ((DS (fun i => pl[i]?) z ps).map .agg).map fun v => (v, S.H) := rfl
theorem Ka (t : ao) (a : aw) : HX c (.load t a) S = (ev S.T a).bind fun v => (Ep c.P t S.H v).map fun v => (v, S.H) := rfl
theorem LL (t : ao) (a x : aw) : HX c (.store t a x) S = (ev S.T a).bind fun p => (ev S.T x).bind fun v => (FE c t S.H p v).map fun H => (C7, H) := rfl
def SE (v : V) : Option V := match v with | .ptr b off => some (.ptr b off) | .lp lv cs off => some (.lp lv cs off) | _ => none
theorem QV (x : aw) : HX c (.nilCheck x) S = (ev S.T x).bind fun v => (SE v).map fun v => (v, S.H) := by
 unfold HX C5 SE
 simp only []
 cases ev S.T x with
 | none => rfl
 | some v => cases v <;> rfl
theorem V4 (op : BinOp) (t x y) (t2) : HX c (.binOp op t x y t2) S = (ev S.T x).bind fun a => (ev S.T y).bind fun b => (Qw c.P op t a b).map fun v => (v, S.H) := rfl
theorem Wm (op : UnOp) (t x) : HX c (.unOp op t x) S = (ev S.T x).bind fun a => (iO op a).map fun v => (v, S.H) := rfl
def Yy (v : V) (off : Nat) : Option V := match v with | .ptr b o => some (.ptr b (o + off)) | .lp lv cs o => some (.lp lv cs (o + off)) | _ => none
theorem Ob (s : ao) (x : aw) (f : Nat) : HX c (.fieldAddr s x f) S = (AK c.P s f).bind fun off => (ev S.T x).bind fun v => (Yy v off).map fun v => (v, S.H) := by
 unfold HX C5 Yy
 simp only []
 cases AK c.P s f with
 | none => rfl
 | some off =>
  simp only [ab]
  cases ev S.T x with
  | none => rfl
  | some v => cases v <;> rfl
def asInt (v : V) : Option Int := match v with | .int _ n => some n | _ => none
def Sd (d sz : Nat) (v : V) (n : Int) : Option V := (Cd v).bind fun len => if 0 ≤ n ∧ n < len then
 match v with
 | .lit lv _ cs => some (.lp lv cs (n.toNat * sz))
 | .tl _ cs => some (.lp 0 cs (n.toNat * sz))
 | .snap _ _ cs => some (.lp d cs (n.toNat * sz))
 | .pre _ _ _ cs => some (.lp d cs (n.toNat * sz))
 | .sl b off _ => some (.ptr b (off + n.toNat * sz))
 | _ => none
 else none
theorem ER (t : ao) (x i : aw) : HX c (.indexAddr t x i) S = (B4 c.P t).bind fun e => (Aw c.P e).bind fun sz => (ev S.T x).bind fun v => (ev S.T i).bind fun w => (asInt w).bind fun n => (Sd c.d sz v n).map fun v => (v, S.H) := by
 unfold HX C5 asInt Sd
 simp only []
 cases B4 c.P t with
 | none => rfl
 | some e =>
  simp only [ab]
  cases Aw c.P e with
  | none => rfl
  | some sz =>
   simp only [ab]
   cases ev S.T x with
   | none => rfl
   | some v =>
    simp only [ab]
    cases ev S.T i with
    | none => rfl
    | some w =>
     cases w with
     | int k n =>
      simp only [ab]
      cases Cd v with
      | none => rfl
      | some len =>
       simp only [ab]
       split
       ·cases v <;> rfl
       ·rfl
     | _ => rfl
theorem Ja (t : ao) (n m : aw) : HX c (.makeSlice t n m) S = (ev S.T n).bind fun a => (ev S.T m).bind fun b => Iv c.P (c.hints.IA c.fn) t S.H a b := rfl
def XN (v : V) (i : Nat) : Option V := match v with | .EZ vs => vs[i]? | _ => none
theorem Rf (x : aw) (i : Nat) : HX c (.extract x i) S = (ev S.T x).bind fun v => (XN v i).map fun v => (v, S.H) := by
 unfold HX C5 XN
 simp only []
 cases ev S.T x with
 | none => rfl
 | some v => cases v <;> rfl
def SR (v : V) : Option (fh × List V) := match v with | .fn g caps => some (g, caps) | _ => none
theorem J1 (f : aw) (args : Array aw) (ats : Array ao) : HX c (.call ⟨.value f, args, ats⟩) S = (ev S.T f).bind fun fv => (SR fv).bind fun g => (Oq S.T args.toList).bind fun vs =>
  (Ah c (c.hints.Es g.1) S.H (vs ++ g.2)).bind fun r => c.Γ g.1 r.1 r.2.2 (c.lk ++ [c.DB g.1 r.2.1 r.2.2]) := by
 unfold HX C5 SR
 simp only []
 cases ev S.T f with
 | none => rfl
 | some v => cases v <;> rfl
def bO (v : V) (isStr : Bool) : Option Nat := match v with | .str s => if isStr then some s.size else none | v => if isStr then none else Cd v
def IX (P : bg) (t : ao) : Option Bool := match P.underlying t with | some .string => some true | some (.slice _) => some false | _ => none
theorem Yz (x : aw) (t : ao) : HX c (.call ⟨.builtin .len, #[x], #[t]⟩) S = (IX c.P t).bind fun b => (ev S.T x).bind fun v => (bO v b).map fun n => (.int .i64 n, S.H) := by
 unfold HX C5 IX bO
 simp only [List.getElem?_toArray, ee]
 cases c.P.underlying t with
 | none => rfl
 | some d =>
  cases d with
  | string =>
   simp only [ab, if_true]
   cases ev S.T x with
   | none => rfl
   | some v => cases v <;> rfl
  | slice e =>
   simp only [ab, ba, if_false]
   cases ev S.T x with
   | none => rfl
   | some v =>
    simp only [ab]
    cases v <;> simp [Cd]
  | _ => rfl
theorem Sw (a b : aw) (st xt : ao) : HX c (.call ⟨.builtin .append, #[a, b], #[st, xt]⟩) S = (ev S.T a).bind fun x => (ev S.T b).bind fun y => E6 c st xt S.H x y := rfl
theorem PJ {P : bg} {h : BI} {k : fh} {fn : Func} {body : Code} (hfn : P.funcs[k]? = some fn) (hb : fn.body = some body) {args : List V} {H : A4} {lk : Lk} {n : Nat} (hn : fn.ntmps = n) (hns : EO body = none) (hlen : args.length ≤ n) (hname : (fn.name == "runtime.NumGoroutine") = false) {rs : Array dv} (hrs : fn.results = rs) {r : V × A4}
  (hr : G5 (B0 P h k n H.length lk) body ⟨JX args, H⟩ fun x S => (x = .normal ∨ x = .ret) ∧ ((Av P S.H S.T rs.toList).bind fun vs => EE h k H.length lk.length (Et vs) S.H) = some r) : Ai P h k args H lk = some r := by
 subst hn hrs
 obtain ⟨x, S, h1, h2, h3⟩ := hr
 refine T5 hfn hb hns hlen hname ?_
 rw [h1]
 rcases h2 with rfl | rfl
 ·exact h3
 ·exact h3
end
inductive Bf where
 | B6 (n : Nat) (b : Bb)
 | own (v : V) (d sz n : Nat) (cells : List V)
 | SQ (S : List Nat) (n : Nat) (b : Bb)
 | QC (S : List Nat) (v : V) (d d1 sz n : Nat) (cells : List V)
 | tree (S F : List Nat) (p : A4 → Prop)
def Bf.DC : Bf → List Nat
 | .B6 n _ => [n]
 | .own (.snap b _ _) _ _ _ _ => [b]
 | .SQ _ n _ => [n]
 | .QC _ (.snap b _ _) _ _ _ _ _ => [b]
 | .tree _ F _ => F
 | _ => []
def Bf.U1 : Bf → Bool
 | .B6 .. => true
 | .own .. => true
 | _ => false
def Bf.ok (H G : A4) : Bf → Prop
 | .B6 n b => H.length ≤ n ∧ G[n]? = some b
 | .own v d sz n cells => cells.length = n * sz ∧ (v = .tl n cells ∨ ∃ b, v = .snap b n cells ∧ H.length ≤ b ∧ G[b]? = some (.BT d n sz))
 | .SQ S n b => (n < H.length → n ∈ S) ∧ G[n]? = some b
 | .QC S v d d1 sz n cells => cells.length = n * sz ∧ (v = .tl n cells ∨ ∃ b l, v = .snap b n cells ∧ G[b]? = some (.BT l n sz) ∧ ((b < H.length ∧ b ∈ S ∧ l = d) ∨ (H.length ≤ b ∧ l = d1)))
 | .tree S F p => (∀ b ∈ F, b < G.length ∧ (b < H.length → b ∈ S)) ∧ ∀ G', (∀ b ∈ F, G'[b]? = G[b]?) → p G'
structure A8 (H G : A4) (rs : List Bf) : Prop where
 pre : ∀ b, b < H.length → G[b]? = H[b]?
 len : H.length ≤ G.length
 ok : ∀ r ∈ rs, r.ok H G
 apart : rs.Pairwise fun r r' => ∀ x ∈ r.DC, x ∉ r'.DC
theorem A8.nil (H : A4) : A8 H H [] := ⟨fun _ _ => rfl, ak _, fun _ h => absurd h (by simp), .nil⟩
theorem A8.drop {H G : A4} {rs rs' : List Bf} (h : A8 H G rs) (hs : rs'.Sublist rs) : A8 H G rs' := ⟨h.pre, h.len, fun r hr => h.ok r (hs.subset hr), h.apart.sublist hs⟩
theorem Bf.H9 {H G : A4} {r : Bf} (h : r.ok H G) {x : Nat} (hx : x ∈ r.DC) : x < G.length := by
 cases r with
 | B6 n b =>
  simp only [Bf.DC, bl] at hx
  subst hx
  exact (al.1 h.2).1
 | own v d sz n cells =>
  obtain ⟨_, rfl | ⟨b, rfl, h1, h2⟩⟩ := h
  ·simp [Bf.DC] at hx
  ·simp only [Bf.DC, bl] at hx
   subst hx
   exact (al.1 h2).1
 | SQ S n b =>
  simp only [Bf.DC, bl] at hx
  subst hx
  exact (al.1 h.2).1
 | QC S v d d1 sz n cells =>
  obtain ⟨_, rfl | ⟨b, l, rfl, h1, h2⟩⟩ := h
  ·simp [Bf.DC] at hx
  ·simp only [Bf.DC, bl] at hx
   subst hx
   exact (al.1 h1).1
 | tree S F p => exact (h.1 x hx).1
theorem Bf.KY {H G : A4} {r : Bf} (h : r.ok H G) (ho : r.U1 = true) {x : Nat} (hx : x ∈ r.DC) : H.length ≤ x := by
 cases r with
 | B6 n b =>
  simp only [Bf.DC, bl] at hx
  subst hx
  exact h.1
 | own v d sz n cells =>
  obtain ⟨_, rfl | ⟨b, rfl, h1, h2⟩⟩ := h
  ·simp [Bf.DC] at hx
  ·simp only [Bf.DC, bl] at hx
   subst hx
   exact h1
 | SQ S n b => cases ho
 | QC S v d d1 sz n cells => cases ho
 | tree S F p => cases ho
theorem Bf.FA {H G G' : A4} {r : Bf} (h : r.ok H G) (hg : ∀ x ∈ r.DC, G'[x]? = G[x]?) : r.ok H G' := by
 cases r with
 | B6 n b => exact ⟨h.1, by rw [hg n (by simp [Bf.DC])]; exact h.2⟩
 | own v d sz n cells =>
  obtain ⟨hc, h | ⟨b, rfl, h1, h2⟩⟩ := h
  ·exact ⟨hc, .inl h⟩
  ·exact ⟨hc, .inr ⟨b, rfl, h1, by rw [hg b (by simp [Bf.DC])]; exact h2⟩⟩
 | SQ S n b => exact ⟨h.1, by rw [hg n (by simp [Bf.DC])]; exact h.2⟩
 | QC S v d d1 sz n cells =>
  obtain ⟨hc, h | ⟨b, l, rfl, h1, h2⟩⟩ := h
  ·exact ⟨hc, .inl h⟩
  ·exact ⟨hc, .inr ⟨b, l, rfl, by rw [hg b (by simp [Bf.DC])]; exact h1, h2⟩⟩
 | tree S F p =>
  refine ⟨fun b hb => ⟨?_, (h.1 b hb).2⟩, fun G2 h2 => h.2 G2 fun b hb => by rw [h2 b hb, hg b hb]⟩
  have e := aj (h.1 b hb).1
  rw [← hg b hb] at e
  exact (al.1 e).1
theorem Bf.bR {H H' G : A4} {r : Bf} (hl : H'.length = H.length) (h : r.ok H G) : r.ok H' G := by
 cases r with
 | B6 n b => exact ⟨by rw [hl]; exact h.1, h.2⟩
 | own v d sz n cells => unfold Bf.ok at h ⊢; rw [hl]; exact h
 | SQ S n b => unfold Bf.ok at h ⊢; rw [hl]; exact h
 | QC S v d d1 sz n cells => unfold Bf.ok at h ⊢; rw [hl]; exact h
 | tree S F p => unfold Bf.ok at h ⊢; rw [hl]; exact h
theorem A8.push {H G : A4} {rs : List Bf} (h : A8 H G rs) (x : Bb) {r : Bf} (hn : r.DC = [G.length]) (hr : r.ok H (G ++ [x])) : A8 H (G ++ [x]) (r :: rs) where
 pre := fun b hb => by rw [az (ck hb h.len)]; exact h.pre b hb
 len := by rw [aq]; have := h.len; omega
 ok := fun r' hr' => by
  rcases bw.1 hr' with rfl | hr'
  ·exact hr
  ·have h1 := h.ok r' hr'
   exact Bf.FA h1 fun x hx => by rw [az (Bf.H9 h1 hx)]
 apart := by
  refine ec.2 ⟨fun r' hr' x hx hx' => ?_, h.apart⟩
  rw [hn] at hx
  simp only [bl] at hx
  subst hx
  exact absurd (Bf.H9 (h.ok r' hr') hx') (ig _)
theorem J4 (G : A4) (x : Bb) : (G ++ [x])[G.length]? = some x := by simp
theorem A8.alloc {H G : A4} {rs : List Bf} (h : A8 H G rs) (x : Bb) : A8 H (G ++ [x]) (.B6 G.length x :: rs) := h.push x rfl ⟨h.len, J4 G x⟩
theorem E9 {rs : List Bf} (h : rs.Pairwise fun r r' => ∀ x ∈ r.DC, x ∉ r'.DC) {k : Nat} {r r' : Bf} (hk : rs[k]? = some r) (hn : ∀ x ∈ r'.DC, x ∈ r.DC) : (rs.set k r').Pairwise fun r r' => ∀ x ∈ r.DC, x ∉ r'.DC := by
 rw [cr] at h ⊢
 intro i j hi hj hij x hx hx'
 simp only [cp] at hi hj
 simp only [ef] at hx hx'
 obtain ⟨hk1, hk2⟩ := al.1 hk
 split at hx
 ·rename_i e
  subst e
  rw [if_neg (by omega)] at hx'
  refine h k j hk1 hj hij x ?_ hx'
  rw [hk2]; exact hn x hx
 ·split at hx'
  ·rename_i e
   subst e
   refine h i k hi hk1 hij x hx ?_
   rw [hk2]; exact hn x hx'
  ·exact h i j hi hj hij x hx hx'
theorem A8.set {H G : A4} {rs : List Bf} (h : A8 H G rs) {k n : Nat} {r r' : Bf} {x : Bb} (hk : rs[k]? = some r) (hr : r.DC = [n]) (hn : r'.DC = [n]) (ho : r'.ok H (G.set n x)) (hw : r.U1 = true := by rfl) : A8 H (G.set n x) (rs.set k r') where
 pre := fun b hb => by
  rw [Ab, if_neg]
  ·exact h.pre b hb
  ·rintro ⟨rfl, _⟩
   have := Bf.KY (h.ok r (bh hk)) hw (x := n) (by rw [hr]; simp)
   omega
 len := by rw [cp]; exact h.len
 ok := fun r2 hr2 => by
  obtain ⟨j, hj, e⟩ := dh.1 hr2
  simp only [cp] at hj
  rw [ef] at e
  split at e
  ·rw [← e]; exact ho
  ·rename_i hne
   subst e
   obtain ⟨hk1, hk2⟩ := al.1 hk
   have h1 := h.ok _ (dc hj)
   refine Bf.FA h1 fun y hy => ?_
   rw [Ab, if_neg]
   rintro ⟨rfl, _⟩
   have hp := cr.1 h.apart
   rcases bz k j with hkj | hkj
   ·exact hp k j hk1 hj hkj n (by rw [hk2, hr]; simp) hy
   ·exact hp j k hj hk1 (by omega) n hy (by rw [hk2, hr]; simp)
 apart := E9 h.apart hk (by rw [hr, hn]; exact fun _ h => h)
theorem A8.get {H G : A4} {rs : List Bf} (h : A8 H G rs) {k n : Nat} {b : Bb} (hk : rs[k]? = some (.B6 n b)) : G[n]? = some b ∧ H.length ≤ n :=
 let x := h.ok _ (bh hk); ⟨x.2, x.1⟩
theorem A8.out {H G : A4} {rs : List Bf} (h : A8 H G rs) : G.take H.length = H := by
 apply ib
 intro i
 rw [dn]
 split
 ·rename_i hi; exact h.pre i hi
 ·rename_i hi; rw [bf (by omega)]
def Aq (l : List (Nat × V)) (J : Nat → V) : Nat → V := l.foldr (fun p f => D4 f p.1 p.2) J
def TV (T : Nat → V) : List (Nat × V) → Prop
 | [] => True
 | (d, v) :: l => T d = v ∧ TV T l
theorem XO {T : Nat → V} {d : Nat} {v : V} (h : T d = v) : D4 T d v = T := by
 funext i
 unfold D4
 split
 ·rename_i e; rw [e, h]
 ·rfl
theorem RK {T : Nat → V} : ∀ {l : List (Nat × V)}, TV T l → Aq l T = T
 | [], _ => rfl
 | (d, v) :: l, h => by
  show D4 (Aq l T) d v = T
  rw [RK h.2]
  exact XO h.1
theorem bc {p : Prop} {b : Bool} (h1 : b = true → p) (h2 : b = false → p) : p := by cases b; exact h2 rfl; exact h1 rfl
theorem St.Aq {T : Nat → V} {G : A4} (l : List (Nat × V)) (h : TV T l) : (⟨T, G⟩ : St) = ⟨K.Aq l T, G⟩ := by rw [RK h]
theorem sh {T : Nat → V} {G : A4} {l : List (Nat × V)} (h : TV T l := by repeat (first | exact trivial | refine ⟨rfl, ?_⟩)) : (⟨T, G⟩ : St) = ⟨K.Aq l T, G⟩ := St.Aq l h
def FN {σ ρ : Type} (F : σ → Option (σ ⊕ ρ)) : Nat → σ → Option ρ
 | 0, _ => none
 | n + 1, s => match F s with
  | some (.inl s') => FN F n s'
  | some (.inr r) => some r
  | none => none
theorem Ns {σ ρ : Type} {F : σ → Option (σ ⊕ ρ)} : ∀ {n m : Nat}, n ≤ m → ∀ {s : σ} {r : ρ}, FN F n s = some r → FN F m s = some r
 | 0, m, _, s, r, h => by simp [FN] at h
 | n + 1, 0, hnm, s, r, h => by omega
 | n + 1, m + 1, hnm, s, r, h => by
  simp only [FN] at h ⊢
  split at h
  ·exact Ns (by omega) h
  ·exact h
  ·cases h
open Classical in
noncomputable def AP {σ ρ : Type} (F : σ → Option (σ ⊕ ρ)) (s : σ) : Option ρ :=
 if h : ∃ n r, FN F n s = some r then some (eb (cj h)) else none
theorem Nt {σ ρ : Type} {F : σ → Option (σ ⊕ ρ)} {n : Nat} {s : σ} {r : ρ} (h : FN F n s = some r) : AP F s = some r := by
 have hx : ∃ n r, FN F n s = some r := ⟨n, r, h⟩
 unfold AP
 rw [dif_pos hx]
 have h1 := cj (cj hx)
 have h2 := Ns (gi n (eb hx)) h
 have h3 := Ns (gh n (eb hx)) h1
 rw [← h3, h2]
theorem KS {σ ρ : Type} {F : σ → Option (σ ⊕ ρ)} {s : σ} {r : ρ} (h : AP F s = some r) : ∃ n, FN F n s = some r := by
 unfold AP at h
 split at h
 ·rename_i hx
  simp only [aa] at h
  exact ⟨_, h ▸ cj (cj hx)⟩
 ·cases h
theorem BK {σ ρ : Type} (F : σ → Option (σ ⊕ ρ)) (s : σ) : AP F s = (F s).bind fun x => match x with | .inl s' => AP F s' | .inr r => some r := by
 cases h : F s with
 | none =>
  simp only [Option.bind_none]
  cases hl : AP F s with
  | none => rfl
  | some r =>
   obtain ⟨n, hn⟩ := KS hl
   cases n with
   | zero => simp [FN] at hn
   | succ n => simp [FN, h] at hn
 | some x =>
  simp only [ab]
  cases x with
  | inr r => exact Nt (n := 1) (by simp [FN, h])
  | inl s' =>
   simp only []
   cases hl : AP F s' with
   | some r =>
    obtain ⟨n, hn⟩ := KS hl
    exact Nt (n := n + 1) (by simp [FN, h, hn])
   | none =>
    cases hl2 : AP F s with
    | none => rfl
    | some r =>
     obtain ⟨n, hn⟩ := KS hl2
     cases n with
     | zero => simp [FN] at hn
     | succ n =>
      simp only [FN, h] at hn
      rw [Nt hn] at hl
      cases hl
section
variable {P : bg} {h : BI} {fk n base : Nat} {lk : Lk} {c : Cx} {ops : Array bq} {S : St} {Q : X → St → Prop}
theorem AJ {p : Code} {σ ρ : Type} {F : σ → Option (σ ⊕ ρ)} {r : ρ} (Rel : σ → St → Prop) {s : σ} (hl : AP F s = some r) (h0 : Rel s S)
  (step : ∀ s S x, Rel s S → F s = some x → (∀ r', x = .inr r' → r' = r) → G5 c p S (Nf (fun S' => ∃ s', x = .inl s' ∧ Rel s' S') Q)) : G5 c (.loop p) S Q := by
 obtain ⟨m, hm⟩ := KS hl
 clear hl
 refine XS (fun k S => ∃ s, Rel s S ∧ FN F k s = some r) m ⟨s, h0, hm⟩ ?_
 rintro k S1 _ ⟨s1, hr, hl⟩
 cases k with
 | zero => simp [FN] at hl
 | succ k =>
  simp only [FN] at hl
  split at hl
  ·rename_i s2 hs2
   refine Kn (step s1 S1 _ hr hs2 (fun r' e => by cases e)) ?_
   intro x S' hx
   cases x with
   | normal =>
    obtain ⟨s', e, hr'⟩ := hx
    simp only [Sum.inl.injEq] at e
    subst e
    exact ⟨k, Nat.lt_succ_self k, s2, hr', hl⟩
   | exit i => exact hx
   | ret => exact hx
  ·rename_i r' hs2
   simp only [aa] at hl
   refine Kn (step s1 S1 _ hr hs2 (fun r'' e => by cases e; exact hl)) ?_
   intro x S' hx
   cases x with
   | normal => obtain ⟨s', e, _⟩ := hx; cases e
   | exit i => exact hx
   | ret => exact hx
  ·cases hl
theorem Fq {p q : Code} (M : St → Prop) (h1 : G5 c p S (Nf M Q)) (h2 : ∀ S', M S' → G5 c q S' Q) : G5 c (.seq p q) S Q := by
 rw [US]
 refine Kn h1 fun x S' hx => ?_
 cases x with
 | normal => exact h2 S' hx
 | exit i => exact hx
 | ret => exact hx
theorem AX {p q : Code} (h1 : G5 c p S (Nf (fun S' => G5 c q S' Q) Q)) : G5 c (.seq p q) S Q := by rw [US]; exact h1
theorem Da {id : Nat} {l : List bq} (hq : BW (B0 P h fk n base lk) l.toArray (l.map fun o => (false, false, o)) S (Q .normal)) : G5 (B0 P h fk n base lk) (.region id l.toArray false) S Q := by
 rw [TT ⟨rfl, rfl⟩]; exact hq
def SB (id : Nat) (Q : X → St → Prop) : X → St → Prop := fun x S' => match x with | .exit i => if i = id then Q .normal S' else Q (.exit i) S' | x => Q x S'
theorem CE {id : Nat} {p : Code} (h1 : G5 c p S (SB id Q)) : G5 c (.block id p) S Q := by
 rw [VV]
 refine Kn h1 fun x S' hx => ?_
 cases x <;> exact hx
theorem bn {id : Nat} (h : Q .normal S) : SB id Q .normal S := h
theorem be {id : Nat} (h : Q .normal S) : SB id Q (.exit id) S := by unfold SB; simp only [if_true]; exact h
theorem bo {id i : Nat} (hi : (i == id) = false := by rfl) (h : Q (.exit i) S) : SB id Q (.exit i) S := by
 unfold SB
 simp only [beq_eq_false_iff_ne, ne_eq] at hi
 simp only [hi, if_false]
 exact h
theorem br {id : Nat} (h : Q .ret S) : SB id Q .ret S := h
theorem gn {k : St → Prop} (h : k S) : Nf k Q .normal S := h
theorem ge {k : St → Prop} {i : Nat} (h : Q (.exit i) S) : Nf k Q (.exit i) S := h
theorem gr {k : St → Prop} (h : Q .ret S) : Nf k Q .ret S := h
theorem bs {α β : Type} {x : Option α} {f : α → Option β} {r : β} (h : x.bind f = some r) : ∃ v, x = some v ∧ f v = some r := ae.1 h
theorem bk {α β : Type} {x : Option α} {f : α → Option β} {r : β} {P : Prop} (h : x.bind f = some r) (k : ∀ v, x = some v → f v = some r → P) : P := by
 obtain ⟨v, h1, h2⟩ := bs h
 exact k v h1 h2
theorem ct {α : Type} {b : Bool} {x y z : α} (hb : b = true) (h : (bif b then x else y) = z) : x = z := by subst hb; exact h
theorem cf {α : Type} {b : Bool} {x y z : α} (hb : b = false) (h : (bif b then x else y) = z) : y = z := by subst hb; exact h
theorem lx {σ ρ : Type} {x : σ ⊕ ρ} {r : ρ} {y : Option ρ} (hx : ∀ r', x = .inr r' → r' = r) (h : y.map Sum.inr = some x) : y = some r := by
 rw [af] at h
 obtain ⟨r', h1, h2⟩ := h
 rw [h1, hx r' h2.symm]
theorem lD {y : aw} {p q : Code} {b : Bool} (h1 : b = true → G5 c p S Q) (h2 : b = false → G5 c q S Q) (hy : ev S.T y = some (.bool b) := by rfl) : G5 c (.cond y p q) S Q := by
 rw [XP, hy, XU, VU]
 cases b with
 | true => exact h1 rfl
 | false => exact h2 rfl
theorem B1 {y : aw} {p q : Code} {b : Bool} {α : Type} {x1 x2 z : α} (hk : (bif b then x1 else x2) = z) (h1 : x1 = z → G5 c p S Q) (h2 : x2 = z → G5 c q S Q) (hy : ev S.T y = some (.bool b) := by rfl) : G5 c (.cond y p q) S Q := lD (fun hb => h1 (ct hb hk)) (fun hb => h2 (cf hb hk)) hy
theorem B7 (h : Q .normal S) : G5 c .skip S Q := by rw [XT]; exact h
theorem Eo {id : Nat} (h : Q (.exit id) S) : G5 c (.exit id) S Q := by rw [XR]; exact h
theorem Ak (h : Q .ret S) : G5 c .ret S Q := by rw [ZQ]; exact h
theorem AQ {l1 l2 : List (Bool × Bool × bq)} {Q : St → Prop} (M : St → Prop) (h1 : BW c ops l1 S M) (h2 : ∀ S', M S' → BW c ops l2 S' Q) : BW c ops (l1 ++ l2) S Q := by
 obtain ⟨S1, h3, h4⟩ := h1
 obtain ⟨S2, h5, h6⟩ := h2 S1 h4
 refine ⟨S2, ?_, h6⟩
 clear h2 h4 h6
 induction l1 generalizing S with
 | nil => simp only [LM, aa] at h3; subst h3; exact h5
 | cons x l1 ih =>
  obtain ⟨s, k, o⟩ := x
  simp only [LM, di, ae] at h3 ⊢
  obtain ⟨S3, h7, h8⟩ := h3
  exact ⟨S3, h7, ih h8⟩
section steps
variable {s kk : Bool} {d : Nat} {ty : ao} {pos : String} {aft : Array Edge} {l : List (Bool × Bool × bq)} {Q : St → Prop} {T : Nat → V} {G G' H : A4} {rs : List Bf} {op : Op}
theorem pV {v : V} (hv : HX ((B0 P h fk n base lk).BQ s kk) op ⟨T, G⟩ = some (v, G')) (hd : cg d n = true) (k : BW (B0 P h fk n base lk) ops l ⟨D4 T d v, G'⟩ Q) :
  BW (B0 P h fk n base lk) ops ((s, kk, ⟨some d, op, ty, pos, aft, none⟩) :: l) ⟨T, G⟩ Q := by
 rw [XW]
 exact ⟨bp hd, v, G', hv, k⟩
theorem bT {v : V} (hv : HX ((B0 P h fk n base lk).BQ s kk) op ⟨T, G⟩ = some (v, G')) (k : BW (B0 P h fk n base lk) ops l ⟨T, G'⟩ Q) :
  BW (B0 P h fk n base lk) ops ((s, kk, ⟨none, op, ty, pos, aft, none⟩) :: l) ⟨T, G⟩ Q := by
 rw [XV]
 exact ⟨v, G', hv, k⟩
theorem pE (k : Q ⟨T, G⟩) : BW c ops [] ⟨T, G⟩ Q := by rw [ZR]; exact k
theorem pM {x : aw} (v : V) (k : BW (B0 P h fk n base lk) ops l ⟨D4 T d v, G⟩ Q) (h1 : ev T x = some v := by rfl) (hd : cg d n = true := by rfl) :
  BW (B0 P h fk n base lk) ops ((s, kk, ⟨some d, .move x, ty, pos, aft, none⟩) :: l) ⟨T, G⟩ Q := pV (by rw [Wl]; simp only [h1, ai]) hd k
theorem pA {x : aw} (v : V) (k : BW (B0 P h fk n base lk) ops l ⟨D4 T d v, G⟩ Q) (h1 : ev T x = some v := by rfl) (hd : cg d n = true := by rfl) :
  BW (B0 P h fk n base lk) ops ((s, kk, ⟨some d, .assign x, ty, pos, aft, none⟩) :: l) ⟨T, G⟩ Q := pV (by rw [Sx]; simp only [h1, ai]) hd k
theorem pB {bo : BinOp} {t t2 : ao} {x y : aw} {a b v : V} (k : BW (B0 P h fk n base lk) ops l ⟨D4 T d v, G⟩ Q) (h1 : ev T x = some a := by rfl) (h2 : ev T y = some b := by rfl) (h3 : Qw P bo t a b = some v := by rfl) (hd : cg d n = true := by rfl) :
  BW (B0 P h fk n base lk) ops ((s, kk, ⟨some d, .binOp bo t x y t2, ty, pos, aft, none⟩) :: l) ⟨T, G⟩ Q := by
 refine pV ?_ hd k
 rw [V4]
 simp only [h1, h2, ab]
 show (Qw P bo t a b).map _ = _
 rw [h3]; rfl
theorem AR {bo : BinOp} {t t2 : ao} {x y : aw} {kd : fc} {a b : Int} {v : V} (k : BW (B0 P h fk n base lk) ops l ⟨D4 T d v, G⟩ Q) (h1 : ev T x = some (.int kd a) := by rfl) (h2 : ev T y = some (.int kd b) := by rfl) (h3 : U0 bo kd a b = some v := by rfl) (hd : cg d n = true := by rfl) :
  BW (B0 P h fk n base lk) ops ((s, kk, ⟨some d, .binOp bo t x y t2, ty, pos, aft, none⟩) :: l) ⟨T, G⟩ Q := pB k h1 h2 ((if_pos rfl).trans h3) hd
theorem pU {uo : UnOp} {t : ao} {x : aw} {a v : V} (k : BW (B0 P h fk n base lk) ops l ⟨D4 T d v, G⟩ Q) (h1 : ev T x = some a := by rfl) (h3 : iO uo a = some v := by rfl) (hd : cg d n = true := by rfl) :
  BW (B0 P h fk n base lk) ops ((s, kk, ⟨some d, .unOp uo t x, ty, pos, aft, none⟩) :: l) ⟨T, G⟩ Q := by
 refine pV ?_ hd k
 rw [Wm]
 simp only [h1, h3, ab, ai]
theorem pF {st : ao} {x : aw} {f off : Nat} {a v : V} (hf : AK P st f = some off) (k : BW (B0 P h fk n base lk) ops l ⟨D4 T d v, G⟩ Q) (h1 : ev T x = some a := by rfl) (h3 : Yy a off = some v := by rfl) (hd : cg d n = true := by rfl) :
  BW (B0 P h fk n base lk) ops ((s, kk, ⟨some d, .fieldAddr st x f, ty, pos, aft, none⟩) :: l) ⟨T, G⟩ Q := by
 refine pV ?_ hd k
 rw [Ob]
 show (AK P st f).bind _ = _
 simp only [hf, h1, h3, ab, ai]
theorem BC {x : aw} {t : ao} {b : Bool} {a : V} {m : Nat} (ht : IX P t = some b) (k : BW (B0 P h fk n base lk) ops l ⟨D4 T d (.int .i64 m), G⟩ Q) (h1 : ev T x = some a := by rfl) (h3 : bO a b = some m := by rfl) (hd : cg d n = true := by rfl) :
  BW (B0 P h fk n base lk) ops ((s, kk, ⟨some d, .call ⟨.builtin .len, #[x], #[t]⟩, ty, pos, aft, none⟩) :: l) ⟨T, G⟩ Q := by
 refine pV ?_ hd k
 rw [Yz]
 show (IX P t).bind _ = _
 simp only [ht, h1, h3, ab, ai]
theorem GG {t : ao} {x : aw} {b off sz : Nat} {cs : List V} (hO : A8 H G rs) (j : Nat) (v : V) (ha : D6 P t = some false) (k : BW (B0 P h fk n base lk) ops l ⟨D4 T d v, G⟩ Q) (h1 : ev T x = some (.ptr b off) := by rfl) (hj : rs[j]? = some (.B6 b (.cells sz cs)) := by rfl) (h2 : cs[off]? = some v := by rfl) (hd : cg d n = true := by rfl) :
  BW (B0 P h fk n base lk) ops ((s, kk, ⟨some d, .load t x, ty, pos, aft, none⟩) :: l) ⟨T, G⟩ Q := by
 refine pV ?_ hd k
 rw [Ka]
 simp only [h1, ab, Ep, (hO.get hj).1]
 show (BH P t cs off).map _ = _
 unfold BH
 simp only [ha, h2, ai]
theorem Bj {t : ao} {x : aw} {b off sz m : Nat} {cs : List V} (hO : A8 H G rs) (j : Nat) (cs' : List V) (ha : D6 P t = some true) (hz : Aw P t = some m) (k : BW (B0 P h fk n base lk) ops l ⟨D4 T d (.agg cs'), G⟩ Q) (h1 : ev T x = some (.ptr b off) := by rfl) (hj : rs[j]? = some (.B6 b (.cells sz cs)) := by rfl) (h2 : fj (off + m) cs.length = true := by rfl) (h3 : (cs.drop off).take m = cs' := by rfl) (hd : cg d n = true := by rfl) :
  BW (B0 P h fk n base lk) ops ((s, kk, ⟨some d, .load t x, ty, pos, aft, none⟩) :: l) ⟨T, G⟩ Q := by
 subst h3
 refine pV ?_ hd k
 rw [Ka]
 simp only [h1, ab, Ep, (hO.get hj).1]
 show (BH P t cs off).map _ = _
 unfold BH
 simp only [ha, hz, ab, if_pos (bp h2), ai]
theorem DG {t : ao} {x : aw} {lv off : Nat} {cs : List V} (v : V) (hr : BH P t cs off = some v) (k : BW (B0 P h fk n base lk) ops l ⟨D4 T d v, G⟩ Q) (h1 : ev T x = some (.lp lv cs off) := by rfl) (hd : cg d n = true := by rfl) :
  BW (B0 P h fk n base lk) ops ((s, kk, ⟨some d, .load t x, ty, pos, aft, none⟩) :: l) ⟨T, G⟩ Q := by
 refine pV ?_ hd k
 rw [Ka]
 simp only [h1, ab, Ep]
 show (BH P t cs off).map _ = _
 rw [hr]; rfl
theorem iY {t : ao} {x : aw} {b off sz : Nat} {cs : List V} (v : V) (hb : G[b]? = some (.cells sz cs)) (hr : BH P t cs off = some v) (k : BW (B0 P h fk n base lk) ops l ⟨D4 T d v, G⟩ Q) (h1 : ev T x = some (.ptr b off) := by rfl) (hd : cg d n = true := by rfl) :
  BW (B0 P h fk n base lk) ops ((s, kk, ⟨some d, .load t x, ty, pos, aft, none⟩) :: l) ⟨T, G⟩ Q := by
 refine pV ?_ hd k
 rw [Ka]
 simp only [h1, ab, Ep, hb]
 show (BH P t cs off).map _ = _
 rw [hr]; rfl
theorem Ax {t : ao} {x : aw} {m : Nat} {v : V} {cs : List V} (hO : A8 H G rs) (hz : Aw P t = some m) (k : ∀ b G', A8 H G' (.B6 b (.cells m cs) :: rs) → BW (B0 P h fk n base lk) ops l ⟨D4 T d (.ptr b 0), G'⟩ Q) (h1 : ev T x = some v := by rfl) (h2 : v.cellsOf = cs := by rfl) (h3 : cs.all V.Ba = true := by rfl) (hd : cg d n = true := by rfl) :
  BW (B0 P h fk n base lk) ops ((s, kk, ⟨some d, .box t x, ty, pos, aft, none⟩) :: l) ⟨T, G⟩ Q := by
 refine pV ?_ hd (k _ _ (hO.alloc (.cells m cs)))
 rw [U5]
 show (Aw P t).bind _ = _
 simp only [hz, h1, h2, h3, ab, if_true]
theorem Bd {t : ao} {m : Nat} {z : List V} (hO : A8 H G rs) (hz : Aw P t = some m) (h1 : BG P t = some z) (k : ∀ b G', A8 H G' (.B6 b (.cells m z) :: rs) → BW (B0 P h fk n base lk) ops l ⟨D4 T d (.ptr b 0), G'⟩ Q) (hd : cg d n = true := by rfl) :
  BW (B0 P h fk n base lk) ops ((s, kk, ⟨some d, .alloc t, ty, pos, aft, none⟩) :: l) ⟨T, G⟩ Q := by
 refine pV ?_ hd (k _ _ (hO.alloc (.cells m z)))
 rw [V3]
 show (Aw P t).bind _ = _
 simp only [hz]
 show (BG P t).bind _ = _
 simp only [h1, ab]
theorem CM {t : ao} {x y : aw} {b off sz m : Nat} {cs xs : List V} {v : V} (hO : A8 H G rs) (j : Nat) (hz : Aw P t = some m) (hb : base = H.length) (k : ∀ G', A8 H G' (rs.set j (.B6 b (.cells sz (C6 cs off xs)))) → BW (B0 P h fk n base lk) ops l ⟨T, G'⟩ Q) (h1 : ev T x = some (.ptr b off) := by rfl) (hj : rs[j]? = some (.B6 b (.cells sz cs)) := by rfl) (h2 : ev T y = some v := by rfl) (h3 : v.cellsOf = xs := by rfl) (h4 : xs.length = m := by rfl) (h5 : fj (off + m) cs.length = true := by rfl) (h6 : xs.all V.Ba = true := by rfl) :
  BW (B0 P h fk n base lk) ops ((s, kk, ⟨none, .store t x y, ty, pos, aft, none⟩) :: l) ⟨T, G⟩ Q := by
 subst hb h3 h4
 obtain ⟨hg, hbb⟩ := hO.get hj
 have hlt : b < G.length := (al.1 hg).1
 refine bT (v := C7) ?_ (k _ (hO.set (x := .cells sz (C6 cs off v.cellsOf)) hj rfl rfl ⟨hbb, by rw [Ab, if_pos ⟨rfl, hlt⟩]⟩))
 rw [LL]
 simp only [h1, h2, ab, FE]
 have hm : ((B0 P h fk n H.length lk).BQ s kk).BX b = true := by
  unfold Cx.BX
  simp only [de, decide_eq_true_eq]
  exact .inl hbb
 have hnb : ¬ b < ((B0 P h fk n H.length lk).BQ s kk).base := dt.2 hbb
 rw [if_pos hm, if_neg hnb]
 simp only [ab, hg]
 rw [if_pos ⟨hz, bp h5, h6⟩]
 rfl
theorem EJ {x y z : aw} {b : Bool} (hb : b = true) (v : V) (k : BW (B0 P h fk n base lk) ops l ⟨D4 T d v, G⟩ Q) (h1 : ev T x = some (.bool b) := by rfl) (h2 : ev T y = some v := by rfl) (hd : cg d n = true := by rfl) :
  BW (B0 P h fk n base lk) ops ((s, kk, ⟨some d, .pick x y z, ty, pos, aft, none⟩) :: l) ⟨T, G⟩ Q := by subst hb; exact pV (by rw [Rg]; simp only [h1, h2, ab, T0, ai]) hd k
theorem EI {x y z : aw} {b : Bool} (hb : b = false) (v : V) (k : BW (B0 P h fk n base lk) ops l ⟨D4 T d v, G⟩ Q) (h1 : ev T x = some (.bool b) := by rfl) (h2 : ev T z = some v := by rfl) (hd : cg d n = true := by rfl) :
  BW (B0 P h fk n base lk) ops ((s, kk, ⟨some d, .pick x y z, ty, pos, aft, none⟩) :: l) ⟨T, G⟩ Q := by subst hb; exact pV (by rw [Rg]; simp only [h1, h2, ab, Rk, ai]) hd k
theorem Ae {dst : Option Nat} {j t : Nat} {w b : Bool} (hb : b = w) (k : BW c ops ((s, kk, ⟨dst, op, ty, pos, aft, none⟩) :: l) ⟨T, G⟩ Q) (hj : (ops[j]?).bind (·.dst) = some t := by rfl) (ht : T t = .bool b := by rfl) : BW c ops ((s, kk, ⟨dst, op, ty, pos, aft, some (j, w)⟩) :: l) ⟨T, G⟩ Q := by
 subst hb
 obtain ⟨S', h1, h2⟩ := k
 refine ⟨S', ?_, h2⟩
 simp only [LM] at h1 ⊢
 rw [← h1]
 have : BZ (c.BQ s kk) ops ⟨dst, op, ty, pos, aft, some (j, b)⟩ ⟨T, G⟩ = BZ (c.BQ s kk) ops ⟨dst, op, ty, pos, aft, none⟩ ⟨T, G⟩ := by
  unfold BZ CW
  simp only [hj, ht, beq_self_eq_true, ab, if_true]
  rfl
 rw [this]
theorem Bu {j t : Nat} {w b : Bool} (hb : b = !w) (k : BW (B0 P h fk n base lk) ops l ⟨D4 T d C7, G⟩ Q) (hj : (ops[j]?).bind (·.dst) = some t := by rfl) (ht : T t = .bool b := by rfl) (hd : cg d n = true := by rfl) :
  BW (B0 P h fk n base lk) ops ((s, kk, ⟨some d, op, ty, pos, aft, some (j, w)⟩) :: l) ⟨T, G⟩ Q := by
 subst hb
 rw [PT]
 refine ⟨bp hd, false, ?_, ?_⟩
 ·unfold Nj
  simp only [hj, ab, ht]
  cases w <;> rfl
 ·simp only [ba, if_false]; exact k
theorem K4 {j t : Nat} {w : Bool} (k : BW (B0 P h fk n base lk) ops l ⟨D4 T d C7, G⟩ Q) (hj : (ops[j]?).bind (·.dst) = some t := by rfl) (ht : T t = C7 := by rfl) (hd : cg d n = true := by rfl) :
  BW (B0 P h fk n base lk) ops ((s, kk, ⟨some d, op, ty, pos, aft, some (j, w)⟩) :: l) ⟨T, G⟩ Q := by
 rw [PT]
 refine ⟨bp hd, false, ?_, ?_⟩
 ·unfold Nj
  simp only [hj, ab, ht, C7]
 ·simp only [ba, if_false]; exact k
theorem AL {f : aw} {args : Array aw} {ats : Array ao} {g : fh} {caps vs vs' : List V} {M : List Nat} {r : V} (hr : ∀ L, Ai P h g vs' G (lk ++ [L]) = some (r, G')) (k : BW (B0 P h fk n base lk) ops l ⟨D4 T d r, G'⟩ Q) (h1 : ev T f = some (.fn g caps) := by rfl) (h2 : Oq T args.toList = some vs := by rfl) (h3 : Ah ((B0 P h fk n base lk).BQ s kk) (h.Es g) G (vs ++ caps) = some (vs', M, G) := by rfl) (hd : cg d n = true := by rfl) :
  BW (B0 P h fk n base lk) ops ((s, kk, ⟨some d, .call ⟨.value f, args, ats⟩, ty, pos, aft, none⟩) :: l) ⟨T, G⟩ Q := by
 refine pV ?_ hd k
 rw [J1]
 simp only [h1, h2, ab, SR]
 show (Ah ((B0 P h fk n base lk).BQ s kk) (h.Es g) G (vs ++ caps)).bind _ = _
 rw [h3]
 exact hr _
theorem Ao {st t : ao} {x y : aw} {f off o2 b sz d2 : Nat} {a a' : V} {cs : List V} {s2 k2 : Bool} {ty2 : ao} {pos2 : String} {aft2 : Array Edge} (hf : AK P st f = some off) (hO : A8 H G rs) (j : Nat) (v : V) (ha : D6 P t = some false) (k : BW (B0 P h fk n base lk) ops l ⟨D4 (D4 T d a') d2 v, G⟩ Q) (h1 : ev T x = some a := by rfl) (h3 : Yy a off = some a' := by rfl) (hd : cg d n = true := by rfl) (h4 : ev (D4 T d a') y = some (.ptr b o2) := by rfl) (hj : rs[j]? = some (.B6 b (.cells sz cs)) := by rfl) (h2 : cs[o2]? = some v := by rfl) (hd2 : cg d2 n = true := by rfl) :
  BW (B0 P h fk n base lk) ops ((s, kk, ⟨some d, .fieldAddr st x f, ty, pos, aft, none⟩) :: (s2, k2, ⟨some d2, .load t y, ty2, pos2, aft2, none⟩) :: l) ⟨T, G⟩ Q := pF hf (GG hO j v ha k h4 hj h2 hd2) h1 h3 hd
end steps
def iR (P : bg) (h : BI) (k base d : Nat) (rs : List dv) (out : V × A4) (x : X) (S : St) : Prop :=
 (x = .normal ∨ x = .ret) ∧ ((Av P S.H S.T rs).bind fun vs => EE h k base d (Et vs) S.H) = some out
theorem AA {fn : Func} {body : Code} {k : fh} (hfn : P.funcs[k]? = some fn) (hb : fn.body = some body) {m : Nat} (hn : fn.ntmps = m) {args : List V} {H : A4} {rs : Array dv} (hrs : fn.results = rs) (hlen : fj args.length m = true) (hname : (fn.name == "runtime.NumGoroutine") = false) {out : V × A4}
  (hr : A8 H H [] → G5 (B0 P h k m H.length lk) body ⟨JX args, H⟩ (iR P h k H.length lk.length rs.toList out)) (hns : EO body = none := by rfl) : Ai P h k args H lk = some out :=
 PJ hfn hb hn hns (bp hlen) hname hrs (hr (A8.nil H))
theorem kW {k d : Nat} {lr : List dv} {x : X} {T : Nat → V} {G H : A4} {rs : List Bf} {vs : List V} {v v' : V} {G2 : A4} (hO : A8 H G rs) (hg : h.grow k = false) (hx : x = .normal ∨ x = .ret) (h1 : Av P G T lr = some vs := by rfl) (h2 : Et vs = v := by rfl)
  (h3 : Au (h.Qj k) H.length d CA (G, []) v = some (v', (G2, []))) (h4 : G2.take H.length = H) : iR P h k H.length d lr (v', H) x ⟨T, G⟩ := by
 refine ⟨hx, ?_⟩
 simp only [h1, ab, h2, EE, hg, ba, if_false, h3, ai, h4, cu]
theorem AU {k d : Nat} {lr : List dv} {T : Nat → V} {G H : A4} {rs : List Bf} {vs : List V} {v v' : V} (hO : A8 H G rs) (hg : h.grow k = false := by rfl) (h1 : Av P G T lr = some vs := by rfl) (h2 : Et vs = v := by rfl)
  (h3 : Au (h.Qj k) H.length d CA (G, []) v = some (v', (G, [])) := by rfl) {x : X} (hx : x = .normal ∨ x = .ret := by first | exact Or.inl rfl | exact Or.inr rfl) : iR P h k H.length d lr (v', H) x ⟨T, G⟩ := kW hO hg hx h1 h2 h3 hO.out
end
class AG (α : Type) where
 sz : Nat
 pos : 0 < sz
 BO : Nat → α → List V
 len : ∀ {l} x, (BO l x).length = sz
 Ec : ∀ {m d} x, (m == 0 || decide (m < d)) = true → clean.cleanL d (BO m x) = true
 cell : ∀ {l} x, (BO l x).all V.Ba = true
theorem AG.clean {α : Type} [AG α] (x : α) : clean.cleanL 1 (AG.BO 0 x) = true := AG.Ec x rfl
def A9 {α : Type} [AG α] (m : Nat) (xs : List α) : List V := xs.flatMap (AG.BO m)
abbrev iv (x : Int) : V := .int .i64 x
abbrev A7 {α : Type} [AG α] (l m : Nat) (xs : List α) : V := .lit l xs.length (A9 m xs)
theorem BS (d : Nat) : ∀ (xs ys : List V), clean.cleanL d (xs ++ ys) = (clean.cleanL d xs && clean.cleanL d ys)
 | [], ys => by simp [clean.cleanL]
 | x :: xs, ys => by simp only [di, clean.cleanL, BS d xs ys, Bool.and_assoc]
theorem CQ {α : Type} [AG α] {m : Nat} (x : α) (xs : List α) : A9 m (x :: xs) = AG.BO m x ++ A9 m xs := rfl
theorem WI {α : Type} [AG α] {m : Nat} : A9 m ([] : List α) = [] := rfl
theorem RA {α : Type} [AG α] {m : Nat} (xs ys : List α) : A9 m (xs ++ ys) = A9 m xs ++ A9 m ys := by simp [A9]
theorem CB {α : Type} [AG α] {m : Nat} : ∀ (xs : List α), (A9 m xs).length = xs.length * AG.sz α
 | [] => by simp [A9]
 | x :: xs => by rw [CQ, aq, CB xs, AG.len, du, gp, ij]
theorem Im {α : Type} [AG α] {m d : Nat} (h : (m == 0 || decide (m < d)) = true) : ∀ (xs : List α), clean.cleanL d (A9 m xs) = true
 | [] => rfl
 | x :: xs => by rw [CQ, BS, AG.Ec x h, Im h xs]; rfl
theorem DA {α : Type} [AG α] (xs : List α) : clean.cleanL 1 ((A9 0) xs) = true := Im rfl xs
theorem D1 {α : Type} [AG α] {m : Nat} : ∀ (xs : List α), (A9 m xs).all V.Ba = true
 | [] => rfl
 | x :: xs => by rw [CQ, dk, AG.cell, D1 xs]; rfl
instance : AG Int := ⟨1, fa, fun _ x => [.int .i64 x], fun _ => rfl, fun _ _ => rfl, fun _ => rfl⟩
instance : AG Bool := ⟨1, fa, fun _ x => [.bool x], fun _ => rfl, fun _ _ => rfl, fun _ => rfl⟩
instance : AG ByteArray := ⟨1, fa, fun _ x => [.str x], fun _ => rfl, fun _ _ => rfl, fun _ => rfl⟩
instance {α : Type} [AG α] : AG (List α) := ⟨1, fa, fun l x => [.lit l x.length (A9 l x)], fun _ => rfl, fun x h => by simp only [clean.cleanL, K.clean, Im h, h]; rfl, fun _ => rfl⟩
abbrev AV (x : Int) : Int := IntKind.wrap .i64 x
def Aa {α : Type} (xs : List α) (i : Int) : Option α := if 0 ≤ i then xs[i.toNat]? else none
theorem Fl {α : Type} {xs : List α} {i : Int} {x : α} (h : Aa xs i = some x) : 0 ≤ i ∧ i < xs.length := by
 unfold Aa at h
 split at h
 ·rename_i h0
  have := (al.1 h).1
  exact ⟨h0, by omega⟩
 ·cases h
theorem KI {α : Type} {xs : List α} {i : Int} {x : α} (h : Aa xs i = some x) : xs[i.toNat]? = some x := by
 unfold Aa at h
 split at h
 ·exact h
 ·cases h
theorem MM {α : Type} [AG α] {m : Nat} : ∀ {xs : List α} {j : Nat} {x : α}, xs[j]? = some x → ∃ a b, A9 m xs = a ++ (AG.BO m x ++ b) ∧ a.length = j * AG.sz α
 | [], j, x, h => by simp at h
 | y :: xs, 0, x, h => by
  simp only [ee, aa] at h
  subst h
  exact ⟨[], A9 m xs, by simp [CQ], by simp⟩
 | y :: xs, j + 1, x, h => by
  simp only [ku] at h
  obtain ⟨a, b, h1, h2⟩ := MM h
  exact ⟨AG.BO m y ++ a, b, by rw [CQ, h1, bj], by rw [aq, AG.len, h2, gp, ij]⟩
theorem RB {α : Type} [AG α] {m : Nat} {xs : List α} {i : Int} {x : α} (h : Aa xs i = some x) {off : Nat} (ho : off < AG.sz α) : (A9 m xs)[i.toNat * AG.sz α + off]? = (AG.BO m x)[off]? := by
 obtain ⟨a, b, h1, h2⟩ := MM (KI h)
 rw [h1, cd (by omega), h2, jt, az (by rw [AG.len]; exact ho)]
theorem Uk {α : Type} [AG α] {m : Nat} {xs : List α} {i : Int} {x : α} (h : Aa xs i = some x) {off k : Nat} (ho : off + k ≤ AG.sz α) : ((A9 m xs).drop (i.toNat * AG.sz α + off)).take k = ((AG.BO m x).drop off).take k := by
 obtain ⟨a, b, h1, h2⟩ := MM (KI h)
 rw [h1, ← h2, kc, ic (by omega), ff]
 rw [show a.length + off - a.length = off by omega, List.drop_append_of_le_length (by rw [AG.len]; omega), List.take_append_of_le_length (by rw [kn, AG.len]; omega)]
theorem Ot {α : Type} [AG α] {m : Nat} {xs : List α} {i : Int} {x : α} (h : Aa xs i = some x) : i.toNat * AG.sz α + AG.sz α ≤ (A9 m xs).length := by
 obtain ⟨a, b, h1, h2⟩ := MM (KI h)
 rw [h1, aq, aq, AG.len]
 omega
theorem WK {α : Type} [AG α] {m : Nat} {xs : List α} {i : Int} {x : α} (h : Aa xs i = some x) (y : α) : C6 (A9 m xs) (i.toNat * AG.sz α) (AG.BO m y) = A9 m (xs.set i.toNat y) := by
 have key : ∀ (xs : List α) (j : Nat), j < xs.length → C6 (A9 m xs) (j * AG.sz α) (AG.BO m y) = A9 m (xs.set j y) := by
  intro xs
  induction xs with
  | nil => intro j hj; simp at hj
  | cons z xs ih =>
   intro j hj
   cases j with
   | zero =>
    unfold C6
    rw [lj, CQ, CQ, Nat.zero_mul, mN, ff, fy, AG.len, kc, ic (by rw [AG.len]; exact ak _), ff, AG.len, gq, ga]
   | succ j =>
    have hj' : j < xs.length := by simpa using hj
    rw [List.set_cons_succ, CQ, CQ, ← ih j hj']
    unfold C6
    have e1 : (j + 1) * AG.sz α = (AG.BO m z).length + j * AG.sz α := by rw [AG.len, gp, ij]
    rw [e1, kg, gk, kh]
    simp [bj]
 exact key xs _ (by have := Fl h; omega)
theorem WJ {α : Type} [AG α] {m : Nat} (z : α) (n : Nat) : (ch n (AG.BO m z)).flatten = A9 m (ch n z) := by
 induction n with
 | zero => rfl
 | succ n ih => rw [jz, List.flatten_cons, ih]; rfl
section reads
variable {P : bg} {α : Type} [AG α] {lm : Nat} {xs : List α} {i : Int} {x : α} {t : ao} {off m : Nat} {v : V} {cs : List V}
theorem IU (h : Aa xs i = some x) (ha : D6 P t = some false) (hv : (AG.BO lm x)[off]? = some v := by rfl) : BH P t (A9 lm xs) (i.toNat * AG.sz α + off) = some v := by
 unfold BH
 rw [ha]
 have : off < AG.sz α := by rw [← AG.len x]; exact (al.1 hv).1
 simp only [RB h this, hv]
theorem Fh (h : Aa xs i = some x) (ha : D6 P t = some true) (hz : Aw P t = some m) (hm : fj (off + m) (AG.sz α) = true := by rfl) (hv : ((AG.BO lm x).drop off).take m = cs := by rfl) : BH P t (A9 lm xs) (i.toNat * AG.sz α + off) = some (.agg cs) := by
 have hm := bp hm
 unfold BH
 rw [ha, hz]
 simp only [ab]
 rw [if_pos (by have := Ot (m := lm) h; omega), Uk h hm, hv]
end reads
theorem Vj {d d' : Nat} (hd : d ≤ d') (hd0 : 0 < d) : ∀ (v : V), clean d v = true → clean d' v = true := by
 have key : ∀ (v : V), (clean d v = true → clean d' v = true) := by
  intro v
  refine V.rec (motive_1 := fun v => clean d v = true → clean d' v = true) (motive_2 := fun vs => clean.cleanL d vs = true → clean.cleanL d' vs = true) ?_ ?_ ?_ ?_ ?_ ?_ ?_ ?_ ?_ ?_ ?_ ?_ ?_ ?_ ?_ ?_ ?_ ?_ v
  all_goals intros
  all_goals (try (simp only [clean, av, de, decide_eq_true_eq] at *))
  all_goals (try trivial)
  ·rename_i lv n cs ih h
   exact ⟨by rcases h.1 with h1 | h1; exact .inl h1; exact .inr (by omega), ih h.2⟩
  all_goals (try (rename_i ih h; exact ih h))
  ·rename_i a as h1 h2 h
   simp only [clean.cleanL, av] at h ⊢
   exact ⟨h1 h.1, h2 h.2⟩
 exact key
theorem FW {d d' : Nat} (hd : d ≤ d') (hd0 : 0 < d) : ∀ (vs : List V), clean.cleanL d vs = true → clean.cleanL d' vs = true
 | [], _ => rfl
 | v :: vs, h => by
  simp only [clean.cleanL, av] at h ⊢
  exact ⟨Vj hd hd0 v h.1, FW hd hd0 vs h.2⟩
theorem Gi {th : Bool} {lo d k : Nat} {X : A4 × List Bb} : ∀ (vs : List V), clean.cleanL d vs = true → vs.all V.Ba = true → Au.resL (Au th lo d (k + 1)) X vs = some (vs, X)
 | [], _, _ => rfl
 | v :: vs, h, hc => by
  simp only [clean.cleanL, av] at h
  simp only [fg, av] at hc
  have : Au th lo d (k + 1) X v = some (v, X) := by
   cases v with
   | lit lv n cs => simp only [Au]; rw [if_pos h.1]
   | int _ _ => rfl
   | bool _ => rfl
   | str _ => rfl
   | Gg => rfl
   | Dw => rfl
   | agg cs => cases hc.1
   | EZ cs => cases hc.1
   | _ => simp [clean] at h
  simp only [Au.resL, this, ab, Gi vs h.2 hc.2, ai]
theorem En {lv : Nat} {H : A4} {k : Nat} : ∀ (vs : List V), clean.cleanL 1 vs = true → vs.all V.Ba = true → AY.lendL (AY lv H (k + 1)) vs = some (vs, [])
 | [], _, _ => rfl
 | v :: vs, h, hc => by
  simp only [clean.cleanL, av] at h
  simp only [fg, av] at hc
  have : AY lv H (k + 1) v = some (v, []) := by
   cases v with
   | lit lv n cs => rfl
   | int _ _ => rfl
   | bool _ => rfl
   | str _ => rfl
   | Gg => rfl
   | Dw => rfl
   | agg cs => cases hc.1
   | EZ cs => cases hc.1
   | _ => simp [clean] at h
  simp only [AY.lendL, this, ab, En vs h.2 hc.2, ai, cu]
def It (bytes : Nat) (n : Int) : Option Nat := if 0 ≤ n ∧ n * (bytes + 1) ≤ 70368744177664 then some n.toNat else none
section steps
variable {P : bg} {h : BI} {fk n base : Nat} {lk : Lk} {c : Cx} {ops : Array bq} {s kk : Bool} {d : Nat} {ty : ao} {pos : String} {aft : Array Edge} {l : List (Bool × Bool × bq)} {Q : St → Prop} {T : Nat → V} {G G' H : A4} {rs : List Bf} {op : Op}
variable {α : Type} [AG α]
theorem pX {lm : Nat} {xs : List α} {i : Int} {x : α} {t e : ao} {y z : aw} {lv : Nat} {kd : fc} (hc : Aa xs i = some x) (he : B4 P t = some e) (hz : Aw P e = some (AG.sz α)) (k : BW (B0 P h fk n base lk) ops l ⟨D4 T d (.lp lv (A9 lm xs) (i.toNat * AG.sz α)), G⟩ Q)
  (h1 : ev T y = some (.lit lv xs.length (A9 lm xs)) := by rfl) (h2 : ev T z = some (.int kd i) := by rfl) (hd : cg d n = true := by rfl) :
  BW (B0 P h fk n base lk) ops ((s, kk, ⟨some d, .indexAddr t y z, ty, pos, aft, none⟩) :: l) ⟨T, G⟩ Q := by
 refine pV ?_ hd k
 rw [ER]
 show (B4 P t).bind _ = _
 rw [he, ab]
 show (Aw P e).bind _ = _
 simp only [hz, h1, h2, ab, asInt, Sd, Cd]
 rw [if_pos (Fl hc)]
 rfl
theorem j7 {xs : List α} {i : Int} {x : α} {t e : ao} {y z : aw} {b m : Nat} {kd : fc} (hl : xs.length = m) (hc : Aa xs i = some x) (he : B4 P t = some e) (hz : Aw P e = some (AG.sz α)) (k : BW (B0 P h fk n base lk) ops l ⟨D4 T d (.ptr b (i.toNat * AG.sz α)), G⟩ Q)
  (h1 : ev T y = some (.sl b 0 m) := by rfl) (h2 : ev T z = some (.int kd i) := by rfl) (hd : cg d n = true := by rfl) :
  BW (B0 P h fk n base lk) ops ((s, kk, ⟨some d, .indexAddr t y z, ty, pos, aft, none⟩) :: l) ⟨T, G⟩ Q := by
 subst hl
 refine pV ?_ hd k
 rw [ER]
 show (B4 P t).bind _ = _
 rw [he, ab]
 show (Aw P e).bind _ = _
 simp only [hz, h1, h2, ab, asInt, Sd, Cd]
 rw [if_pos (Fl hc)]
 simp
theorem iZ {a : Int} {m by_ : Nat} {t e : ao} {y z' : aw} (hO : A8 H G rs) (hm : It by_ a = some m) (zv : α) (he : B4 P t = some e) (hz : Aw P e = some (AG.sz α)) (hb : CU P e = some by_) {z : List V} (hzero : BG P e = some z)
  (k : ∀ b G', A8 H G' (.B6 b (.cells (AG.sz α) ((A9 0) (ch m zv))) :: rs) → BW (B0 P h fk n base lk) ops l ⟨D4 T d (.sl b 0 m), G'⟩ Q)
  (h0 : z.map (H8 (h.IA fk)) = (AG.BO 0) zv := by rfl) (h1 : ev T y = some (.int .i64 a) := by rfl) (h2 : ev T z' = some (.int .i64 a) := by rfl) (hd : cg d n = true := by rfl) :
  BW (B0 P h fk n base lk) ops ((s, kk, ⟨some d, .makeSlice t y z', ty, pos, aft, none⟩) :: l) ⟨T, G⟩ Q := by
 unfold It at hm
 split at hm
 case isFalse => cases hm
 rename_i hc
 simp only [aa] at hm
 subst hm
 refine pV ?_ hd (k _ _ (hO.alloc _))
 rw [Ja]
 simp only [h1, h2, ab, Iv]
 show (B4 P t).bind _ = _
 rw [he, ab]
 show (Aw P e).bind _ = _
 rw [hz, ab]
 show (CU P e).bind _ = _
 rw [hb, ab]
 show (BG P e).bind _ = _
 rw [hzero, ab, if_pos ⟨trivial, hc.1, hc.2, by rw [← fe (f := H8 (h.IA fk)), h0]; exact AG.len zv, eu.1 (AG.pos)⟩]
 show some (V.sl G.length 0 a.toNat, G ++ [Bb.cells (AG.sz α) (ch a.toNat (z.map (H8 (h.IA fk)))).flatten]) = _
 rw [h0, WJ]
theorem j0 {xs : List α} {i : Int} {x : α} {t : ao} {y z : aw} {b sz : Nat} (hO : A8 H G rs) (j : Nat) (hc : Aa xs i = some x) (hz : Aw P t = some (AG.sz α)) (hb : base = H.length) (yv : α) (v : V)
  (k : ∀ G', A8 H G' (rs.set j (.B6 b (.cells sz ((A9 0) (xs.set i.toNat yv))))) → BW (B0 P h fk n base lk) ops l ⟨T, G'⟩ Q)
  (h1 : ev T y = some (.ptr b (i.toNat * AG.sz α)) := by rfl) (hj : rs[j]? = some (.B6 b (.cells sz ((A9 0) xs))) := by rfl) (h2 : ev T z = some v := by rfl) (h3 : v.cellsOf = (AG.BO 0) yv := by rfl) :
  BW (B0 P h fk n base lk) ops ((s, kk, ⟨none, .store t y z, ty, pos, aft, none⟩) :: l) ⟨T, G⟩ Q := by
 subst hb
 obtain ⟨hg, hbb⟩ := hO.get hj
 have hlt : b < G.length := (al.1 hg).1
 refine bT (v := C7) ?_ (k _ (hO.set (x := .cells sz ((A9 0) (xs.set i.toNat yv))) hj rfl rfl ⟨hbb, by rw [Ab, if_pos ⟨rfl, hlt⟩]⟩))
 rw [LL]
 simp only [h1, h2, ab, FE]
 have hm : ((B0 P h fk n H.length lk).BQ s kk).BX b = true := by
  unfold Cx.BX
  simp only [de, decide_eq_true_eq]
  exact .inl hbb
 have hnb : ¬ b < ((B0 P h fk n H.length lk).BQ s kk).base := dt.2 hbb
 rw [if_pos hm, if_neg hnb]
 simp only [ab, hg, h3]
 have e1 : Aw P t = some ((AG.BO 0) yv).length := by rw [AG.len]; exact hz
 have e2 : i.toNat * AG.sz α + ((AG.BO 0) yv).length ≤ ((A9 0) xs).length := by rw [AG.len]; exact Ot hc
 rw [WK hc]
 exact congrArg (fun x : Option A4 => x.map fun H => (C7, H)) (if_pos ⟨e1, e2, AG.cell yv⟩)
end steps
section ends
variable {P : bg} {h : BI} {k d : Nat} {lr : List dv} {T : Nat → V} {G H : A4} {rs : List Bf} {vs : List V} {α : Type} [AG α] {x : X}
theorem ZP {P : bg} {hs : BI} {fk n base : Nat} {lk : Lk} {ops : Array bq} {S : St} {Q : X → St → Prop} {id : Nat} (l : List (Nat × Bool)) (l' : List (Bool × Bool × bq)) (h : Vm (hs.lits fk) ops l = true) (hl : Kt ops l = l') (hq : BW (B0 P hs fk n base lk) ops l' S (Q .normal)) : G5 (B0 P hs fk n base lk) (.region id ops true) S Q := by
 subst hl; exact XQ l h hq
end ends
section
open Go.RowKit
def Fa (W : ej) : AN := { w := W, φ := fun b => b, H := [], lk := [], n := 0, m := 0, BM := [] }
theorem WO (W : ej) (lv : Option Nat) (g i : Nat) : ¬ (Fa W).U lv g i := by
 intro h
 rcases h with h | h
 ·cases h
 cases lv with
 | some lv =>
  obtain ⟨b, _, _, h⟩ := h
  have h : match ([] : A4)[b]? with
   | some (.cells _ _) | some (.mp _) => True
   | some (.BT l n sz) => lv < l ∨ n * sz ≤ i
   | _ => False := h
  simp at h
 | none =>
  obtain ⟨b, _, h⟩ := h
  have h : match ([] : A4)[b]? with
   | some (.cells _ _) | some (.mp _) => True
   | some (.BT _ n sz) => n * sz ≤ i
   | _ => False := h
  simp at h
theorem SZ (W : ej) : C1 (Fa W) where
 cells := fun b sz cs h => by have h : ([] : A4)[b]? = some (.cells sz cs) := h; simp at h
 BT := fun b l n sz h => by have h : ([] : A4)[b]? = some (.BT l n sz) := h; simp at h
 lvl := fun b l n sz h => by have h : ([] : A4)[b]? = some (.BT l n sz) := h; simp at h
 dm := ak _
 inj := fun b b' h _ _ => by have h : live ([] : A4)[b]? := h; simp [live] at h
 maps := fun b As h => by have h : ([] : A4)[b]? = some (.mp As) := h; simp at h
 BM := fun g hg => by cases hg
theorem WX {P : bg} (hfol : P.follows .mixedOrders = true) {h : BI} {k : fh} {args : Array bm} {W : ej} {vs : List V} (hrep : AH (Fa W) vs args.toList) (hrun : Ai P h k vs [] [[]] = some (.bool true, [])) :
  Calls P k args W fun e W' => e = .returned (.bool true) ∧ Below W.heap.size W W' := by
 have hc := (T6 P hfol h).run k vs [] [] [] (.bool true) [] hrun (Fa W) args.toList rfl rfl rfl rfl (SZ W) (by simp) ((C9.DV (Fa W) [] (ak _)).HC _ _ hrep)
 have he : args.toList.toArray = args := by simp
 rw [he] at hc
 refine hc.mono fun e W' hR => ?_
 cases e with
 | returned u =>
  obtain ⟨E1, rfl, hb, hr⟩ := hR
  simp only [A6] at hr
  subst hr
  refine ⟨rfl, hb.CI.os, hb.CI.tape, hb.CI.output, hb.CI.size, fun g hg => hb.CI.block g hg fun i hu => ?_⟩
  rcases hu with hu | ⟨b, _, _, hu⟩
  ·cases hu
  have hx : ((Fa W).lock []).H[b]? = none := by show ([] : A4)[b]? = none; rfl
  rw [hx] at hu
  exact hu
 | _ => exact hR.elim
def FI (P : bg) (t : ao) (α : Type) [AG α] (fits : α → Prop) : Prop :=
 ∀ {K : Type} (enc : ao × bm → K) (W : ej) (sp : Nat → Bool) (fuel : Nat) (cs : List bm) (d : DataW K) (ps : List MemPlace), DataW.trod enc P W 0 sp true fuel t cs = some (d, ps) → ∃ x : α, AH (Fa W) ((AG.BO 0) x) cs ∧ fits x
abbrev F7 (x : Int) : Prop := -9223372036854775808 ≤ x ∧ x ≤ 9223372036854775807
abbrev FM {α : Type} (f : α → Prop) (xs : List α) : Prop := xs.length ≤ 9223372036854775807 ∧ ∀ x ∈ xs, f x
section
variable {P : bg} {t : ao}
theorem VC (ht : P.underlying t = some (.int .i64)) : FI P t Int F7 := by
 intro K enc W sp fuel cs d ps h
 cases fuel with
 | zero => simp [DataW.trod] at h
 | succ fuel =>
  simp only [DataW.trod, ht] at h
  split at h <;> try (simp_all; done)
  rename_i k k' n heq
  split at h
  case isFalse => cases h
  rename_i hc
  simp only [aa, TypeDesc.int.injEq] at heq
  subst heq
  obtain ⟨rfl, hw⟩ := hc
  simp only [Lit.wf, av, decide_eq_true_eq] at hw
  refine ⟨n, ?_, ?_⟩
  ·show AH _ [.int .i64 n] _
   simp only [AH, A6]
   exact ⟨_, _, rfl, rfl, rfl⟩
  ·have h1 : IntKind.min .i64 = -9223372036854775808 := rfl
   have h2 : IntKind.max .i64 = 9223372036854775807 := rfl
   rw [h1, h2] at hw
   exact hw
theorem VD (ht : P.underlying t = some .string) : FI P t ByteArray fun s => s.size ≤ 9223372036854775807 := by
 intro K enc W sp fuel cs d ps h
 cases fuel with
 | zero => simp [DataW.trod] at h
 | succ fuel =>
  simp only [DataW.trod, ht] at h
  split at h <;> try (simp_all; done)
  rename_i s heq
  split at h
  case isFalse => cases h
  rename_i hc
  refine ⟨s, ?_, hc⟩
  show AH _ [.str s] _
  simp only [AH, A6]
  exact ⟨_, _, rfl, rfl, rfl⟩
theorem UZ {W : ej} {a : Addr} {n : Nat} {cs : List bm} (h : W.cells? 0 a n = some cs) : cs.length = n ∧ ∀ i, i < n → ∃ u, cs[i]? = some u ∧ W.cell? (a.add i) = some u := by
 unfold World.cells? at h
 rw [if_pos (db _)] at h
 have key : ∀ (l : List Nat) (cs : List bm), (l.mapM fun i => W.cell? (a.add i)) = some cs → cs.length = l.length ∧ ∀ (i j : Nat), l[i]? = some j → ∃ u, cs[i]? = some u ∧ W.cell? (a.add j) = some u := by
  intro l
  induction l with
  | nil =>
   intro cs h
   simp only [List.mapM_nil, ji, aa] at h
   subst h
   exact ⟨rfl, fun i j h => by simp at h⟩
  | cons x l ih =>
   intro cs h
   simp only [jw, jr, ae, ji, aa] at h
   obtain ⟨u, hu, us, hus, rfl⟩ := h
   obtain ⟨h1, h2⟩ := ih us hus
   refine ⟨by simp [h1], fun i j hij => ?_⟩
   cases i with
   | zero =>
    simp only [ee, aa] at hij
    subst hij
    exact ⟨u, rfl, hu⟩
   | succ i => exact h2 i j (by simpa using hij)
 obtain ⟨h1, h2⟩ := key _ _ h
 refine ⟨by simpa using h1, fun i hi => h2 i i ?_⟩
 rw [List.getElem?_range hi]
theorem UE {W : ej} {lv : Option Nat} {g : Nat} : ∀ {vs : List V} {cs : List bm} {o : Nat}, AH (Fa W) vs cs → (∀ i u, cs[i]? = some u → W.cell? ⟨g, o + i, none⟩ = some u) → Br (Fa W) lv g o vs
 | [], cs, o, _, _ => by simp only [Br]
 | v :: vs, cs, o, h, hc => by
  simp only [AH] at h
  obtain ⟨u, us, rfl, h1, h2⟩ := h
  simp only [Br]
  refine ⟨⟨u, hc 0 u rfl, h1⟩, WO _ _ _ _, UE h2 fun i u hi => ?_⟩
  have := hc (i + 1) u (by simpa using hi)
  rw [show o + 1 + i = o + (i + 1) by omega]
  exact this
theorem Rl {W : ej} {lv : Option Nat} {g : Nat} : ∀ {vs ws : List V} {o : Nat}, Br (Fa W) lv g o vs → Br (Fa W) lv g (o + vs.length) ws → Br (Fa W) lv g o (vs ++ ws)
 | [], ws, o, _, h => h
 | v :: vs, ws, o, h, h' => by
  simp only [Br, di] at h ⊢
  exact ⟨h.1, h.2.1, Rl h.2.2 (by rw [show o + 1 + vs.length = o + (v :: vs).length by simp; omega]; exact h')⟩
theorem G3 {e : ao} {α : Type} [AG α] {f : α → Prop} (ht : P.underlying t = some (.slice e)) (hz : P.cellsOf e = AG.sz α) (he : FI P e α f) : FI P t (List α) (FM f) := by
 intro K enc W sp fuel cs d ps h
 cases fuel with
 | zero => simp [DataW.trod] at h
 | succ fuel =>
  simp only [DataW.trod, ht] at h
  split at h <;> try (simp_all; done)
  ·refine ⟨[], ?_, by simp [FM]⟩
   show AH _ [.lit 0 0 []] _
   simp only [AH, A6]
   exact ⟨_, _, rfl, ⟨ak _, none, 0, rfl, ak _, .inl trivial⟩, rfl⟩
  ·rename_i e' a len cap heq
   simp only [aa, TypeDesc.slice.injEq] at heq
   subst heq
   split at h
   case isFalse => cases h
   rename_i hc
   simp only [ae] at h
   obtain ⟨es, hes, _⟩ := h
   have key : ∀ (n k : Nat) (es : List (DataW K × List MemPlace)), ((List.range' k n).mapM fun i => (W.cells? 0 (a.add (i * P.cellsOf e)) (P.cellsOf e)).bind (DataW.trod enc P W 0 sp true fuel e)) = some es →
     ∃ xs : List α, xs.length = n ∧ (∀ x ∈ xs, f x) ∧ ((0 < n → k = 0 → a.spot = none) ∧ (n = 0 ∨ 0 < k ∨ a.spot = none) → ∀ lv, Br (Fa W) lv a.block (a.off + k * AG.sz α) ((A9 0) xs)) ∧ (0 < n → k = 0 → a.spot = none) := by
    intro n
    induction n with
    | zero => intro k es _; exact ⟨[], rfl, by simp, fun _ lv => by rw [WI]; simp only [Br], fun h => absurd h (ig _)⟩
    | succ n ih =>
     intro k es h
     rw [List.range'_succ] at h
     simp only [jw, jr, ae, ji, aa] at h
     obtain ⟨y, ⟨cs, hcs, hy⟩, ys, hys, rfl⟩ := h
     obtain ⟨x, hx, hfx⟩ := he enc W sp fuel cs y.1 y.2 hy
     obtain ⟨xs, h1, h2, h3, _⟩ := ih (k + 1) ys hys
     obtain ⟨c1, c2⟩ := UZ hcs
     have hpos : 0 < P.cellsOf e := by rw [hz]; exact AG.pos
     have hspot : k = 0 → a.spot = none := by
      intro hk
      subst hk
      obtain ⟨u, _, hu⟩ := c2 0 hpos
      have e1 : ((a.add (0 * P.cellsOf e)).add 0) = a := by simp [Addr.add]
      rw [e1] at hu
      unfold World.cell? at hu
      split at hu
      ·split at hu
       ·cases hu
       ·rename_i hs; simpa using hs
      ·cases hu
     refine ⟨x :: xs, by simp [h1], fun z hz' => ?_, fun _ lv => ?_, fun _ => hspot⟩
     ·rcases bw.1 hz' with rfl | hz'
      ·exact hfx
      ·exact h2 z hz'
     ·rw [CQ]
      refine Rl (UE hx fun i u hi => ?_) ?_
      ·have hlt : i < P.cellsOf e := by rw [← c1]; exact (al.1 hi).1
       obtain ⟨u', hu1, hu2⟩ := c2 i hlt
       rw [hi] at hu1
       simp only [aa] at hu1
       subst hu1
       have e1 : W.cell? ((a.add (k * P.cellsOf e)).add i) = W.cell? ⟨a.block, a.off + k * AG.sz α + i, none⟩ := by
        congr 1
        rw [← hz]
        unfold Addr.add
        by_cases h1 : k * P.cellsOf e = 0
        ·have hk : k = 0 := by
          rcases Nat.mul_eq_zero.1 h1 with h | h
          ·exact h
          ·omega
         have hs := hspot hk
         by_cases h2 : i = 0
         ·simp only [h1, h2, if_true, ju]
          cases a; simp_all
         ·simp only [h1, h2, if_true, if_false, ju]
        ·by_cases h2 : i = 0
         ·simp only [h1, h2, if_true, if_false, ju]
         ·simp only [h1, h2, if_false]
       rw [← e1]
       exact hu2
      ·rw [AG.len, show a.off + k * AG.sz α + AG.sz α = a.off + (k + 1) * AG.sz α by rw [gp]; omega]
       exact h3 ⟨fun _ h => by omega, .inr (.inl (Nat.succ_pos k))⟩ lv
   rw [List.range_eq_range'] at hes
   obtain ⟨xs, h1, h2, h3, h4⟩ := key len 0 es hes
   refine ⟨xs, ?_, ?_, h2⟩
   ·show AH _ [.lit 0 xs.length ((A9 0) xs)] _
    simp only [AH, A6]
    refine ⟨_, _, rfl, ⟨ak _, some a, cap, by rw [h1], by rw [h1]; exact hc.2.1, ?_⟩, rfl⟩
    rcases jh len with hl | hl
    ·exact .inl (by rw [h1, hl])
    ·have hs := h4 hl rfl
     refine .inr ⟨a.block, a.off, by cases a; simp_all, ?_⟩
     have := h3 ⟨fun _ _ => hs, .inr (.inr hs)⟩ (some 0)
     simpa using this
   ·rw [h1]
    have := hc.2.2
    have hm : maxLen = 9223372036854775807 := rfl
    omega
theorem VY {E : AN} {xs ys : List V} {cs : List bm} {off sz : Nat} (h1 : AH E xs ((cs.drop off).take sz)) (h2 : AH E ys (cs.drop (off + sz))) : AH E (xs ++ ys) (cs.drop off) := by
 have := EA h1 (by rw [← mO] at h2; exact h2)
 rwa [lR] at this
theorem I8 {E : AN} {xs : List V} {cs : List bm} {off sz : Nat} (hl : cs.length = off + sz) (h1 : AH E xs ((cs.drop off).take sz)) : AH E xs (cs.drop off) := by
 rwa [eh (by rw [kn]; omega)] at h1
theorem E4 {K : Type} {enc : ao × bm → K} {W : ej} {sp : Nat → Bool} {fuel : Nat} {cs : List bm} {d : DataW K} {ps : List MemPlace} {fs : Array Field} (ht : P.underlying t = some (.struct fs)) (h : DataW.trod enc P W 0 sp true fuel t cs = some (d, ps)) :
  ∃ fuel', cs.length = P.cellsOf t ∧ ∀ f ∈ fs.toList, ∃ d' ps', DataW.trod enc P W 0 sp true fuel' f.type ((cs.drop f.offset).take (P.cellsOf f.type)) = some (d', ps') := by
 cases fuel with
 | zero => simp [DataW.trod] at h
 | succ fuel =>
  simp only [DataW.trod, ht] at h
  split at h
  case isFalse => cases h
  rename_i hc
  simp only [af] at h
  obtain ⟨xs, hxs, hx2⟩ := h
  refine ⟨fuel, hc, ?_⟩
  clear ht hc hx2
  generalize fs.toList = l at hxs ⊢
  induction l generalizing xs with
  | nil => simp
  | cons f l ih =>
   simp only [jw, jr, ae, ji, aa] at hxs
   obtain ⟨y, hy, ys, hys, rfl⟩ := hxs
   intro g hg
   rcases bw.1 hg with rfl | hg
   ·exact ⟨y.1, y.2, hy⟩
   ·exact ih ys hys g hg
end
def U4 (P : bg) (t : ao) : Bool := match P.underlying t with | some (.int _) | some .bool | some .string | some (.slice _) => true | _ => false
theorem Qs {P : bg} {t : ao} {W : ej} {base : Nat} {v : bm} (ht : U4 P t = true) (ho : Value.okWide P W .any base t v) (cs : Array bm) : v ≠ .agg cs := by
 rintro rfl
 unfold U4 at ht
 unfold Value.okWide Cell.okWide Cell.ok at ho
 split at ht <;> rename_i hu
 all_goals (try (rw [hu] at ho; simp at ho; done))
 all_goals cases ht
theorem MY {P : bg} {t : ao} {fs : Array Field} {W : ej} {base : Nat} {v : bm} (ht : P.underlying t = some (.struct fs)) (ho : Value.okWide P W .any base t v) : ∃ cs, v = .agg cs := by
 unfold Value.okWide at ho
 rw [ht] at ho
 obtain ⟨cs, h, _⟩ := ho
 exact ⟨cs, h⟩
theorem dR {E : AN} {xs : List V} {v : bm} (hv : ∃ cs, v = .agg cs) (h : AH E xs v.cells.toList) : A6 E (.agg xs) v := by
 obtain ⟨cs, rfl⟩ := hv
 simp only [A6]
 exact ⟨cs, rfl, h⟩
theorem dQ {E : AN} {x : V} {v : bm} (hv : ∀ cs, v ≠ .agg cs) (h : AH E [x] v.cells.toList) : A6 E x v := by
 have hc : v.cells = #[v] := by
  cases v <;> first | rfl | exact absurd rfl (hv _)
 rw [hc] at h
 simp only [AH] at h
 obtain ⟨u, us, h1, h2, _⟩ := h
 simp only [ei] at h1
 rw [h1.1]
 exact h2
theorem dS (E : AN) : AH E [] [] := by simp only [AH]
theorem TX {E : AN} {x : V} {xs : List V} {v : bm} {vs : List bm} (h : A6 E x v) (hs : AH E xs vs) : AH E (x :: xs) (v :: vs) := by
 simp only [AH]
 exact ⟨v, vs, rfl, h, hs⟩
end
theorem BV {x : Int} (h : -9223372036854775808 ≤ x ∧ x ≤ 9223372036854775807) : AV x = x := IntWalk.i64_in x h
theorem B3 {i : Nat} (h : i < 9223372036854775807) : AV ((i : Int) + 1) = ((i + 1 : Nat) : Int) := by rw [BV ⟨by omega, by omega⟩]; rfl
theorem AM {α : Type} (xs : List α) (i : Nat) : Aa xs (i : Int) = xs[i]? := by
 unfold Aa
 rw [if_pos (by omega)]
 rfl
theorem Iu {by_ n : Nat} (h : n * (by_ + 1) ≤ 70368744177664) : It by_ (n : Int) = some n := by
 unfold It
 have h1 : (n : Int) * ((by_ : Int) + 1) ≤ 70368744177664 := by
  have e : (n : Int) * ((by_ : Int) + 1) = ((n * (by_ + 1) : Nat) : Int) := by rw [Int.natCast_mul, Int.natCast_add]; rfl
  rw [e]
  omega
 rw [if_pos ⟨Int.natCast_nonneg n, h1⟩]
 rfl
theorem Wd {σ ρ : Type} {F : σ → Option (σ ⊕ ρ)} (φ : ρ → Prop) (n : Nat) (st : Nat → σ) (h : ∀ i, i < n → F (st i) = some (.inl (st (i + 1))) ∨ ∃ r, F (st i) = some (.inr r) ∧ φ r) (hend : ∃ r, F (st n) = some (.inr r) ∧ φ r) : ∃ r, AP F (st 0) = some r ∧ φ r := by
 have key : ∀ k i, i + k = n → ∃ r, AP F (st i) = some r ∧ φ r := by
  intro k
  induction k with
  | zero =>
   intro i hi
   have : i = n := by omega
   subst this
   obtain ⟨r, h1, h2⟩ := hend
   exact ⟨r, by rw [BK, h1]; rfl, h2⟩
  | succ k ih =>
   intro i hi
   rcases h i (by omega) with h1 | ⟨r, h1, h2⟩
   ·obtain ⟨r, h2, h3⟩ := ih (i + 1) (by omega)
    exact ⟨r, by rw [BK, h1]; exact h2, h3⟩
   ·exact ⟨r, by rw [BK, h1]; rfl, h2⟩
 exact key n 0 (by omega)
theorem P2 {σ ρ : Type} {F : σ → Option (σ ⊕ ρ)} (n : Nat) (st : Nat → σ) {r : ρ} (h : ∀ i, i < n → F (st i) = some (.inl (st (i + 1)))) (hend : F (st n) = some (.inr r)) : AP F (st 0) = some r := by
 obtain ⟨r', h1, h2⟩ := Wd (φ := fun r' => r' = r) n st (fun i hi => .inl (h i hi)) ⟨r, hend, rfl⟩
 rw [h1, h2]
theorem Ww {α : Type} (ys : List α) (i : Nat) (z : α) (m : Nat) (h : ys.length = i) : (ys ++ ch (m + 1) z).set i = fun y => ys ++ y :: ch m z := by
 funext y
 subst h
 rw [lS _ _ (ak _), gq, jz, lj]
theorem WG {α β : Type} (xs : List α) (g : α → β) (z : β) {F : List β × Int → Option ((List β × Int) ⊕ List β)}
  (h : ∀ (ys : List β) (i : Nat) (x : α), xs[i]? = some x → ys.length = xs.length → F (ys, (i : Int)) = some (.inl (ys.set i (g x), ((i + 1 : Nat) : Int)))) (hend : ∀ ys : List β, F (ys, (xs.length : Int)) = some (.inr ys)) :
  AP F (ch xs.length z, (0 : Int)) = some (xs.map g) := by
 have hs : ∀ i, i ≤ xs.length → ((xs.take i).map g ++ ch (xs.length - i) z).length = xs.length := by
  intro i hi
  simp only [aq, fe, dq, gj]
  omega
 have := P2 (F := F) (r := xs.map g) xs.length (fun i => ((xs.take i).map g ++ ch (xs.length - i) z, (i : Int))) (fun i hi => ?_) ?_
 ·simpa using this
 ·rw [h _ i xs[i] (aj hi) (hs i (by omega))]
  congr 3
  rw [show xs.length - i = (xs.length - (i + 1)) + 1 by omega, Ww _ _ _ _ (by simp; omega)]
  have : (xs.take (i + 1)).map g = (xs.take i).map g ++ [g xs[i]] := by rw [List.take_add_one, aj hi, fi]; rfl
  rw [this, bj]
  rfl
 ·have := hend (xs.map g)
  simpa using this
abbrev Jc {α : Type} (f : α → Prop) (xs : List α) : Prop := xs.length ≤ 1048576 ∧ ∀ x ∈ xs, f x
theorem D2 {i n : Nat} (h : i < n) : decide ((i : Int) < (n : Int)) = true := by rw [decide_eq_true_eq]; omega
theorem Cn (n : Nat) : decide ((n : Int) < (n : Int)) = false := by rw [decide_eq_false_iff_not]; omega
theorem BJ {α : Type} {xs : List α} {i : Nat} {x : α} (h : xs[i]? = some x) : i < xs.length := (al.1 h).1
theorem UK {α : Type} {xs : List α} {left : Int} (h0 : 0 ≤ left) (h1 : left ≤ 1048576) (hx : xs.length ≤ 9223372036854775807) :
  ∃ v, (bif decide (AV (left - (xs.length : Int)) < (0 : Int)) then some (-1 : Int) else some (AV (left - (xs.length : Int)))) = some v ∧ v ≤ left ∧ (v < 0 ∨ Jc (fun _ => True) xs) := by
 rw [BV ⟨by omega, by omega⟩]
 cases hb : decide ((left - (xs.length : Int)) < (0 : Int)) with
 | true => exact ⟨_, rfl, by omega, .inl (by decide)⟩
 | false =>
  simp only [decide_eq_false_iff_not] at hb
  exact ⟨_, rfl, by omega, .inr ⟨by omega, fun _ _ => trivial⟩⟩
theorem UJ {α : Type} {xs : List α} {F : Int × Int → Option ((Int × Int) ⊕ Int)} {g : α → Int → Option Int} {fit sm : α → Prop} {left : Int}
  (hg : ∀ x l, fit x → 0 ≤ l → l ≤ 1048576 → ∃ v, g x l = some v ∧ v ≤ l ∧ (v < 0 ∨ sm x)) (hF : ∀ (l : Int) (i : Nat) (x : α), xs[i]? = some x → F (l, (i : Int)) = (g x l).bind fun v => bif decide (v < (0 : Int)) then some (.inr (-1)) else some (.inl (v, AV ((i : Int) + 1))))
  (hend : ∀ l, F (l, (xs.length : Int)) = some (.inr l)) (h0 : 0 ≤ left) (h1 : left ≤ 1048576) (hx : FM fit xs) :
  ∃ v, (bif decide (AV (left - (xs.length : Int)) < (0 : Int)) then some (-1 : Int) else AP F (AV (left - (xs.length : Int)), (0 : Int))) = some v ∧ v ≤ left ∧ (v < 0 ∨ Jc sm xs) := by
 have hx1 := hx.1
 rw [BV ⟨by omega, by omega⟩]
 cases hb : decide ((left - (xs.length : Int)) < (0 : Int)) with
 | true => exact ⟨_, rfl, by omega, .inl (by decide)⟩
 | false =>
  simp only [decide_eq_false_iff_not] at hb
  simp only [cond_false]
  have key : ∀ (k i : Nat) (l : Int), i + k = xs.length → 0 ≤ l → l ≤ left → (∀ j x, j < i → xs[j]? = some x → sm x) → ∃ v, AP F (l, (i : Int)) = some v ∧ v ≤ left ∧ (v < 0 ∨ ∀ x ∈ xs, sm x) := by
   intro k
   induction k with
   | zero =>
    intro i l hi hl0 hl1 hall
    have : i = xs.length := by omega
    subst this
    refine ⟨l, by rw [BK, hend]; rfl, hl1, .inr fun x hx => ?_⟩
    obtain ⟨j, hj, e⟩ := dh.1 hx
    exact hall j x hj (by rw [aj hj, e])
   | succ k ih =>
    intro i l hi hl0 hl1 hall
    have hlt : i < xs.length := by omega
    have hget := aj hlt
    obtain ⟨v, e1, e2, e3⟩ := hg xs[i] l (hx.2 _ (dc hlt)) hl0 (by omega)
    rw [BK, hF l i _ hget, e1, ab]
    cases hv : decide (v < (0 : Int)) with
    | true => exact ⟨-1, rfl, by omega, .inl (by decide)⟩
    | false =>
     simp only [decide_eq_false_iff_not] at hv
     simp only [cond_false, ab]
     rw [B3 (by omega)]
     refine ih (i + 1) v (by omega) (by omega) (by omega) fun j x hj hjx => ?_
     by_cases hji : j = i
     ·subst hji
      rw [hget] at hjx
      simp only [aa] at hjx
      subst hjx
      exact e3.resolve_left hv
     ·exact hall j x (by omega) hjx
  obtain ⟨v, e1, e2, e3⟩ := key xs.length 0 (left - xs.length) (by omega) (by omega) (by omega) (fun j x hj => by omega)
  exact ⟨v, e1, e2, e3.imp id fun h => ⟨by omega, h⟩⟩
theorem Ku {α : Type} {xs : List α} {F : Int → Option (Int ⊕ Bool)} (hl : xs.length ≤ 1048576) (hF : ∀ (i : Nat) (x : α), xs[i]? = some x → F (i : Int) = some (.inl (AV ((i : Int) + 1)))) (hend : F (xs.length : Int) = some (.inr true)) : AP F (0 : Int) = some true :=
 P2 (F := F) xs.length (fun i => (i : Int)) (fun i hi => by rw [hF i _ (aj hi), B3 (by omega)]) hend
theorem JK {y n : Int} (h : -9223372036854775807 ≤ n ∧ n ≤ 9223372036854775807) : decide (y ≤ AV (n - 1)) = decide (y < n) := by rw [BV ⟨by omega, by omega⟩]; congr 1; apply propext; omega
theorem We {α : Type} {F : Int → Option (Int ⊕ Bool)} (xs : List α) (b : α → Bool) (h : ∀ (i : Nat) (x : α), xs[i]? = some x → F (i : Int) = some (bif b x then .inr true else .inl ((i + 1 : Nat) : Int))) (hend : F (xs.length : Int) = some (.inr false)) : AP F (0 : Int) = some (xs.any b) := by
 have key : ∀ k i : Nat, i + k = xs.length → AP F (i : Int) = some ((xs.drop i).any b) := by
  intro k
  induction k with
  | zero =>
   intro i hi
   have : i = xs.length := by omega
   subst this
   rw [BK, hend, mA]; rfl
  | succ k ih =>
   intro i hi
   have hlt : i < xs.length := by omega
   rw [BK, h i _ (aj hlt), List.drop_eq_getElem_cons hlt, List.any_cons]
   cases hb : b xs[i] with
   | true => simp
   | false => simp only [cond_false, ab, mQ]; exact ih (i + 1) (by omega)
 have := key xs.length 0 (by omega)
 simpa using this
def Nz (v : V) : Prop := ∀ m cs, v = .tl m cs → m = 0
theorem Nz.snap {b n : Nat} {cs : List V} : Nz (.snap b n cs) := fun _ _ h => by cases h
theorem Nz.nil : Nz (.tl 0 []) := fun _ _ h => by cases h; rfl
def JU {α : Type} (by_ : Nat) (xs ys : List α) : Option (List α) := if ys.length = 0 ∨ (xs.length + ys.length) * (by_ + 1) ≤ 70368744177664 then some (xs ++ ys) else none
theorem K7 {α : Type} {by_ : Nat} {xs ys : List α} (h : (xs.length + ys.length) * (by_ + 1) ≤ 70368744177664) : JU by_ xs ys = some (xs ++ ys) := if_pos (.inr h)
theorem A8.FK {H G : A4} {rs : List Bf} {α : Type} [AG α] (h : A8 H G rs) (d : Nat) (xs : List α) : A8 H G (.own (.tl xs.length ((A9 0) xs)) d (AG.sz α) xs.length ((A9 0) xs) :: rs) where
 pre := h.pre
 len := h.len
 ok := fun r hr => by
  rcases bw.1 hr with rfl | hr
  ·exact ⟨CB xs, .inl rfl⟩
  ·exact h.ok r hr
 apart := ec.2 ⟨fun r _ x hx => by simp [Bf.DC] at hx, h.apart⟩
theorem A8.swap {H G : A4} {rs : List Bf} (h : A8 H G rs) {k : Nat} {r r' : Bf} {x : Bb} (hk : rs[k]? = some r) (hr : r.DC = []) (hn : r'.DC = [G.length]) (ho : r'.ok H (G ++ [x])) : A8 H (G ++ [x]) (rs.set k r') where
 pre := fun b hb => by rw [az (ck hb h.len)]; exact h.pre b hb
 len := by rw [aq]; have := h.len; omega
 ok := fun r2 hr2 => by
  obtain ⟨j, hj, e⟩ := dh.1 hr2
  simp only [cp] at hj
  rw [ef] at e
  split at e
  ·rw [← e]; exact ho
  ·subst e
   have h1 := h.ok _ (dc hj)
   exact Bf.FA h1 fun y hy => by rw [az (Bf.H9 h1 hy)]
 apart := by
  have hp := cr.1 h.apart
  rw [cr]
  intro i j hi hj hij x hx hx'
  simp only [cp] at hi hj
  simp only [ef] at hx hx'
  split at hx
  ·rename_i e
   rw [if_neg (by omega)] at hx'
   rw [hn] at hx
   simp only [bl] at hx
   subst hx
   exact absurd (Bf.H9 (h.ok _ (dc hj)) hx') (ig _)
  ·split at hx'
   ·rw [hn] at hx'
    simp only [bl] at hx'
    subst hx'
    exact absurd (Bf.H9 (h.ok _ (dc hi)) hx) (ig _)
   ·exact hp i j hi hj hij x hx hx'
theorem A8.own {H G : A4} {rs : List Bf} (h : A8 H G rs) {k d sz n : Nat} {v : V} {cs : List V} (hk : rs[k]? = some (.own v d sz n cs)) : cs.length = n * sz ∧ (v = .tl n cs ∨ ∃ b, v = .snap b n cs ∧ H.length ≤ b ∧ G[b]? = some (.BT d n sz)) := h.ok _ (bh hk)
theorem A8.pick {H G : A4} {rs rs' : List Bf} (h : A8 H G rs) (ix : List Nat) (hn : ix.Nodup) (he : rs'.map some = ix.map fun i => rs[i]?) : A8 H G rs' where
 pre := h.pre
 len := h.len
 ok := fun r hr => by
  have : some r ∈ rs'.map some := ea.2 ⟨r, hr, rfl⟩
  rw [he] at this
  obtain ⟨i, _, hi⟩ := ea.1 this
  exact h.ok r (bh hi)
 apart := by
  have hlen : rs'.length = ix.length := by have := congrArg List.length he; simpa using this
  have hget : ∀ i (hi : i < rs'.length), rs[ix[i]'(by omega)]? = some rs'[i] := by
   intro i hi
   have := congrArg (fun l => l[i]?) he
   simp only [dj, aj hi, aj (show i < ix.length by omega), ai] at this
   exact (an this).symm
  have hp := cr.1 h.apart
  rw [cr]
  intro i j hi hj hij x hx hx'
  obtain ⟨a1, a2⟩ := al.1 (hget i hi)
  obtain ⟨b1, b2⟩ := al.1 (hget j hj)
  rw [← a2] at hx
  rw [← b2] at hx'
  have hne : ix[i]'(by omega) ≠ ix[j]'(by omega) := cr.1 hn i j (by omega) (by omega) hij
  rcases bz (ix[i]'(by omega)) (ix[j]'(by omega)) with hlt | hge
  ·exact hp _ _ a1 b1 hlt x hx hx'
  ·exact hp _ _ b1 a1 (by omega) x hx' hx
section steps
variable {P : bg} {h : BI} {fk n base : Nat} {lk : Lk} {c : Cx} {ops : Array bq} {s kk : Bool} {d : Nat} {ty : ao} {pos : String} {aft : Array Edge} {l : List (Bool × Bool × bq)} {Q : St → Prop} {T : Nat → V} {G G' H : A4} {rs : List Bf} {op : Op}
variable {α : Type} [AG α]
theorem pk {H G : A4} {rs rs' : List Bf} (h : A8 H G rs) (ix : List Nat) (hn : ix.Nodup := by decide) (he : rs'.map some = ix.map fun i => rs[i]? := by rfl) : A8 H G rs' := h.pick ix hn he
theorem HS {t : ao} {parts : Array (Nat × aw)} {ps : List (Nat × V)} {z : List V} {pl : List (Nat × Nat)} (cs : List V) (hz : BG P t = some z) (hp : Dg P t = some pl) (k : BW (B0 P h fk n base lk) ops l ⟨D4 T d (.agg cs), G⟩ Q) (h1 : Qp T parts.toList = some ps := by rfl) (h2 : DS (fun i => pl[i]?) z ps = some cs := by rfl) (hd : cg d n = true := by rfl) :
  BW (B0 P h fk n base lk) ops ((s, kk, ⟨some d, .build t parts, ty, pos, aft, none⟩) :: l) ⟨T, G⟩ Q := by
 refine pV ?_ hd k
 rw [V5, h1]
 show (BG P t).bind _ = _
 rw [hz]
 show (Dg P t).bind _ = _
 rw [hp]
 show ((DS (fun i => pl[i]?) z ps).map V.agg).map _ = _
 rw [h2]
 rfl
theorem lG {src dst : ao} {x : aw} {k1 k2 : fc} {a : Int} {kd : fc} (hs : P.underlying src = some (.int k1)) (ht : P.underlying dst = some (.int k2)) (k : BW (B0 P h fk n base lk) ops l ⟨D4 T d (.int k2 (k2.wrap a)), G⟩ Q) (h1 : ev T x = some (.int kd a) := by rfl) (hd : cg d n = true := by rfl) :
  BW (B0 P h fk n base lk) ops ((s, kk, ⟨some d, .convert src dst x, ty, pos, aft, none⟩) :: l) ⟨T, G⟩ Q := by
 refine pV ?_ hd k
 unfold HX C5
 simp only []
 have hs' : ((B0 P h fk n base lk).BQ s kk).P.underlying src = some (.int k1) := hs
 have ht' : ((B0 P h fk n base lk).BQ s kk).P.underlying dst = some (.int k2) := ht
 rw [hs', ht', h1]
 rfl
theorem Lo {lo k : Nat} {H : A4} : ∀ (vs : List V), clean.cleanL 1 vs = true → vs.all V.Ba = true → Af.giveL (Af lo (k + 1)) H vs = some (vs, H)
 | [], _, _ => rfl
 | v :: vs, hh, hc => by
  simp only [clean.cleanL, av] at hh
  simp only [fg, av] at hc
  have : Af lo (k + 1) H v = some (v, H) := by
   cases v with
   | lit lv n cs => simp only [Af]; rw [if_pos hh.1]
   | int _ _ => rfl
   | bool _ => rfl
   | str _ => rfl
   | Gg => rfl
   | Dw => rfl
   | agg cs => cases hc.1
   | EZ cs => cases hc.1
   | _ => simp [clean] at hh
  simp only [Af.giveL, this, ab, Lo vs hh.2 hc.2, ai]
theorem Xi {c : Cx} (hk : c.hints.IA c.fn = false) (x : α) : FL c H (.agg ((AG.BO 0) x)) = some (.agg ((AG.BO 0) x), H) := by
 unfold FL
 rw [hk]
 simp only [ba, if_false]
 split
 ·rw [if_pos]
  simp only [clean, AG.clean]
 ·show Af c.base (7 + 1) H _ = _
  rw [Af, Lo (k := 6) _ (AG.clean x) (AG.cell x)]
  rfl
theorem Xj {c : Cx} (hk : c.hints.IA c.fn = false) (kd : fc) (x : Int) : FL c H (.int kd x) = some (.int kd x, H) := by
 unfold FL
 rw [hk]
 simp only [ba, if_false]
 split <;> rfl
theorem Cs {c : Cx} : CH c H [] = some ([], H) := rfl
theorem Bc {c : Cx} {i : Nat} {v : V} {r : List (Nat × V)} (h1 : FL c H v = some (v, H)) (h2 : CH c H r = some (r, H)) : CH c H ((i, v) :: r) = some ((i, v) :: r, H) := by
 simp only [CH, h1, h2, ab, ai]
theorem Rh {t e : ao} {m : Nat} {parts : Array (Nat × aw)} {ps : List (Nat × V)} {z : List V} (ys : List α) (he : B4 P t = some e) (hz : Aw P e = some (AG.sz α)) (hz0 : BG P e = some z) (hem : CH ((B0 P h fk n base lk).BQ s kk) G ps = some (ps, G)) (k : BW (B0 P h fk n base lk) ops l ⟨D4 T d (.tl ys.length ((A9 0) ys)), G⟩ Q)
  (hlt : h.lits fk = false := by rfl) (hzl : z.length = AG.sz α := by rfl) (hm : fj (m * AG.sz α) 1048576 = true := by rfl) (hlen : m = ys.length := by rfl) (h1 : Qp T parts.toList = some ps := by rfl) (h2 : DS (fun i => some (i * AG.sz α, AG.sz α)) (ch m z).flatten ps = some ((A9 0) ys) := by rfl) (hd : cg d n = true := by rfl) :
  BW (B0 P h fk n base lk) ops ((s, kk, ⟨some d, .buildSlice t m parts, ty, pos, aft, none⟩) :: l) ⟨T, G⟩ Q := by
 refine pV ?_ hd k
 unfold HX C5
 simp only []
 rw [h1]
 simp only [ab, hem]
 show (B4 P t).bind _ = _
 rw [he]
 show (Aw P e).bind _ = _
 rw [hz]
 show (BG P e).bind _ = _
 rw [hz0]
 simp only [ab]
 have hown : ((B0 P h fk n base lk).BQ s kk).own m = false := by show (m != 0 && h.lits fk) = false; rw [hlt]; simp
 simp only [hown, ba, if_false]
 rw [if_pos ⟨hzl, eu.1 AG.pos, bp hm⟩, h2, hlen]
 rfl
def K5 (G : A4) (v : V) (xs : List α) : Prop := Cd v = some xs.length ∧ Fu G (AG.sz α) v = some ((A9 0) xs)
theorem Qv (xs : List α) : K5 G (.tl xs.length ((A9 0) xs)) xs := ⟨rfl, rfl⟩
theorem UY {j dd sz : Nat} {v : V} {xs : List α} (hO : A8 H G rs) (hj : rs[j]? = some (.own v dd sz xs.length ((A9 0) xs))) : K5 G v xs := by
 rcases (hO.own hj).2 with rfl | ⟨b, rfl, _⟩
 ·exact ⟨rfl, rfl⟩
 ·exact ⟨rfl, rfl⟩
theorem dP {c : Cx} {st xt e : ao} {w : V} {ys : List α} {by_ m : Nat} {z cs : List V} (hy : K5 G w ys) (he : B4 c.P st = some e) (hz : Aw c.P e = some (AG.sz α)) (hby : CU c.P e = some by_) (hz0 : BG c.P e = some z) (he' : (B4 c.P xt).isSome = true) (hzl : z.length = AG.sz α) :
  E6 c st xt G (.tl m cs) w = if ys.length = 0 then some (.tl m cs, G) else if cs.length = m * AG.sz α ∧ (m + ys.length) * (by_ + 1) ≤ 70368744177664 then some (.snap G.length (m + ys.length) (cs ++ (A9 0) ys), G ++ [.BT c.d (m + ys.length) (AG.sz α)]) else none := by
 unfold E6
 rw [he, ab, hz, ab, hby, ab, hz0, ab, if_pos ⟨he', eu.1 AG.pos, hzl⟩, hy.1, ab, hy.2, ab, if_pos ⟨CB ys, D1 ys⟩]
theorem Xe {c : Cx} {st xt e : ao} {w : V} {ys : List α} {by_ m b : Nat} {z cs : List V} (hy : K5 G w ys) (he : B4 c.P st = some e) (hz : Aw c.P e = some (AG.sz α)) (hby : CU c.P e = some by_) (hz0 : BG c.P e = some z) (he' : (B4 c.P xt).isSome = true) (hzl : z.length = AG.sz α) :
  E6 c st xt G (.snap b m cs) w = if ys.length = 0 then some (.snap b m cs, G) else match G[b]? with
    | some (.BT l m' sz') => if cs.length = m * AG.sz α ∧ (m + ys.length) * (by_ + 1) ≤ 70368744177664 ∧ m' = m ∧ sz' = AG.sz α ∧ c.BX b = true then some (.snap b (m + ys.length) (cs ++ (A9 0) ys), G.set b (.BT l (m + ys.length) (AG.sz α))) else none
    | _ => none := by
 unfold E6
 rw [he, ab, hz, ab, hby, ab, hz0, ab, if_pos ⟨he', eu.1 AG.pos, hzl⟩, hy.1, ab, hy.2, ab, if_pos ⟨CB ys, D1 ys⟩]
 rfl
theorem gN {st xt e e' : ao} {x y : aw} {v w : V} {xs ys zs : List α} {by_ dd sz : Nat} {z : List V} (hO : A8 H G rs) (j : Nat) (happ : JU by_ xs ys = some zs) (hy : K5 G w ys) (he : B4 P st = some e) (hz : Aw P e = some (AG.sz α)) (hby : CU P e = some by_) (hz0 : BG P e = some z) (he' : B4 P xt = some e') (hb : base = H.length)
  (k : ∀ v' G', (Nz v → Nz v') → A8 H G' (rs.set j (.own v' lk.length (AG.sz α) zs.length ((A9 0) zs))) → BW (B0 P h fk n base lk) ops l ⟨D4 T d v', G'⟩ Q)
  (h1 : ev T x = some v := by rfl) (h2 : ev T y = some w := by rfl) (hzl : z.length = AG.sz α := by rfl) (hj : rs[j]? = some (.own v dd sz xs.length ((A9 0) xs)) := by rfl) (hdd : dd = lk.length := by rfl) (hsz : sz = AG.sz α := by rfl) (hd : cg d n = true := by rfl) :
  BW (B0 P h fk n base lk) ops ((s, kk, ⟨some d, .call ⟨.builtin .append, #[x, y], #[st, xt]⟩, ty, pos, aft, none⟩) :: l) ⟨T, G⟩ Q := by
 subst hb hdd hsz
 obtain ⟨hl, hv⟩ := hO.own hj
 unfold JU at happ
 split at happ
 case isFalse => cases happ
 rename_i hroom
 simp only [aa] at happ
 subst happ
 have start : ∀ r : Option (V × A4), E6 ((B0 P h fk n H.length lk).BQ s kk) st xt G v w = r → HX ((B0 P h fk n H.length lk).BQ s kk) (.call ⟨.builtin .append, #[x, y], #[st, xt]⟩) ⟨T, G⟩ = r := by
  intro r hr
  rw [Sw]
  simp only [h1, h2, ab]
  exact hr
 have hx' : (B4 P xt).isSome = true := by rw [he']; rfl
 have hap1 := fun m cs => dP (c := (B0 P h fk n H.length lk).BQ s kk) (m := m) (cs := cs) hy he hz hby hz0 hx' hzl
 have hap2 := fun b m cs => Xe (c := (B0 P h fk n H.length lk).BQ s kk) (b := b) (m := m) (cs := cs) hy he hz hby hz0 hx' hzl
 rcases jh ys.length with h0 | h0
 ·have hys : ys = [] := bx h0
  subst hys
  have hrs : rs.set j (.own v lk.length (AG.sz α) xs.length ((A9 0) xs)) = rs := by
   apply ib
   intro i
   rw [jj]
   split
   ·rename_i e1; subst e1
    obtain ⟨q1, q2⟩ := al.1 hj
    rw [if_pos q1, hj]
   ·rfl
  have k2 := k v G id (by simp only [cu]; rw [hrs]; exact hO)
  refine pV (start _ ?_) hd k2
  rcases hv with rfl | ⟨b, rfl, _, _⟩
  ·rw [hap1]; exact if_pos rfl
  ·rw [hap2]; exact if_pos rfl
 ·have hroom := hroom.resolve_left (by omega)
  have hl2 : ((A9 0) xs ++ (A9 0) ys).length = (xs.length + ys.length) * AG.sz α := by rw [aq, CB, CB, Nat.add_mul]
  have e1 : (xs ++ ys).length = xs.length + ys.length := aq
  rw [e1, RA] at k
  rcases hv with rfl | ⟨b, rfl, hbb, hg⟩
  ·refine pV (start _ ?_) hd (k (.snap G.length (xs.length + ys.length) ((A9 0) xs ++ (A9 0) ys)) (G ++ [.BT lk.length (xs.length + ys.length) (AG.sz α)]) (fun _ => Nz.snap) (hO.swap hj rfl rfl ⟨hl2, .inr ⟨G.length, rfl, hO.len, J4 _ _⟩⟩))
   rw [hap1, if_neg (by omega), if_pos ⟨hl, hroom⟩]
   rfl
  ·have hlt : b < G.length := (al.1 hg).1
   have hm : ((B0 P h fk n H.length lk).BQ s kk).BX b = true := by
    unfold Cx.BX
    simp only [de, decide_eq_true_eq]
    exact .inl hbb
   refine pV (start _ ?_) hd (k (.snap b (xs.length + ys.length) ((A9 0) xs ++ (A9 0) ys)) (G.set b (.BT lk.length (xs.length + ys.length) (AG.sz α))) (fun _ => Nz.snap) (hO.set hj rfl rfl ⟨hl2, .inr ⟨b, rfl, hbb, by rw [Ab, if_pos ⟨rfl, hlt⟩]⟩⟩))
   rw [hap2, if_neg (by omega), hg]
   simp only []
   rw [if_pos ⟨hl, hroom, trivial, trivial, hm⟩]
theorem Zf {x : aw} {t : ao} {v : V} {xs : List α} (hb : K5 G v xs) (ht : IX P t = some false) (k : BW (B0 P h fk n base lk) ops l ⟨D4 T d (.int .i64 xs.length), G⟩ Q) (h1 : ev T x = some v := by rfl) (hd : cg d n = true := by rfl) :
  BW (B0 P h fk n base lk) ops ((s, kk, ⟨some d, .call ⟨.builtin .len, #[x], #[t]⟩, ty, pos, aft, none⟩) :: l) ⟨T, G⟩ Q := by
 refine BC (b := false) (a := v) ht k h1 ?_ hd
 have := hb.1
 cases v <;> first | exact this | simp [Cd] at this
end steps
class GI (α : Type) where
 pv : α → V
 plain : ∀ a, BE (pv a) = true
instance : GI Int := ⟨fun x => .int .i64 x, fun _ => rfl⟩
instance : GI Bool := ⟨fun x => .bool x, fun _ => rfl⟩
instance : GI ByteArray := ⟨fun x => .str x, fun _ => rfl⟩
def Jg (kt : KT) (κ : Type) [GI κ] [DecidableEq κ] : Prop := ∀ a b : κ, Dc kt (GI.pv a) (GI.pv b) = some (decide (a = b))
theorem ML : Jg (.one .s) ByteArray := fun a b => by
 show some (a == b) = _
 congr 1
 rw [fb, Go.MapKept.bytes_beq, decide_eq_true_eq]
section
variable {κ ν : Type} [DecidableEq κ]
def Ch (k : κ) : List (κ × ν) → Nat → Option (Nat × ν)
 | [], _ => none
 | e :: m, i => if k = e.1 then some (i, e.2) else Ch k m (i + 1)
def DW (k : κ) (m : List (κ × ν)) (z : ν) : ν := match Ch k m 0 with | some x => x.2 | none => z
def gJ (k : κ) (m : List (κ × ν)) : Bool := (Ch k m 0).isSome
def FH (k : κ) (v : ν) (m : List (κ × ν)) : List (κ × ν) := match Ch k m 0 with | some x => m.set x.1 (k, v) | none => m ++ [(k, v)]
def Rb (k : κ) (m : List (κ × ν)) : Nat := match Ch k m 0 with | some x => x.1 | none => m.length
theorem LG {k : κ} : ∀ {m : List (κ × ν)} {i : Nat} {x : Nat × ν}, Ch k m i = some x → i ≤ x.1 ∧ m[x.1 - i]? = some (k, x.2)
 | [], i, x, h => by simp [Ch] at h
 | e :: m, i, x, h => by
  unfold Ch at h
  split at h
  ·rename_i hk
   simp only [aa] at h
   subst h
   exact ⟨ak _, by simp [hk]⟩
  ·obtain ⟨h1, h2⟩ := LG h
   refine ⟨by omega, ?_⟩
   rw [show x.1 - i = (x.1 - (i + 1)) + 1 by omega]
   exact h2
def ID (k : κ) (z : ν) (m : List (κ × ν)) : List (κ × ν) := match Ch k m 0 with | some x => m.set x.1 (k, x.2) | none => m ++ [(k, z)]
theorem VS (k : κ) (z : ν) (m : List (κ × ν)) : ∃ v, (ID k z m)[Rb k m]? = some (k, v) := by
 unfold ID Rb
 cases hx : Ch k m 0 with
 | none => exact ⟨z, by simp⟩
 | some q =>
  obtain ⟨_, h2⟩ := LG hx
  have := (al.1 h2).1
  exact ⟨q.2, by simp only []; rw [jj, if_pos rfl, if_pos (by simpa using this)]⟩
theorem VT (k : κ) (z v : ν) (m : List (κ × ν)) : (ID k z m).set (Rb k m) (k, v) = FH k v m := by
 unfold ID Rb FH
 cases hx : Ch k m 0 with
 | none => simp
 | some q => simp
end
section
variable {κ ν : Type} [GI κ] [GI ν]
def As (m : List (κ × ν)) : List (V × V) := m.map fun e => (GI.pv e.1, GI.pv e.2)
theorem Si (m : List (κ × ν)) : (As m).length = m.length := by simp [As]
theorem QK (m : List (κ × ν)) (i : Nat) (k : κ) (v : ν) : (As m).set i (GI.pv k, GI.pv v) = As (m.set i (k, v)) := by
 unfold As
 rw [List.map_set]
theorem RS (m : List (κ × ν)) (k : κ) (v : ν) : As m ++ [(GI.pv k, GI.pv v)] = As (m ++ [(k, v)]) := by simp [As]
end
section maps
variable {κ ν : Type} [GI κ] [GI ν] [DecidableEq κ]
theorem Gx {kt : KT} (hf : Jg kt κ) (k : κ) : ∀ (m : List (κ × ν)) (i : Nat), EN kt (GI.pv k) (As m) i = some ((Ch k m i).map fun x => (x.1, GI.pv x.2))
 | [], i => rfl
 | e :: m, i => by
  show (Dc kt (GI.pv k) (GI.pv e.1)).bind _ = _
  rw [hf k e.1, ab]
  unfold Ch
  by_cases h : k = e.1
  ·simp only [h, decide_true, if_true, ai]
  ·simp only [h, decide_false, ba, if_false]
   exact Gx hf k m (i + 1)
section steps
variable {P : bg} {h : BI} {fk n base : Nat} {lk : Lk} {c : Cx} {ops : Array bq} {s kk : Bool} {d : Nat} {ty : ao} {pos : String} {aft : Array Edge} {l : List (Bool × Bool × bq)} {Q : St → Prop} {T : Nat → V} {G G' H : A4} {rs : List Bf} {op : Op}
theorem jZ {t : ao} (κ ν : Type) [GI κ] [GI ν] (hO : A8 H G rs) (k : ∀ b G', A8 H G' (.B6 b (.mp (As ([] : List (κ × ν)))) :: rs) → BW (B0 P h fk n base lk) ops l ⟨D4 T d (.D3 b), G'⟩ Q) (hd : cg d n = true := by rfl) :
  BW (B0 P h fk n base lk) ops ((s, kk, ⟨some d, .makeMap t none, ty, pos, aft, none⟩) :: l) ⟨T, G⟩ Q :=
 pV (G' := G ++ [.mp []]) rfl hd (k _ _ (hO.alloc (.mp [])))
theorem Yv {t e : ao} {kt : KT} {b : Nat} {m : List (κ × ν)} {k : κ} {z : ν} {ok : Bool} (hg : G[b]? = some (.mp (As m))) (hm : LF P t = some (kt, e)) (hf : Jg kt κ) (hz : Je P e = some (GI.pv z)) :
  IT P t G (.D3 b) (GI.pv k) ok = some (if ok then .EZ [GI.pv (DW k m z), .bool (gJ k m)] else GI.pv (DW k m z)) := by
 unfold IT
 simp only [hg, hm, ab]
 rw [if_pos ⟨GI.plain k, by rw [hf k k]; simp⟩, Gx hf k m 0]
 unfold DW gJ
 cases hx : Ch k m 0 with
 | none => simp only [gg, ab, hz, ai]; rfl
 | some x => simp only [ai, ab]; rfl
theorem gS {t e : ao} {kt : KT} {x y : aw} {b : Nat} {m : List (κ × ν)} (k : κ) (z : ν) (hg : G[b]? = some (.mp (As m))) (hm : LF P t = some (kt, e)) (hf : Jg kt κ) (hz : Je P e = some (GI.pv z)) (kk' : BW (B0 P h fk n base lk) ops l ⟨D4 T d (GI.pv (DW k m z)), G⟩ Q) (h1 : ev T x = some (.D3 b) := by rfl) (h2 : ev T y = some (GI.pv k) := by rfl) (hd : cg d n = true := by rfl) :
  BW (B0 P h fk n base lk) ops ((s, kk, ⟨some d, .lookup t x y false, ty, pos, aft, none⟩) :: l) ⟨T, G⟩ Q := by
 refine pV ?_ hd kk'
 show ((ev T x).bind fun m => (ev T y).bind fun kv => (IT P t G m kv false).map fun v => (v, G)) = _
 rw [h1, h2]
 simp only [ab, Yv hg hm hf hz]
 rfl
theorem QX {b : Nat} (hb : H.length ≤ b) : ((B0 P h fk n H.length lk).BQ s kk).BX b = true := by
 unfold Cx.BX
 simp only [de, decide_eq_true_eq]
 exact .inl hb
theorem kZ {t e : ao} {kt : KT} {x y w : aw} {b : Nat} {m : List (κ × ν)} (hO : A8 H G rs) (j : Nat) (k : κ) (v : ν) (hm : LF P t = some (kt, e)) (hf : Jg kt κ) (hb : base = H.length)
  (kk' : ∀ G', A8 H G' (rs.set j (.B6 b (.mp (As (FH k v m))))) → BW (B0 P h fk n base lk) ops l ⟨T, G'⟩ Q)
  (h1 : ev T x = some (.D3 b) := by rfl) (h2 : ev T y = some (GI.pv k) := by rfl) (h3 : ev T w = some (GI.pv v) := by rfl) (hj : rs[j]? = some (.B6 b (.mp (As m))) := by rfl) :
  BW (B0 P h fk n base lk) ops ((s, kk, ⟨none, .mapUpdate t x y w, ty, pos, aft, none⟩) :: l) ⟨T, G⟩ Q := by
 subst hb
 obtain ⟨hg, hbb⟩ := hO.get hj
 have hlt : b < G.length := (al.1 hg).1
 refine bT (v := C7) ?_ (kk' _ (hO.set (x := .mp (As (FH k v m))) hj rfl rfl ⟨hbb, by rw [Ab, if_pos ⟨rfl, hlt⟩]⟩))
 show ((ev T x).bind fun m => (ev T y).bind fun kv => (ev T w).bind fun u => (TQ ((B0 P h fk n H.length lk).BQ s kk) t G m kv u).map fun H => (C7, H)) = _
 rw [h1, h2, h3]
 have hmK : LF ((B0 P h fk n H.length lk).BQ s kk).P t = some (kt, e) := hm
 simp only [ab, TQ, hg, hmK]
 rw [if_pos ⟨GI.plain k, GI.plain v, by rw [hf k k]; simp, QX hbb⟩, Gx hf k m 0]
 unfold FH
 cases hx : Ch k m 0 with
 | none => simp only [gg, ai, RS]
 | some q => simp only [ai, QK]
theorem lH {t e : ao} {kt : KT} {x y : aw} {b : Nat} {m : List (κ × ν)} (hO : A8 H G rs) (j : Nat) (k : κ) (z : ν) (hm : LF P t = some (kt, e)) (hf : Jg kt κ) (hz : Je P e = some (GI.pv z)) (hb : base = H.length)
  (kk' : ∀ G', A8 H G' (rs.set j (.B6 b (.mp (As (ID k z m))))) → BW (B0 P h fk n base lk) ops l ⟨D4 T d (.EZ [GI.pv (DW k m z), .int .i64 (Rb k m)]), G'⟩ Q)
  (h1 : ev T x = some (.D3 b) := by rfl) (h2 : ev T y = some (GI.pv k) := by rfl) (hj : rs[j]? = some (.B6 b (.mp (As m))) := by rfl) (hd : cg d n = true := by rfl) :
  BW (B0 P h fk n base lk) ops ((s, kk, ⟨some d, .mapEntry t x y, ty, pos, aft, none⟩) :: l) ⟨T, G⟩ Q := by
 subst hb
 obtain ⟨hg, hbb⟩ := hO.get hj
 have hlt : b < G.length := (al.1 hg).1
 refine pV ?_ hd (kk' _ (hO.set (x := .mp (As (ID k z m))) hj rfl rfl ⟨hbb, by rw [Ab, if_pos ⟨rfl, hlt⟩]⟩))
 show ((ev T x).bind fun m => (ev T y).bind fun kv => HO ((B0 P h fk n H.length lk).BQ s kk) t G m kv) = _
 rw [h1, h2]
 have hmK : LF ((B0 P h fk n H.length lk).BQ s kk).P t = some (kt, e) := hm
 have hzK : Je ((B0 P h fk n H.length lk).BQ s kk).P e = some (GI.pv z) := hz
 simp only [ab, HO, hg, hmK]
 rw [if_pos ⟨GI.plain k, by rw [hf k k]; simp, QX hbb⟩, Gx hf k m 0]
 unfold ID DW Rb
 cases hx : Ch k m 0 with
 | none => simp only [gg, ab, hzK, GI.plain z, if_true, RS, Si]
 | some q => simp only [ai, ab, QK]
theorem lI {t : ao} {x y w : aw} {b : Nat} {m : List (κ × ν)} (hO : A8 H G rs) (j : Nat) (k : κ) (z v : ν) (hb : base = H.length)
  (kk' : ∀ G', A8 H G' (rs.set j (.B6 b (.mp (As (FH k v m))))) → BW (B0 P h fk n base lk) ops l ⟨T, G'⟩ Q)
  (h1 : ev T x = some (.D3 b) := by rfl) (h2 : ev T y = some (.int .i64 (Rb k m)) := by rfl) (h3 : ev T w = some (GI.pv v) := by rfl) (hj : rs[j]? = some (.B6 b (.mp (As (ID k z m)))) := by rfl) :
  BW (B0 P h fk n base lk) ops ((s, kk, ⟨none, .entryStore t x y w, ty, pos, aft, none⟩) :: l) ⟨T, G⟩ Q := by
 subst hb
 obtain ⟨hg, hbb⟩ := hO.get hj
 have hlt : b < G.length := (al.1 hg).1
 refine bT (v := C7) ?_ (kk' _ (hO.set (x := .mp (As (FH k v m))) hj rfl rfl ⟨hbb, by rw [Ab, if_pos ⟨rfl, hlt⟩]⟩))
 show ((ev T x).bind fun m => (ev T y).bind fun st => (ev T w).bind fun u => (Jk ((B0 P h fk n H.length lk).BQ s kk) G m st u).map fun H => (C7, H)) = _
 rw [h1, h2, h3]
 simp only [ab, Jk, hg]
 rw [if_pos ⟨by omega, GI.plain v, QX hbb⟩]
 obtain ⟨v0, hv0⟩ := VS k z m
 have hk : (As (ID k z m))[(Rb k m : Int).toNat]? = some (GI.pv k, GI.pv v0) := by
  unfold As
  rw [fm, dj, hv0]
  rfl
 rw [hk]
 simp only [ai, fm, QK, VT]
end steps
end maps
theorem A8.kill {H G : A4} {rs : List Bf} (h : A8 H G rs) {k b : Nat} {r : Bf} (hk : rs[k]? = some r) (hn : r.DC = [b]) (hw : r.U1 = true := by rfl) : A8 H (G.set b .dead) (rs.eraseIdx k) where
 pre := fun x hx => by
  rw [Ab, if_neg]
  ·exact h.pre x hx
  ·rintro ⟨rfl, _⟩
   have := Bf.KY (h.ok r (bh hk)) hw (x := b) (by rw [hn]; simp)
   omega
 len := by rw [cp]; exact h.len
 ok := fun r2 hr2 => by
  obtain ⟨j, hj, e⟩ := dh.1 hr2
  rw [jo] at e
  obtain ⟨hk1, hk2⟩ := al.1 hk
  have hp := cr.1 h.apart
  split at e
  ·rename_i hjk
   subst e
   have hj' : j < rs.length := by rw [js] at hj; split at hj <;> omega
   refine Bf.FA (h.ok _ (dc hj')) fun y hy => ?_
   rw [Ab, if_neg]
   rintro ⟨rfl, _⟩
   exact hp j k hj' hk1 hjk b hy (by rw [hk2, hn]; simp)
  ·rename_i hjk
   subst e
   have hj' : j + 1 < rs.length := by rw [js] at hj; split at hj <;> omega
   refine Bf.FA (h.ok _ (dc hj')) fun y hy => ?_
   rw [Ab, if_neg]
   rintro ⟨rfl, _⟩
   exact hp k (j + 1) hk1 hj' (by omega) b (by rw [hk2, hn]; simp) hy
 apart := h.apart.sublist (fw _ _)
def XX (n : Nat) (H : A4) (d : Nat) (rs : List Bf) (v v' : V) (rs' : List Bf) : Prop := ∀ G, A8 H G rs → ∀ k, ∃ G2, Au false H.length d (k + n) (G, []) v = some (v', (G2, [])) ∧ A8 H G2 rs'
def dK (n : Nat) (H : A4) (d : Nat) (rs : List Bf) (vs vs' : List V) (rs' : List Bf) : Prop := ∀ G, A8 H G rs → ∀ k, ∃ G2, Au.resL (Au false H.length d (k + n)) (G, []) vs = some (vs', (G2, [])) ∧ A8 H G2 rs'
section
variable {H : A4} {d : Nat} {rs rs1 rs' : List Bf} {n : Nat}
theorem gA {v v' : V} {m : Nat} (hm : n ≤ m) (h : XX n H d rs v v' rs') : XX m H d rs v v' rs' := fun G hO k => by
 have := h G hO (k + (m - n))
 rwa [show k + (m - n) + n = k + m by omega] at this
theorem AD (kd : fc) (x : Int) : XX 1 H d rs (.int kd x) (.int kd x) rs := fun G hO k => ⟨G, rfl, hO⟩
theorem bH (x : ByteArray) : XX 1 H d rs (.str x) (.str x) rs := fun G hO k => ⟨G, rfl, hO⟩
theorem NW {k : Nat} (α : Type) [AG α] : XX 1 H d rs (.tl 0 []) (.lit 0 ([] : List α).length ((A9 0) ([] : List α))) rs := fun G hO k => ⟨G, by rw [Au, if_pos rfl]; rfl, hO⟩
theorem G8 {α : Type} [AG α] {xs : List α} {v : V} {dd sz : Nat} (hd : 0 < d) (j : Nat) (hj : rs[j]? = some (.own v dd sz xs.length ((A9 0) xs)) := by rfl) (hdd : dd = d := by rfl) : XX 2 H d rs v (.lit 0 xs.length ((A9 0) xs)) (rs.eraseIdx j) := fun G hO k => by
 subst hdd
 have hcl := fun X => Gi (th := false) (lo := H.length) (d := dd) (k := k) (X := X) ((A9 0) xs) (FW hd fa _ (DA xs)) (D1 xs)
 rcases (hO.own hj).2 with rfl | ⟨b, rfl, hbb, hgb⟩
 ·refine ⟨G, ?_, hO.drop (fw _ _)⟩
  rw [Au]
  split
  ·rename_i h0
   have : xs = [] := bx h0
   subst this
   rfl
  ·rw [hcl]; rfl
 ·refine ⟨G.set b .dead, ?_, hO.kill hj rfl⟩
  rw [Au]
  simp only [hgb]
  rw [if_neg (by omega), hcl]
  rfl
theorem C8 : dK n H d rs [] [] rs := fun G hO k => ⟨G, rfl, hO⟩
theorem Ac {v v' : V} {vs vs' : List V} {m : Nat} (h1 : XX m H d rs v v' rs1) (h2 : dK n H d rs1 vs vs' rs') (hm : fj m n = true := by rfl) : dK n H d rs (v :: vs) (v' :: vs') rs' := fun G hO k => by
 obtain ⟨G1, e1, hO1⟩ := gA (bp hm) h1 G hO k
 obtain ⟨G2, e2, hO2⟩ := h2 G1 hO1 k
 exact ⟨G2, by simp only [Au.resL, e1, ab, e2, ai], hO2⟩
theorem BU {cs cs' : List V} (h : dK n H d rs cs cs' rs') : XX (n + 1) H d rs (.agg cs) (.agg cs') rs' := fun G hO k => by
 obtain ⟨G2, e, hO2⟩ := h G hO k
 exact ⟨G2, by rw [← gk, Au, e]; rfl, hO2⟩
theorem DZ {cs cs' : List V} (h : dK n H d rs cs cs' rs') : XX (n + 1) H d rs (.EZ cs) (.EZ cs') rs' := fun G hO k => by
 obtain ⟨G2, e, hO2⟩ := h G hO k
 exact ⟨G2, by rw [← gk, Au, e]; rfl, hO2⟩
theorem CP {P : bg} {h : BI} {k : Nat} {lr : List dv} {T : Nat → V} {G : A4} {vs : List V} {v v' : V} {x : X} (hO : A8 H G rs) (hz : XX n H d rs v v' rs') (h1 : Av P G T lr = some vs) (h2 : Et vs = v := by rfl) (hn : fj n CA = true := by rfl) (hg : h.grow k = false := by rfl) (ht : h.Qj k = false := by rfl) (hx : x = .normal ∨ x = .ret := by first | exact Or.inl rfl | exact Or.inr rfl) : iR P h k H.length d lr (v', H) x ⟨T, G⟩ := by
 obtain ⟨G2, e, hO2⟩ := hz G hO (CA - n)
 rw [lz (bp hn)] at e
 exact kW hO hg hx h1 h2 (by rw [ht]; exact e) hO2.out
theorem Cp {P : bg} {T : Nat → V} {G : A4} {a : Nat} {lr : List dv} {vs : List V} (v : V) (h : Av P G T lr = some vs) (h1 : T a = v := by rfl) : Av P G T (.tmp a :: lr) = some (v :: vs) := by
 simp only [Av, h, ai, h1]
theorem Bh {P : bg} {T : Nat → V} {G : A4} : Av P G T [] = some [] := rfl
theorem Cb {P : bg} {T : Nat → V} {G : A4} {t b off sz m a : Nat} {cs : List V} {lr : List dv} {vs : List V} (hO : A8 H G rs) (j : Nat) (cs' : List V) (ha : D6 P t = some true) (hz : Aw P t = some m) (h : Av P G T lr = some vs) (h1 : T a = .ptr b off := by rfl) (hj : rs[j]? = some (.B6 b (.cells sz cs)) := by rfl) (h2 : fj (off + m) cs.length = true := by rfl) (h3 : (cs.drop off).take m = cs' := by rfl) : Av P G T (.cell a t :: lr) = some (.agg cs' :: vs) := by
 subst h3
 simp only [Av, h1, Ep, (hO.get hj).1, BH, ha, hz, ab, if_pos (bp h2), ai, h]
end
section
variable {c : Cx} {H G : A4} {rs : List Bf} {lv k : Nat} {v v' : V} {vs vs' : List V} {M1 M2 : List Nat}
theorem Eg : Ah c [] G [] = some ([], [], G) := rfl
theorem BB (h1 : AY (c.d + 1) G CA v = some (v', M1)) (h2 : Ah c [] G vs = some (vs', M2, G)) : Ah c [] G (v :: vs) = some (v' :: vs', M1 ++ M2, G) := by
 simp only [Ah, List.headD_nil, Fo, h1, ai, ab, List.tail_nil, h2]
theorem QO : AY.lendL (AY lv G k) [] = some ([], []) := rfl
theorem Cg (h1 : AY lv G k v = some (v', M1)) (h2 : AY.lendL (AY lv G k) vs = some (vs', M2)) : AY.lendL (AY lv G k) (v :: vs) = some (v' :: vs', M1 ++ M2) := by
 simp only [AY.lendL, h1, h2, ab, ai]
theorem QL (h : AY.lendL (AY lv G k) vs = some (vs', M1)) : AY lv G (k + 1) (.agg vs) = some (.agg vs', M1) := by
 rw [AY, h]; rfl
theorem WZ {α : Type} [AG α] {xs : List α} {dd sz : Nat} (hO : A8 H G rs) (j : Nat) (lv : Nat) (hj : rs[j]? = some (.own v dd sz xs.length ((A9 0) xs)) := by rfl) : ∃ l, ∀ k, AY lv G (k + 2) v = some (.lit l xs.length ((A9 0) xs), []) := by
 rcases (hO.own hj).2 with rfl | ⟨b, rfl, _, _⟩
 ·exact ⟨lv, fun k => by rw [AY, En _ (DA xs) (D1 xs)]; rfl⟩
 ·exact ⟨lv, fun k => by rw [AY, En _ (DA xs) (D1 xs)]; rfl⟩
end
def G6 (s : ByteArray) (i : Int) : Option Int := if 0 ≤ i then (s[i.toNat]?).map fun b => (b.toNat : Int) else none
def TH {α : Type} (xs : List α) (lo hi : Int) : Option (List α) := if 0 ≤ lo ∧ lo ≤ hi ∧ hi ≤ xs.length then some ((xs.drop lo.toNat).take (hi - lo).toNat) else none
theorem ZA {α : Type} {xs ys : List α} {a b : Int} (h : TH xs a b = some ys) : 0 ≤ a ∧ a ≤ b ∧ b ≤ xs.length := by
 unfold TH at h
 split at h
 ·assumption
 ·cases h
theorem WL {lm : Nat} {α : Type} [AG α] (xs : List α) : ∀ (l m : Nat), ((A9 lm xs).drop (l * AG.sz α)).take (m * AG.sz α) = A9 lm ((xs.drop l).take m) := by
 have hdrop : ∀ (xs : List α) (l : Nat), (A9 lm xs).drop (l * AG.sz α) = A9 lm (xs.drop l) := by
  intro xs
  induction xs with
  | nil => intro l; simp [A9]
  | cons x xs ih =>
   intro l
   cases l with
   | zero => simp
   | succ l =>
    rw [CQ, gp, ij, List.drop_succ_cons, ← ih l]
    have := AG.len (l := lm) x
    rw [← this, kh]
 have htake : ∀ (xs : List α) (m : Nat), (A9 lm xs).take (m * AG.sz α) = A9 lm (xs.take m) := by
  intro xs
  induction xs with
  | nil => intro m; simp [A9]
  | cons x xs ih =>
   intro m
   cases m with
   | zero => simp [A9]
   | succ m =>
    rw [CQ, gp, ij, List.take_succ_cons, CQ, ← ih m]
    have := AG.len (l := lm) x
    rw [← this, kg]
 intro l m
 rw [hdrop, htake]
section steps
variable {P : bg} {h : BI} {fk n base : Nat} {lk : Lk} {c : Cx} {ops : Array bq} {s kk : Bool} {d : Nat} {ty : ao} {pos : String} {aft : Array Edge} {l : List (Bool × Bool × bq)} {Q : St → Prop} {T : Nat → V} {G G' H : A4} {rs : List Bf} {op : Op}
variable {α : Type} [AG α]
theorem MA {x : aw} {i : Nat} {vs : List V} (v : V) (k : BW (B0 P h fk n base lk) ops l ⟨D4 T d v, G⟩ Q) (h1 : ev T x = some (.EZ vs) := by rfl) (h2 : vs[i]? = some v := by rfl) (hd : cg d n = true := by rfl) :
  BW (B0 P h fk n base lk) ops ((s, kk, ⟨some d, .extract x i, ty, pos, aft, none⟩) :: l) ⟨T, G⟩ Q := by
 refine pV ?_ hd k
 rw [Rf]
 simp only [h1, ab, XN, h2, ai]
theorem kY {t : ao} {x y : aw} {sv : ByteArray} {kd : fc} {i c : Int} (ht : P.underlying t = some .string) (hc : G6 sv i = some c) (k : BW (B0 P h fk n base lk) ops l ⟨D4 T d (.int .u8 c), G⟩ Q) (h1 : ev T x = some (.str sv) := by rfl) (h2 : ev T y = some (.int kd i) := by rfl) (hd : cg d n = true := by rfl) :
  BW (B0 P h fk n base lk) ops ((s, kk, ⟨some d, .index t x y, ty, pos, aft, none⟩) :: l) ⟨T, G⟩ Q := by
 refine pV ?_ hd k
 unfold HX C5
 have ht' : ((B0 P h fk n base lk).BQ s kk).P.underlying t = some .string := ht
 simp only [ht', h1, h2]
 unfold G6 at hc
 split at hc
 ·rename_i h0
  rw [if_pos h0]
  simp only [af] at hc
  obtain ⟨b, hb, rfl⟩ := hc
  rw [hb]
  rfl
 ·cases hc
theorem Qn {k : Sc} {ks : List Sc} {x y : V} {xs ys : List V} {b1 b2 : Bool} (h1 : Ee k x y = some b1) (h2 : CV ks xs ys = some b2) : CV (k :: ks) (x :: xs) (y :: ys) = some (b1 && b2) := by
 simp only [CV, h1, ab, h2]
 cases b1 <;> rfl
theorem Qo (kd : fc) (a b : Int) : Ee .i (.int kd a) (.int kd b) = some (a == b) := if_pos rfl
theorem dE {t t2 : ao} {x y : aw} {xs ys : List V} {ks : List Sc} {b : Bool} (hf : IQ P t = some ks) (he : CV ks xs ys = some b) (k : BW (B0 P h fk n base lk) ops l ⟨D4 T d (.bool b), G⟩ Q) (h1 : ev T x = some (.agg xs) := by rfl) (h2 : ev T y = some (.agg ys) := by rfl) (hd : cg d n = true := by rfl) :
  BW (B0 P h fk n base lk) ops ((s, kk, ⟨some d, .binOp .eql t x y t2, ty, pos, aft, none⟩) :: l) ⟨T, G⟩ Q := pB k h1 h2 (by simp only [Qw, hf, ab, he, ai]) hd
theorem gQ {t t2 : ao} {x y : aw} {xs ys : List V} {ks : List Sc} {b : Bool} (hf : IQ P t = some ks) (he : CV ks xs ys = some b) (k : BW (B0 P h fk n base lk) ops l ⟨D4 T d (.bool !b), G⟩ Q) (h1 : ev T x = some (.agg xs) := by rfl) (h2 : ev T y = some (.agg ys) := by rfl) (hd : cg d n = true := by rfl) :
  BW (B0 P h fk n base lk) ops ((s, kk, ⟨some d, .binOp .neq t x y t2, ty, pos, aft, none⟩) :: l) ⟨T, G⟩ Q := pB k h1 h2 (by simp only [Qw, hf, ab, he, ai]) hd
theorem gT {x y : aw} {ats : Array ao} {k1 k2 : fc} {a b : Int} (k : BW (B0 P h fk n base lk) ops l ⟨D4 T d (.int k1 (if b < a then b else a)), G⟩ Q) (h1 : ev T x = some (.int k1 a) := by rfl) (h2 : ev T y = some (.int k2 b) := by rfl) (hd : cg d n = true := by rfl) :
  BW (B0 P h fk n base lk) ops ((s, kk, ⟨some d, .call ⟨.builtin .min, #[x, y], ats⟩, ty, pos, aft, none⟩) :: l) ⟨T, G⟩ Q := by
 refine pV ?_ hd k
 unfold HX C5
 simp only [h1, h2, ai]
theorem jX {x y : aw} {ats : Array ao} {k1 k2 : fc} {a b : Int} (k : BW (B0 P h fk n base lk) ops l ⟨D4 T d (.int k1 (if b > a then b else a)), G⟩ Q) (h1 : ev T x = some (.int k1 a) := by rfl) (h2 : ev T y = some (.int k2 b) := by rfl) (hd : cg d n = true := by rfl) :
  BW (B0 P h fk n base lk) ops ((s, kk, ⟨some d, .call ⟨.builtin .max, #[x, y], ats⟩, ty, pos, aft, none⟩) :: l) ⟨T, G⟩ Q := by
 refine pV ?_ hd k
 unfold HX C5
 simp only [h1, h2, ai]
end steps
def iQ (a b : Int) : Int := IntKind.wrap .i64 (BitVec.ofInt 64 a ^^^ BitVec.ofInt 64 b).toNat
section
variable {P : bg} {h : BI} {fk n base : Nat} {lk : Lk} {c : Cx} {ops : Array bq} {s kk : Bool} {d : Nat} {ty : ao} {pos : String} {aft : Array Edge} {l : List (Bool × Bool × bq)} {Q : St → Prop} {T : Nat → V} {G G' H : A4} {rs : List Bf} {op : Op} {α : Type} [AG α]
theorem lL {xs : List α} {i : Int} {x : α} {t e : ao} {y z : aw} {kd : fc} (hc : Aa xs i = some x) (he : B4 P t = some e) (hz : Aw P e = some (AG.sz α)) (k : BW (B0 P h fk n base lk) ops l ⟨D4 T d (.lp 0 ((A9 0) xs) (i.toNat * AG.sz α)), G⟩ Q)
  (h1 : ev T y = some (.tl xs.length ((A9 0) xs)) := by rfl) (h2 : ev T z = some (.int kd i) := by rfl) (hd : cg d n = true := by rfl) :
  BW (B0 P h fk n base lk) ops ((s, kk, ⟨some d, .indexAddr t y z, ty, pos, aft, none⟩) :: l) ⟨T, G⟩ Q := by
 refine pV ?_ hd k
 rw [ER]
 show (B4 P t).bind _ = _
 rw [he, ab]
 show (Aw P e).bind _ = _
 simp only [hz, h1, h2, ab, asInt, Sd, Cd]
 rw [if_pos (Fl hc)]
 rfl
end
def KL : Code → Option ao
 | .seq (.region _ r0 false) (.seq (.seq (.region _ r1 false) (.cond (.tmp 4) (.seq (.region _ r2 false) .ret) .skip)) (.seq (.region _ r3 false) .ret)) =>
  match r0.toList, r1.toList, r2.toList, r3.toList with
  | [a], [b1, b2], [c], [d1, d2, d3, d4] =>
   match a.dst, a.op, a.guard, b1.dst, b1.op, b1.guard, b2.dst, b2.op, b2.guard with
   | some 2, .assign (.const (.slice none 0 0)), none, some 3, .move (.tmp 0), none, some 4, .binOp .eql t (.tmp 3) (.const (.slice none 0 0)) _, none =>
    match c.dst, c.op, c.guard, d1.dst, d1.op, d1.guard, d2.dst, d2.op, d2.guard with
    | some 2, .assign (.const (.slice none 0 0)), none, some 5, .buildSlice t1 0 ps, none, some 6, .move (.tmp 0), none =>
     match d3.dst, d3.op, d3.guard, d4.dst, d4.op, d4.guard with
     | some 7, .call ⟨.builtin .append, as, ts⟩, none, some 2, .assign (.tmp 7), none =>
      match ps.toList, as.toList, ts.toList with
      | [], [.tmp 5, .tmp 6], [t2, t3] => if t1 = t ∧ t2 = t ∧ t3 = t then some t else none
      | _, _, _ => none
     | _, _, _, _, _, _ => none
    | _, _, _, _, _, _, _, _, _ => none
   | _, _, _, _, _, _, _, _, _ => none
  | _, _, _, _ => none
 | _ => none
theorem SA {α : Type} {a : Array α} {l : List α} (h : a.toList = l) : a = l.toArray := by rw [← h]
theorem KA {d : Nat} : ∀ (v : V), clean d v = true → Bk d v = true
 | .int .., _ => rfl
 | .bool _, _ => rfl
 | .str _, _ => rfl
 | .Gg, _ => rfl
 | .Dw, _ => rfl
 | .lit lv n cs, h => by
  simp only [clean, Bk, av] at h ⊢
  exact ⟨h.1, go cs h.2⟩
 | .agg cs, h => by
  simp only [clean, Bk] at h ⊢
  exact go cs h
 | .EZ cs, h => by
  simp only [clean, Bk] at h ⊢
  exact go cs h
 | .ptr .., h => by simp [clean] at h
 | .lp .., h => by simp [clean] at h
 | .tl .., h => by simp [clean] at h
 | .snap .., h => by simp [clean] at h
 | .sl .., h => by simp [clean] at h
 | .fn .., h => by simp [clean] at h
 | .D3 .., h => by simp [clean] at h
where go : ∀ (cs : List V), clean.cleanL d cs = true → Bk.cleanGL d cs = true
 | [], _ => rfl
 | c :: cs, h => by
  simp only [clean.cleanL, Bk.cleanGL, av] at h ⊢
  exact ⟨KA c h.1, go cs h.2⟩
theorem RC {α : Type} [AG α] {d : Nat} (hd : 0 < d) (xs : List α) : Bk.cleanGL d ((A9 0) xs) = true := KA.go _ (FW hd fa _ (DA xs))
theorem SJ (c : Cx) (n : Nat) (p q : Code) (S : St) : AZ c n (.seq (.seq p .ret) q) S = match AZ c n p S with
  | some (.normal, S') => some (.ret, S')
  | r => r := by
 simp only [AZ]
 cases AZ c n p S with
 | none => rfl
 | some r =>
  obtain ⟨x, S'⟩ := r
  cases x <;> rfl
section
variable {P : bg} {h : BI} {k : fh} {fn : Func} {body : Code} {α : Type} [AG α]
theorem SH {lm : Nat} (c : Cx) {t e : ao} {by_ n : Nat} (hcl : KL body = some t) (hnt : 7 < c.ntmps) (he : B4 c.P t = some e) (hz : Aw c.P e = some (AG.sz α)) (hby : CU c.P e = some by_) {z : List V} (hz0 : BG c.P e = some z) (hzl : z.length = AG.sz α) (xs : List α) (hsz : (0 + xs.length) * (by_ + 1) ≤ 70368744177664) {T : Nat → V} {G : A4} {l : Nat} (hT : T 0 = .lit l xs.length (A9 lm xs)) :
    Ik c n [.tmp 2] body ⟨T, G⟩ = if xs.length = 0 then some ([.tl 0 []], G) else some ([.snap G.length xs.length (A9 lm xs)], G ++ [.BT c.d xs.length (AG.sz α)]) := by
  unfold KL at hcl
  split at hcl
  case h_2 => cases hcl
  rename_i i0 r0 i1 r1 i2 r2 i3 r3
  split at hcl
  case h_2 => cases hcl
  rename_i a b1 b2 cc d1 d2 d3 d4 e0 e1 e2 e3
  split at hcl
  case h_2 => cases hcl
  rename_i t0 tt f1 f2 f3 f4 f5 f6 f7 f8 f9
  split at hcl
  case h_2 => cases hcl
  rename_i t1 ps g1 g2 g3 g4 g5 g6 g7 g8 g9
  split at hcl
  case h_2 => cases hcl
  rename_i as ts j1 j2 j3 j4 j5 j6
  split at hcl
  case h_2 => cases hcl
  rename_i t2 t3 m1 m2 m3
  split at hcl
  case isFalse => cases hcl
  rename_i hq
  obtain ⟨rfl, rfl, rfl⟩ := hq
  simp only [aa] at hcl
  subst hcl
  obtain rfl := SA e0
  obtain rfl := SA e1
  obtain rfl := SA e2
  obtain rfl := SA e3
  obtain rfl := SA m1
  obtain rfl := SA m2
  obtain rfl := SA m3
  have hns : ∀ (N : Kp), N = ⟨.region i0 [a].toArray false, i1, b1, b2, 3, 0, 4, t3, tt, .seq (.region i2 [cc].toArray false) .ret, .seq (.region i3 [d1, d2, d3, d4].toArray false) .ret⟩ → EO (.seq (.region i0 [a].toArray false) (.seq (.seq (.region i1 [b1, b2].toArray false) (.cond (.tmp 4) (.seq (.region i2 [cc].toArray false) .ret) .skip)) (.seq (.region i3 [d1, d2, d3, d4].toArray false) .ret))) = some N := by
    rintro N rfl
    simp only [EO, Sv, f4, f5, f6, f7, f8, f9, and_self, if_true]
  unfold Ik
  rw [hns _ rfl]
  have n2 : 2 < c.ntmps := by omega
  have n3 : 3 < c.ntmps := by omega
  have n4 : 4 < c.ntmps := by omega
  have n5 : 5 < c.ntmps := by omega
  have n6 : 6 < c.ntmps := by omega
  have hr : ∀ (T : Nat → V) (G : A4), AZ c n (.region i0 [a].toArray false) ⟨T, G⟩ = some (.normal, ⟨D4 T 2 (.tl 0 []), G⟩) := by
    intro T G
    have hl : da [a].toArray.size = [0] := rfl
    have hg : [a].toArray[0]? = some a := rfl
    simp only [AZ, ba, if_false, hl, DK, hg, BZ, CW, f3, ab, if_true, IV, f1, n2, C5, f2, ev, Dq, DR, ai, ab]
    rfl
  have hA : ∀ (T : Nat → V) (G : A4), AZ c n (.region i2 [cc].toArray false) ⟨T, G⟩ = some (.normal, ⟨D4 T 2 (.tl 0 []), G⟩) := by
    intro T G
    have hl : da [cc].toArray.size = [0] := rfl
    have hg : [cc].toArray[0]? = some cc := rfl
    simp only [AZ, ba, if_false, hl, DK, hg, BZ, CW, g3, ab, if_true, IV, g1, n2, C5, g2, ev, Dq, DR, ai, ab]
    rfl
  simp only [hr]
  have hT0 : (D4 T 2 (.tl 0 [])) 0 = .lit l xs.length (A9 lm xs) := by rw [MS, if_neg (by omega)]; exact hT
  rw [if_pos ⟨n3, n4, by decide, by rw [he]; rfl⟩, hT0]
  have hap : E6 c t3 t3 G (.tl 0 []) (.lit l xs.length (A9 lm xs)) = if xs.length = 0 then some (.tl 0 [], G) else some (.snap G.length xs.length (A9 lm xs), G ++ [.BT c.d xs.length (AG.sz α)]) := by
    unfold E6
    rw [he, ab, hz, ab, hby, ab, hz0, ab, if_pos ⟨rfl, eu.1 AG.pos, hzl⟩]
    simp only [Cd, Fu, ab]
    rw [if_pos ⟨CB xs, D1 xs⟩]
    by_cases h0 : xs.length = 0
    · rw [if_pos h0, if_pos h0]
    · rw [if_neg h0, if_neg h0, if_pos ⟨by simp, hsz⟩]; simp only [fy, ff]
  have hB : ∀ (T : Nat → V), T 0 = .lit l xs.length (A9 lm xs) → Jo c.P [.tmp 2] (AZ c n (.seq (.region i3 [d1, d2, d3, d4].toArray false) .ret) ⟨T, G⟩) = if xs.length = 0 then some ([.tl 0 []], G) else some ([.snap G.length xs.length (A9 lm xs)], G ++ [.BT c.d xs.length (AG.sz α)]) := by
    intro T hT
    have hl : da [d1, d2, d3, d4].toArray.size = [0, 1, 2, 3] := rfl
    have q0 : [d1, d2, d3, d4].toArray[0]? = some d1 := rfl
    have q1 : [d1, d2, d3, d4].toArray[1]? = some d2 := rfl
    have q2 : [d1, d2, d3, d4].toArray[2]? = some d3 := rfl
    have q3 : [d1, d2, d3, d4].toArray[3]? = some d4 := rfl
    have o1 : C5 c d1 ⟨T, G⟩ = some (.tl 0 [], G) := by
      unfold C5
      simp only [g5, Qp, ab, CH, he, hz, hz0]
      rw [if_pos ⟨hzl, eu.1 AG.pos, by omega⟩]
      have hown : c.own 0 = false := rfl
      simp only [List.replicate_zero, List.flatten_nil, DS, ai, hown, ba, if_false]
    have o3 : C5 c d3 ⟨D4 (D4 T 5 (.tl 0 [])) 6 (.lit l xs.length (A9 lm xs)), G⟩ = if xs.length = 0 then some (.tl 0 [], G) else some (.snap G.length xs.length (A9 lm xs), G ++ [.BT c.d xs.length (AG.sz α)]) := by
      unfold C5
      simp only [j2, ev, ab]
      rw [show (D4 (D4 T 5 (.tl 0 [])) 6 (.lit l xs.length (A9 lm xs))) 5 = .tl 0 [] from by simp [D4], show (D4 (D4 T 5 (.tl 0 [])) 6 (.lit l xs.length (A9 lm xs))) 6 = .lit l xs.length (A9 lm xs) from by simp [D4]]
      exact hap
    simp only [AZ, ba, if_false, hl, DK, q0, BZ, CW, g6, ab, if_true, IV, g4, n5]
    rw [o1]
    simp only [ai, ab, q1, g9, if_true, g7, n6]
    have hS1 : (({ ({ T := T, H := G } : St) with H := G } : St).set 5 (.tl 0 [])) = ⟨D4 T 5 (.tl 0 []), G⟩ := rfl
    rw [hS1]
    have o2 : C5 c d2 ⟨D4 T 5 (.tl 0 []), G⟩ = some (.lit l xs.length (A9 lm xs), G) := by
      unfold C5
      simp only [g8, ev, ai]
      rw [show (D4 T 5 (.tl 0 [])) 0 = .lit l xs.length (A9 lm xs) from by rw [MS, if_neg (by omega)]; exact hT]
    rw [o2]
    simp only [ai, ab, q2, j3, if_true, j1, hnt]
    have hS2 : (({ ({ T := D4 T 5 (.tl 0 []), H := G } : St) with H := G } : St).set 6 (.lit l xs.length (A9 lm xs))) = ⟨D4 (D4 T 5 (.tl 0 [])) 6 (.lit l xs.length (A9 lm xs)), G⟩ := rfl
    rw [hS2, o3]
    by_cases h0 : xs.length = 0
    · rw [if_pos h0, if_pos h0]
      simp only [ai, ab, q3, j6, if_true, j4, n2, C5, j5, ev, ai, ab]
      simp [Jo, Av, St.set]
    · rw [if_neg h0, if_neg h0]
      simp only [ai, ab, q3, j6, if_true, j4, n2, C5, j5, ev, ai, ab]
      simp [Jo, Av, St.set]
  have hBw : MC c n [.tmp 2] ⟨.region i0 [a].toArray false, i1, b1, b2, 3, 0, 4, t3, tt, .seq (.region i2 [cc].toArray false) .ret, .seq (.region i3 [d1, d2, d3, d4].toArray false) .ret⟩ ⟨D4 T 2 (.tl 0 []), G⟩ false = if xs.length = 0 then some ([.tl 0 []], G) else some ([.snap G.length xs.length (A9 lm xs)], G ++ [.BT c.d xs.length (AG.sz α)]) := by
    unfold MC
    simp only [ba, if_false]
    refine hB (D4 (D4 (D4 T 2 (.tl 0 [])) 3 _) 4 _) ?_
    rw [MS, if_neg (by omega), MS, if_neg (by omega)]
    exact hT0
  by_cases h0 : xs.length = 0
  · rw [if_pos h0] at hBw ⊢
    have hAw : MC c n [.tmp 2] ⟨.region i0 [a].toArray false, i1, b1, b2, 3, 0, 4, t3, tt, .seq (.region i2 [cc].toArray false) .ret, .seq (.region i3 [d1, d2, d3, d4].toArray false) .ret⟩ ⟨D4 T 2 (.tl 0 []), G⟩ true = some ([.tl 0 []], G) := by
      unfold MC
      simp only [if_true]
      show Jo c.P _ (AZ c n (.seq (.seq (.region i2 [cc].toArray false) .ret) _) ⟨D4 (D4 (D4 T 2 (.tl 0 [])) 3 _) 4 _, G⟩) = _
      simp only [SJ, hA]
      simp [Jo, Av, D4]
    rw [show Cd (.lit l xs.length (A9 lm xs)) = some 0 from by rw [h0]; rfl]
    simp only []
    rw [if_pos (hAw.trans hBw.symm)]
    exact hBw
  · rw [if_neg h0] at hBw ⊢
    obtain ⟨m, hm⟩ : ∃ m, xs.length = m + 1 := ⟨xs.length - 1, by omega⟩
    rw [show Cd (.lit l xs.length (A9 lm xs)) = some (m + 1) from by rw [← hm]; rfl]
    exact hBw
theorem Ub {t e : ao} {by_ : Nat} (hfn : P.funcs[k]? = some fn) (hb : fn.body = some body) (hcl : KL body = some t) (hnt : cg 7 fn.ntmps = true) (hres : fn.results = #[.tmp 2]) (hname : (fn.name == "runtime.NumGoroutine") = false) (hg : h.grow k = true)
    (he : B4 P t = some e) (hz : Aw P e = some (AG.sz α)) (hby : CU P e = some by_) {z : List V} (hz0 : BG P e = some z) (hzl : z.length = AG.sz α) {xs zs : List α} (happ : JU by_ [] xs = some zs) (l : Nat) (G : A4) {lk : Lk} (hlk : 0 < lk.length) :
    Ai P h k [.lit l xs.length ((A9 0) xs)] G lk = if xs.length = 0 then some (.tl 0 [], G) else some (.snap G.length xs.length ((A9 0) xs), G ++ [.BT (lk.length - 1) xs.length (AG.sz α)]) := by
  have hnt := bp hnt
  unfold JU at happ
  split at happ
  case isFalse => cases happ
  rename_i hroom
  have hsz : (0 + xs.length) * (by_ + 1) ≤ 70368744177664 := by
    rcases hroom with h0 | h0
    · rw [h0]; simp
    · exact h0
  have hex := SH (n := 0) { P := P, hints := h, fn := k, ntmps := fn.ntmps, base := G.length, lk := lk, Γ := Db P h 0 } hcl (by show 7 < fn.ntmps; omega) he hz hby hz0 hzl xs hsz (T := JX [.lit l xs.length ((A9 0) xs)]) (G := G) (l := l) rfl
  have key : ∀ r, ((if xs.length = 0 then some (([.tl 0 []] : List V), G) else some ([.snap G.length xs.length ((A9 0) xs)], G ++ [.BT lk.length xs.length (AG.sz α)])).bind fun r => EE h k G.length lk.length (Et r.1) r.2) = some r → Ai P h k [.lit l xs.length ((A9 0) xs)] G lk = some r := by
    intro r hr
    refine UI (n := 1) ?_
    unfold Db
    simp only [hfn, hb]
    rw [if_pos ⟨by show 1 ≤ fn.ntmps; omega, hname⟩, hres]
    rw [hex]
    exact hr
  by_cases h0 : xs.length = 0
  · rw [if_pos h0] at key ⊢
    refine key _ ?_
    simp only [ab, Et, EE, hg, if_true]
    rw [mA, gf]
    simp [Bk, Bk.cleanGL]
  · rw [if_neg h0] at key ⊢
    refine key _ ?_
    simp only [ab, Et, EE, hg, if_true]
    rw [List.drop_left, List.take_left]
    have hc2 : Bk lk.length (V.snap G.length xs.length ((A9 0) xs)) = true := by simp only [Bk]; exact RC hlk xs
    simp only [hc2, fg, mU, ke, and_self, if_true, df, List.map_nil]
    show some (V.snap G.length xs.length ((A9 0) xs), G ++ [Bb.BT (min lk.length (lk.length - 1)) xs.length (AG.sz α)]) = _
    rw [Nat.min_eq_right (Nat.sub_le _ _)]
end
section
variable {P : bg} {h : BI} {fk n base : Nat} {lk : Lk} {c : Cx} {ops : Array bq} {s kk : Bool} {d : Nat} {ty : ao} {pos : String} {aft : Array Edge} {l : List (Bool × Bool × bq)} {Q : St → Prop} {T : Nat → V} {G G' H : A4} {rs : List Bf} {α : Type} [AG α]
theorem bS {f : aw} {args : Array aw} {ats : Array ao} {g : fh} {fn : Func} {t e : ao} {by_ lv : Nat} {w : V} {M : List Nat} {z : List V} {xs zs : List α} (hO : A8 H G rs) (happ : JU by_ [] xs = some zs)
  (hfn : P.funcs[g]? = some fn) (hcl : fn.body.bind KL = some t) (he : B4 P t = some e) (hz : Aw P e = some (AG.sz α)) (hby : CU P e = some by_) (hz0 : BG P e = some z)
  (k : ∀ v' G', Nz v' → A8 H G' (.own v' lk.length (AG.sz α) zs.length ((A9 0) zs) :: rs) → BW (B0 P h fk n base lk) ops l ⟨D4 T d v', G'⟩ Q)
  (h1 : ev T f = some (.fn g []) := by rfl) (h2 : Oq T args.toList = some [w] := by rfl)
  (h3 : Ah ((B0 P h fk n base lk).BQ s kk) (h.Es g) G [w] = some ([.lit lv xs.length ((A9 0) xs)], M, G) := by rfl) (hzl : z.length = AG.sz α := by rfl) (hnt : cg 7 fn.ntmps = true := by rfl) (hres : fn.results = #[.tmp 2] := by rfl) (hname : (fn.name == "runtime.NumGoroutine") = false := by rfl) (hg : h.grow g = true := by rfl) (hd : cg d n = true := by rfl) :
  BW (B0 P h fk n base lk) ops ((s, kk, ⟨some d, .call ⟨.value f, args, ats⟩, ty, pos, aft, none⟩) :: l) ⟨T, G⟩ Q := by
 obtain ⟨body, hb, hcl⟩ := ae.1 hcl
 have hzs : zs = xs := by
  unfold JU at happ
  split at happ
  ·simpa using happ.symm
  ·cases happ
 subst hzs
 have hr := fun L => Ub hfn hb hcl hnt hres hname hg he hz hby hz0 hzl happ lv G (lk := lk ++ [L]) (by simp)
 by_cases h0 : zs.length = 0
 ·have hx : zs = [] := bx h0
  subst hx
  exact AL (r := .tl 0 []) (G' := G) (fun L => by rw [hr L, if_pos h0]) (k _ _ Nz.nil (A8.FK hO lk.length ([] : List α))) h1 h2 h3 hd
 ·refine AL (r := .snap G.length zs.length ((A9 0) zs)) (G' := G ++ [.BT lk.length zs.length (AG.sz α)]) (fun L => ?_) (k _ _ Nz.snap (hO.push _ rfl ⟨CB zs, .inr ⟨G.length, rfl, hO.len, J4 _ _⟩⟩)) h1 h2 h3 hd
  rw [hr L, if_neg h0, aq, dw, Nat.add_sub_cancel]
end
def Up (x : Nat) : List Nat → Bool
 | [] => false
 | y :: l => bif ed x y then true else Up x l
theorem MN (x : Nat) : ∀ l : List Nat, Up x l = l.contains x
 | [] => rfl
 | y :: l => by
  rw [List.contains_cons, ← MN x l]
  show (bif ed x y then true else Up x l) = _
  have : ed x y = (x == y) := by rw [fb, beq_iff_eq, Nat.beq_eq]
  rw [this]
  cases x == y <;> rfl
def Gu (tbl : List (List Nat)) : Nat → List Nat → List Nat → List Nat
 | 0, _, seen => seen.reverse
 | _, [], seen => seen.reverse
 | n + 1, f :: todo, seen => bif Up f seen then Gu tbl n todo seen else Gu tbl n (tbl.getD f [] ++ todo) (f :: seen)
section
variable {P : bg} {tbl : List (List Nat)}
theorem RU (hl : P.funcs.toList.map P.leadsTo = tbl) (g : Nat) : (P.funcs[g]?).elim [] P.leadsTo = tbl.getD g [] := by
 subst hl
 rw [List.getD_eq_getElem?_getD, dj, Array.getElem?_toList]
 cases P.funcs[g]? <;> rfl
theorem Pa (hl : P.funcs.toList.map P.leadsTo = tbl) : ∀ (n : Nat) (todo seen : List Nat), P.closureVia n todo seen = Gu tbl n todo seen
 | 0, _, _ => by simp [Program.closureVia, Gu]
 | n + 1, [], seen => by simp [Program.closureVia, Gu]
 | n + 1, f :: todo, seen => by
  unfold Program.closureVia Gu
  rw [MN, RU hl, Pa hl n, Pa hl n]
  cases seen.contains f <;> rfl
theorem Mg (hl : P.funcs.toList.map P.leadsTo = tbl) {f : Nat} {L : List Nat} (hc : Gu tbl (1 + (tbl.map fun l => l.length + 1).sum) [f] [] = L) : P.closure f = L := by
 unfold Program.closure
 rw [Pa hl, ← hc]
 congr 2
 subst hl
 rw [kz]
 rfl
def Tb (tbl : List (List Nat)) (rk : List Nat) (L : List Nat) : Bool := L.all fun g => (tbl.getD g []).all fun h => Up h L && cg (rk.getD h 0) (rk.getD g 0)
theorem Mf {rk L : List Nat} (hd : Tb tbl rk L = true) (m : Nat) : ∀ (n : Nat) (todo seen : List Nat), (∀ x ∈ todo, x ∈ L ∧ rk.getD x 0 ≤ m) → (∀ x ∈ seen, x ∈ L ∧ rk.getD x 0 ≤ m) → ∀ x ∈ Gu tbl n todo seen, x ∈ L ∧ rk.getD x 0 ≤ m
 | 0, todo, seen, _, hs, x, hx => by
  have : Gu tbl 0 todo seen = seen.reverse := by simp [Gu]
  rw [this] at hx
  exact hs x (mB.1 hx)
 | n + 1, [], seen, _, hs, x, hx => by
  have : Gu tbl (n + 1) [] seen = seen.reverse := by simp [Gu]
  rw [this] at hx
  exact hs x (mB.1 hx)
 | n + 1, f :: todo, seen, ht, hs, x, hx => by
  unfold Gu at hx
  have hf := ht f (bu ..)
  have ht' : ∀ y ∈ todo, y ∈ L ∧ rk.getD y 0 ≤ m := fun y hy => ht y (ca _ hy)
  cases hh : Up f seen with
  | true =>
   rw [hh, cond_true] at hx
   exact Mf hd m n todo seen ht' hs x hx
  | false =>
   rw [hh, cond_false] at hx
   refine Mf hd m n _ _ (fun y hy => ?_) (fun y hy => ?_) x hx
   ·rcases au.1 hy with hy | hy
    ·unfold Tb at hd
     simp only [cb, av] at hd
     obtain ⟨h1, h2⟩ := hd f hf.1 y hy
     rw [MN] at h1
     have h3 := bp h2
     exact ⟨by simpa using h1, by omega⟩
    ·exact ht' y hy
   ·rcases bw.1 hy with rfl | hy
    ·exact hf
    ·exact hs y hy
theorem QT (hl : P.funcs.toList.map P.leadsTo = tbl) {f : Nat} {L rk : List Nat} (hc : P.closure f = L) (hu : P.unfollowed f = false) (hd : Tb tbl rk L = true) : P.recurses f = false := by
 unfold Program.recurses
 rw [hu, mQ, hc, List.any_eq_false]
 intro g hg hx
 rw [RU hl, List.any_eq_true] at hx
 obtain ⟨h, hh, hm⟩ := hx
 unfold Tb at hd
 have hd' := hd
 simp only [cb, av] at hd'
 obtain ⟨h1, h2⟩ := hd' g hg h hh
 rw [MN] at h1
 have h3 := bp h2
 have hcl : P.closure h = Gu tbl (1 + (tbl.map fun l => l.length + 1).sum) [h] [] := Mg hl rfl
 rw [hcl] at hm
 have := Mf (L := L) hd (rk.getD h 0) _ [h] [] (fun x hx => by simp only [bl] at hx; subst hx; exact ⟨by simpa using h1, ak _⟩) (fun x hx => by cases hx) g (by simpa using hm)
 omega
end
theorem MO {α β : Type} {f : α → β} {xs : List α} {a s : Nat} {t u : List β} (h1 : ((xs.drop a).take s).map f = t) (h2 : (xs.drop (a + s)).map f = u) : (xs.drop a).map f = t ++ u := by
 rw [← h1, ← h2, ← fi, ← mO, lR]
def EK (H0 H : A4) (S : List Nat) : Prop := H.length = H0.length ∧ ∀ x, x ∉ S → H[x]? = H0[x]?
theorem EK.refl (H : A4) (S : List Nat) : EK H H S := ⟨rfl, fun _ _ => rfl⟩
theorem EK.set {H0 H : A4} {S : List Nat} (h : EK H0 H S) {n : Nat} (hn : n < H.length → n ∈ S) (x : Bb) : EK H0 (H.set n x) S :=
 ⟨by rw [cp]; exact h.1, fun y hy => by rw [Ab, if_neg (by rintro ⟨rfl, hl⟩; exact hy (hn hl))]; exact h.2 y hy⟩
def OQ (lk : Lk) (n : Nat) : Prop := ∀ l ∈ lk, ∀ x ∈ l, x < n
theorem OQ.push {lk : Lk} {n m : Nat} {L : List Nat} (h : OQ lk n) (hn : n ≤ m) (hL : ∀ x ∈ L, x < m) : OQ (lk ++ [L]) m := by
 intro l hl x hx
 rcases au.1 hl with hl | hl
 ·exact ck (h l hl x hx) hn
 ·simp only [bl] at hl
  subst hl
  exact hL x hx
theorem OQ.free {lk : Lk} {n b : Nat} {L : List Nat} (h : OQ lk n) (hb : n ≤ b) (hL : b ∉ L) : AT (lk ++ [L]) b = true := by
 unfold AT
 rw [cb]
 intro l hl
 simp only [ft, ← mC, lT]
 intro hx
 rcases au.1 hl with hl | hl
 ·exact absurd (h l hl b hx) (dt.2 hb)
 ·simp only [bl] at hl
  subst hl
  exact hL hx
def dI (H : A4) (q : Nat) (o : V) (d sz n : Nat) (cells : List V) : Prop := H[q]? = some (.cells 1 [o]) ∧ cells.length = n * sz ∧ (o = .tl n cells ∨ ∃ b, o = .snap b n cells ∧ H[b]? = some (.BT d n sz))
def Zq (q : Nat) (o : V) : List Nat := q :: (match o with | .snap b _ _ => [b] | _ => [])
section steps
variable {P : bg} {h : BI} {fk n base : Nat} {lk : Lk} {c : Cx} {ops : Array bq} {s kk : Bool} {d : Nat} {ty : ao} {pos : String} {aft : Array Edge} {l : List (Bool × Bool × bq)} {Q : St → Prop} {T : Nat → V} {G G' H H0 : A4} {rs : List Bf} {op : Op} {S : List Nat}
variable {α : Type} [AG α]
theorem Z5 (hS : ∀ b ∈ S, AT lk b = true) {b : Nat} (hb : b < H.length → b ∈ S) : ((B0 P h fk n H.length lk).BQ s kk).BX b = true := by
 unfold Cx.BX
 simp only [de, decide_eq_true_eq]
 rcases bz b H.length with hl | hl
 ·exact .inr (hS b (hb hl))
 ·exact .inl hl
theorem A8.QC {dd d1 sz m j : Nat} {v : V} {cs : List V} (hO : A8 H G rs) (hj : rs[j]? = some (.QC S v dd d1 sz m cs)) : cs.length = m * sz ∧ (v = .tl m cs ∨ ∃ b l, v = .snap b m cs ∧ G[b]? = some (.BT l m sz) ∧ ((b < H.length ∧ b ∈ S ∧ l = dd) ∨ (H.length ≤ b ∧ l = d1))) := hO.ok _ (bh hj)
end steps
section cells
variable {P : bg} {h : BI} {fk n base : Nat} {lk : Lk} {ops : Array bq} {s kk : Bool} {d : Nat} {ty : ao} {pos : String} {aft : Array Edge} {l : List (Bool × Bool × bq)} {Q : St → Prop} {T : Nat → V} {G G' H : A4} {rs : List Bf}
theorem CF {j dd sz m : Nat} {v : V} {cs : List V} (hO : A8 H G rs) (hj : rs[j]? = some (.own v dd sz m cs)) : v.cellsOf = [v] ∧ v.Ba = true := by
 rcases (hO.own hj).2 with rfl | ⟨b, rfl, _⟩ <;> exact ⟨rfl, rfl⟩
theorem DM : ([] : List V).all V.Ba = true := rfl
theorem AE {v : V} {vs : List V} (h1 : v.Ba = true) (h2 : vs.all V.Ba = true) : (v :: vs).all V.Ba = true := by rw [fg, h1, h2]; rfl
theorem Dx {place : Nat → Option (Nat × Nat)} {cells ce r : List V} {i off sz : Nat} {v : V} {rest : List (Nat × V)} (hv : v.cellsOf = ce) (hc : ce.all V.Ba = true) (h : DS place (C6 cells off ce) rest = some r) (hp : place i = some (off, sz) := by rfl) (hl : ce.length = sz := by rfl) (hf : fj (off + sz) cells.length = true := by rfl) :
  DS place cells ((i, v) :: rest) = some r := by
 subst hv
 have hf := bp hf
 simp only [DS, hp]
 rw [if_neg (by rw [hc, hl]; simp; omega)]
 exact h
theorem EP {v : V} (h : v.Ba = true) : [v].all V.Ba = true := by rw [fg, h]; rfl
theorem Jv {t : ao} {x y : aw} {b off sz m : Nat} {cs xs : List V} {v : V} (cs' : List V) (hO : A8 H G rs) (j : Nat) (hz : Aw P t = some m) (hb : base = H.length) (k : ∀ G', A8 H G' (rs.set j (.B6 b (.cells sz cs'))) → BW (B0 P h fk n base lk) ops l ⟨T, G'⟩ Q) (h1 : ev T x = some (.ptr b off) := by rfl) (hj : rs[j]? = some (.B6 b (.cells sz cs)) := by rfl) (h2 : ev T y = some v := by rfl) (h3 : v.cellsOf = xs := by rfl) (h4 : xs.length = m := by rfl) (h5 : fj (off + m) cs.length = true := by rfl) (h6 : xs.all V.Ba = true := by rfl) (h7 : C6 cs off xs = cs' := by rfl) :
  BW (B0 P h fk n base lk) ops ((s, kk, ⟨none, .store t x y, ty, pos, aft, none⟩) :: l) ⟨T, G⟩ Q := by
 subst h7
 exact CM hO j hz hb k h1 hj h2 h3 h4 h5 h6
end cells
structure jC (H H1 : A4) (q : Nat) (o o' : V) (d sz n : Nat) (cells : List V) : Prop where
 box : dI H1 q o' d sz n cells
 len : H.length ≤ H1.length
 same : ∀ x, x < H.length → x ∉ Zq q o → H1[x]? = H[x]?
 DC : ∀ b ∈ Zq q o', b ∈ Zq q o ∨ H.length ≤ b
def VZ (P : bg) (h : BI) (k base d : Nat) (rs : List dv) (Post : V → A4 → Prop) (x : X) (S : St) : Prop :=
 (x = .normal ∨ x = .ret) ∧ ∃ v H1, ((Av P S.H S.T rs).bind fun vs => EE h k base d (Et vs) S.H) = some (v, H1) ∧ Post v H1
theorem BA {P : bg} {h : BI} {lk : Lk} {fn : Func} {body : Code} {k : fh} (hfn : P.funcs[k]? = some fn) (hb : fn.body = some body) {m : Nat} (hn : fn.ntmps = m) {args : List V} {H : A4} {rs : Array dv} (hrs : fn.results = rs) (hlen : fj args.length m = true) (hname : (fn.name == "runtime.NumGoroutine") = false) {Post : V → A4 → Prop}
  (hr : G5 (B0 P h k m H.length lk) body ⟨JX args, H⟩ (VZ P h k H.length lk.length rs.toList Post)) (hns : EO body = none := by rfl) : ∃ v H1, Ai P h k args H lk = some (v, H1) ∧ Post v H1 := by
 obtain ⟨x, S, h1, h2, v, H1, h3, hp⟩ := hr
 exact ⟨v, H1, PJ hfn hb hn hns (bp hlen) hname hrs ⟨x, S, h1, h2, h3⟩, hp⟩
section calls
variable {P : bg} {h : BI} {fk n base : Nat} {lk : Lk} {ops : Array bq} {s kk : Bool} {d : Nat} {ty : ao} {pos : String} {aft : Array Edge} {l : List (Bool × Bool × bq)} {Q : St → Prop} {T : Nat → V} {G G' H : A4} {rs : List Bf}
end calls
def Oe {α : Type} (tr : A4 → α → List V → List Nat → Prop) (G : A4) : List α → List V → List Nat → Prop
 | [], cs, F => cs = [] ∧ F = []
 | x :: xs, cs, F => ∃ c1 c2 F1 F2, cs = c1 ++ c2 ∧ F = F1 ++ F2 ∧ tr G x c1 F1 ∧ Oe tr G xs c2 F2
def GW (tr : A4 → List V → List Nat → Prop) (lo : Nat) (f : A4 × List Bb → V → Option (V × A4 × List Bb)) (cs : List V) (F : List Nat) (X : A4 × List Bb) : Prop :=
 ∃ cs' X1 L F', Au.resL f X cs = some (cs', X1, X.2 ++ L) ∧ (∀ b, b ∉ F → X1[b]? = X.1[b]?) ∧ F'.Nodup ∧ (∀ b ∈ F', lo + X.2.length ≤ b ∧ b < lo + X.2.length + L.length) ∧ ∀ A : A4, A.length = lo → tr (A ++ (X.2 ++ L)) cs' F'
class Ar (α : Type) [AG α] where
 tr : A4 → α → List V → List Nat → Prop
 dep : Nat
 len : ∀ {G x cs F}, tr G x cs F → cs.length = AG.sz α
 cell : ∀ {G x cs F}, tr G x cs F → cs.all V.Ba = true
 frame : ∀ {G G' x cs F}, tr G x cs F → (∀ b ∈ F, G'[b]? = G[b]?) → tr G' x cs F
 bound : ∀ {G x cs F}, tr G x cs F → ∀ b ∈ F, b < G.length
 QN : ∀ {G x cs F}, tr G x cs F → ∀ lv k, ∃ M, AY.lendL (AY lv G (k + dep)) cs = some (AG.BO lv x, M) ∧ ∀ b ∈ M, b ∈ F
 res : ∀ {G x cs F}, tr G x cs F → F.Nodup → ∀ lo d, (∀ b ∈ F, lo ≤ b) → ∀ k X, (∀ b ∈ F, X.1[b]? = G[b]?) → GW (fun G => tr G x) lo (Au true lo d (k + dep)) cs F X
theorem IB {f : V → Option (V × List Nat)} : ∀ {a b a' b' : List V} {M N : List Nat}, AY.lendL f a = some (a', M) → AY.lendL f b = some (b', N) → AY.lendL f (a ++ b) = some (a' ++ b', M ++ N)
 | [], b, a', b', M, N, h1, h2 => by
  simp only [AY.lendL, aa, ag] at h1
  obtain ⟨rfl, rfl⟩ := h1
  simpa using h2
 | x :: a, b, a', b', M, N, h1, h2 => by
  simp only [AY.lendL, ae, af, Prod.exists, ag] at h1
  obtain ⟨x', M1, e1, a2, M2, e2, rfl, rfl⟩ := h1
  simp only [di, AY.lendL, e1, ab, IB e2 h2, ai, bj]
theorem HE {f : A4 × List Bb → V → Option (V × A4 × List Bb)} : ∀ {a b a' b' : List V} {X Y Z : A4 × List Bb}, Au.resL f X a = some (a', Y) → Au.resL f Y b = some (b', Z) → Au.resL f X (a ++ b) = some (a' ++ b', Z)
 | [], b, a', b', X, Y, Z, h1, h2 => by
  simp only [Au.resL, aa, ag] at h1
  obtain ⟨rfl, rfl⟩ := h1
  simpa using h2
 | x :: a, b, a', b', X, Y, Z, h1, h2 => by
  simp only [Au.resL, ae, af, Prod.exists, ag] at h1
  obtain ⟨x', X1, X2, e1, a2, X3, X4, e2, rfl, rfl⟩ := h1
  simp only [di, Au.resL, e1, ab, HE e2 h2, ai]
theorem LI {A B : List Nat} (h : (A ++ B).Nodup) : A.Nodup ∧ B.Nodup ∧ ∀ x ∈ A, x ∉ B := by
 rw [cn] at h
 exact ⟨h.1, h.2.1, fun x hx hx' => h.2.2 x hx x hx' rfl⟩
theorem GW.pair {t1 t2 : A4 → List V → List Nat → Prop} {lo : Nat} {f : A4 × List Bb → V → Option (V × A4 × List Bb)} {c1 c2 : List V} {F1 F2 : List Nat} {X : A4 × List Bb}
  (m1 : ∀ {G G' cs F}, t1 G cs F → (∀ b ∈ F, G'[b]? = G[b]?) → t1 G' cs F) (h1 : GW t1 lo f c1 F1 X) (h2 : ∀ Y : A4 × List Bb, (∀ b, b ∉ F1 → Y.1[b]? = X.1[b]?) → GW t2 lo f c2 F2 Y) :
  GW (fun G cs F => ∃ c1 c2 F1 F2, cs = c1 ++ c2 ∧ F = F1 ++ F2 ∧ t1 G c1 F1 ∧ t2 G c2 F2) lo f (c1 ++ c2) (F1 ++ F2) X := by
 obtain ⟨c1', X1, L1, F1', e1, s1, n1, b1, r1⟩ := h1
 obtain ⟨c2', X2, L2, F2', e2, s2, n2, b2, r2⟩ := h2 (X1, X.2 ++ L1) s1
 simp only [aq] at b2
 refine ⟨c1' ++ c2', X2, L1 ++ L2, F1' ++ F2', by rw [← bj]; exact HE e1 e2, fun b hb => ?_, ?_, fun b hb => ?_, fun A hA => ⟨c1', c2', F1', F2', rfl, rfl, m1 (r1 A hA) fun b hb => ?_, by rw [← bj X.2]; exact r2 A hA⟩⟩
 ·rw [s2 b fun h => hb (cw _ h)]
  exact s1 b fun h => hb (cq _ h)
 ·rw [cn]
  refine ⟨n1, n2, fun x hx y hy e => ?_⟩
  have := b1 x hx
  have := b2 y hy
  omega
 ·rw [aq]
  rcases au.1 hb with hb | hb
  ·have := b1 b hb; omega
  ·have := b2 b hb; omega
 ·rw [← bj X.2, ← bj A (X.2 ++ L1), az]
  rw [aq, aq, hA]
  have := b1 b hb
  omega
section
variable {α : Type} [AG α] [Ar α] {G G' : A4}
theorem Qk : ∀ {xs : List α} {cs F}, Oe Ar.tr G xs cs F → cs.length = xs.length * AG.sz α
 | [], cs, F, h => by obtain ⟨rfl, rfl⟩ := h; simp
 | x :: xs, cs, F, h => by
  obtain ⟨c1, c2, F1, F2, rfl, rfl, h1, h2⟩ := h
  rw [aq, Ar.len h1, Qk h2, du, gp, ij]
theorem Ht : ∀ {xs : List α} {cs F}, Oe Ar.tr G xs cs F → (∀ b ∈ F, G'[b]? = G[b]?) → Oe Ar.tr G' xs cs F
 | [], cs, F, h, _ => h
 | x :: xs, cs, F, h, hf => by
  obtain ⟨c1, c2, F1, F2, rfl, rfl, h1, h2⟩ := h
  exact ⟨c1, c2, F1, F2, rfl, rfl, Ar.frame h1 fun b hb => hf b (cq _ hb), Ht h2 fun b hb => hf b (cw _ hb)⟩
theorem PQ : ∀ {xs : List α} {cs F}, Oe Ar.tr G xs cs F → ∀ b ∈ F, b < G.length
 | [], cs, F, h => by obtain ⟨rfl, rfl⟩ := h; intro b hb; cases hb
 | x :: xs, cs, F, h => by
  obtain ⟨c1, c2, F1, F2, rfl, rfl, h1, h2⟩ := h
  intro b hb
  rcases au.1 hb with hb | hb
  ·exact Ar.bound h1 b hb
  ·exact PQ h2 b hb
theorem Rw (lv k : Nat) : ∀ {xs : List α} {cs F}, Oe Ar.tr G xs cs F → ∃ M, AY.lendL (AY lv G (k + Ar.dep α)) cs = some (A9 lv xs, M) ∧ ∀ b ∈ M, b ∈ F
 | [], cs, F, h => by obtain ⟨rfl, rfl⟩ := h; exact ⟨[], rfl, fun b hb => hb⟩
 | x :: xs, cs, F, h => by
  obtain ⟨c1, c2, F1, F2, rfl, rfl, h1, h2⟩ := h
  obtain ⟨M1, e1, m1⟩ := Ar.QN h1 lv k
  obtain ⟨M2, e2, m2⟩ := Rw lv k h2
  refine ⟨M1 ++ M2, IB e1 e2, fun b hb => ?_⟩
  rcases au.1 hb with hb | hb
  ·exact cq _ (m1 b hb)
  ·exact cw _ (m2 b hb)
theorem UR (lo d k : Nat) : ∀ {xs : List α} {cs F}, Oe Ar.tr G xs cs F → F.Nodup → (∀ b ∈ F, lo ≤ b) → ∀ X, (∀ b ∈ F, X.1[b]? = G[b]?) → GW (fun G => Oe Ar.tr G xs) lo (Au true lo d (k + Ar.dep α)) cs F X
 | [], cs, F, h, _, _, X, _ => by
  obtain ⟨rfl, rfl⟩ := h
  exact ⟨[], X.1, [], [], by rw [cu]; rfl, fun _ _ => rfl, .nil, fun b hb => (by cases hb), fun _ _ => ⟨rfl, rfl⟩⟩
 | x :: xs, cs, F, h, hn, hF, X, hX => by
  obtain ⟨c1, c2, F1, F2, rfl, rfl, h1, h2⟩ := h
  obtain ⟨n1, n2, n3⟩ := LI hn
  refine GW.pair (fun h => Ar.frame h) (Ar.res h1 n1 lo d (fun b hb => hF b (cq _ hb)) k X fun b hb => hX b (cq _ hb)) fun Y hY => ?_
  exact UR lo d k h2 n2 (fun b hb => hF b (cw _ hb)) Y fun b hb => by rw [hY b fun h => n3 b h hb]; exact hX b (cw _ hb)
theorem XK : ∀ {xs : List α} {j : Nat} {x : α} {cs F}, Oe Ar.tr G xs cs F → xs[j]? = some x → ∃ c1 c2 c3 F1 F2 F3, cs = c1 ++ (c2 ++ c3) ∧ F = F1 ++ (F2 ++ F3) ∧ c1.length = j * AG.sz α ∧ Ar.tr G x c2 F2 ∧
  ∀ G' y c F', (∀ b ∈ F1 ++ F3, G'[b]? = G[b]?) → Ar.tr G' y c F' → Oe Ar.tr G' (xs.set j y) (c1 ++ (c ++ c3)) (F1 ++ (F' ++ F3))
 | [], j, x, cs, F, h, hx => by simp at hx
 | z :: xs, 0, x, cs, F, h, hx => by
  simp only [ee, aa] at hx
  subst hx
  obtain ⟨c1, c2, F1, F2, rfl, rfl, h1, h2⟩ := h
  exact ⟨[], c1, c2, [], F1, F2, rfl, rfl, by simp, h1, fun G' y c F' hG hy => ⟨c, c2, F', F2, rfl, rfl, hy, Ht h2 hG⟩⟩
 | z :: xs, j + 1, x, cs, F, h, hx => by
  simp only [ku] at hx
  obtain ⟨c1, c2, F1, F2, rfl, rfl, h1, h2⟩ := h
  obtain ⟨d1, d2, d3, E1, E2, E3, rfl, rfl, hl, h3, h4⟩ := XK h2 hx
  refine ⟨c1 ++ d1, d2, d3, F1 ++ E1, E2, E3, by rw [bj], by rw [bj], by rw [aq, Ar.len h1, hl, gp, ij], h3, fun G' y c F' hG hy => ?_⟩
  refine ⟨c1, d1 ++ (c ++ d3), F1, E1 ++ (F' ++ E3), by rw [bj], by rw [bj], Ar.frame h1 fun b hb => hG b (by simp [hb]), h4 G' y c F' (fun b hb => hG b ?_) hy⟩
  rw [bj]; exact cw _ hb
end
instance : Ar Int where
 tr := fun _ x cs F => cs = [.int .i64 x] ∧ F = []
 dep := 1
 len := fun h => by obtain ⟨rfl, rfl⟩ := h; rfl
 cell := fun h => by obtain ⟨rfl, rfl⟩ := h; rfl
 frame := fun h _ => h
 bound := fun h => by obtain ⟨rfl, rfl⟩ := h; intro b hb; cases hb
 QN := fun h lv k => by obtain ⟨rfl, rfl⟩ := h; exact ⟨[], rfl, fun b hb => hb⟩
 res := fun h _ lo d _ k X _ => by obtain ⟨rfl, rfl⟩ := h; exact ⟨_, X.1, [], [], by rw [cu]; rfl, fun _ _ => rfl, .nil, fun b hb => (by cases hb), fun _ _ => ⟨rfl, rfl⟩⟩
instance : Ar Bool where
 tr := fun _ x cs F => cs = [.bool x] ∧ F = []
 dep := 1
 len := fun h => by obtain ⟨rfl, rfl⟩ := h; rfl
 cell := fun h => by obtain ⟨rfl, rfl⟩ := h; rfl
 frame := fun h _ => h
 bound := fun h => by obtain ⟨rfl, rfl⟩ := h; intro b hb; cases hb
 QN := fun h lv k => by obtain ⟨rfl, rfl⟩ := h; exact ⟨[], rfl, fun b hb => hb⟩
 res := fun h _ lo d _ k X _ => by obtain ⟨rfl, rfl⟩ := h; exact ⟨_, X.1, [], [], by rw [cu]; rfl, fun _ _ => rfl, .nil, fun b hb => (by cases hb), fun _ _ => ⟨rfl, rfl⟩⟩
instance : Ar ByteArray where
 tr := fun _ x cs F => cs = [.str x] ∧ F = []
 dep := 1
 len := fun h => by obtain ⟨rfl, rfl⟩ := h; rfl
 cell := fun h => by obtain ⟨rfl, rfl⟩ := h; rfl
 frame := fun h _ => h
 bound := fun h => by obtain ⟨rfl, rfl⟩ := h; intro b hb; cases hb
 QN := fun h lv k => by obtain ⟨rfl, rfl⟩ := h; exact ⟨[], rfl, fun b hb => hb⟩
 res := fun h _ lo d _ k X _ => by obtain ⟨rfl, rfl⟩ := h; exact ⟨_, X.1, [], [], by rw [cu]; rfl, fun _ _ => rfl, .nil, fun b hb => (by cases hb), fun _ _ => ⟨rfl, rfl⟩⟩
instance {α : Type} [AG α] [Ar α] : Ar (List α) where
 tr := fun G xs cs F => (xs = [] ∧ cs = [.tl 0 []] ∧ F = []) ∨ ∃ b cells F', cs = [.sl b 0 xs.length] ∧ G[b]? = some (.cells (AG.sz α) cells) ∧ Oe Ar.tr G xs cells F' ∧ F = b :: F'
 dep := Ar.dep α + 1
 len := fun h => by
  rcases h with ⟨rfl, rfl, rfl⟩ | ⟨b, cells, F', rfl, _⟩ <;> rfl
 cell := fun h => by
  rcases h with ⟨rfl, rfl, rfl⟩ | ⟨b, cells, F', rfl, _⟩ <;> rfl
 frame := fun h hf => by
  rcases h with ⟨rfl, rfl, rfl⟩ | ⟨b, cells, F', rfl, h1, h2, rfl⟩
  ·exact .inl ⟨rfl, rfl, rfl⟩
  ·exact .inr ⟨b, cells, F', rfl, by rw [hf b (bu ..)]; exact h1, Ht h2 fun c hc => hf c (ca _ hc), rfl⟩
 bound := fun h => by
  rcases h with ⟨rfl, rfl, rfl⟩ | ⟨b, cells, F', rfl, h1, h2, rfl⟩
  ·intro b hb; cases hb
  ·intro c hc
   rcases bw.1 hc with rfl | hc
   ·exact (al.1 h1).1
   ·exact PQ h2 c hc
 QN := fun h lv k => by
  rcases h with ⟨rfl, rfl, rfl⟩ | ⟨b, cells, F', rfl, h1, h2, rfl⟩
  ·exact ⟨[], rfl, fun b hb => hb⟩
  ·obtain ⟨M, e, m⟩ := Rw lv k h2
   refine ⟨b :: M, ?_, fun c hc => ?_⟩
   ·have hl := Qk h2
    have e0 : ¬ cells.length < 0 + cells.length := by omega
    have e1 : (kf 0 cells).take cells.length = cells := by rw [ga]; exact eh (ak _)
    simp only [AY.lendL, ← gk, AY, h1]
    have e' : AY.lendL (AY lv _ (k.add (Ar.dep α))) cells = _ := e
    rw [← hl, if_neg e0, e1, e']
    simp only [ai, ab, cu]
    rfl
   ·rcases bw.1 hc with rfl | hc
    ·exact bu ..
    ·exact ca _ (m c hc)
 res := fun {G x cs F} h hn lo d hF k X hX => by
  rcases h with ⟨rfl, rfl, rfl⟩ | ⟨b, cells, F', rfl, h1, h2, rfl⟩
  ·exact ⟨[.tl 0 []], X.1, [], [], by rw [cu, ← gk]; rfl, fun _ _ => rfl, .nil, fun b hb => (by cases hb), fun _ _ => .inl ⟨rfl, rfl, rfl⟩⟩
  ·have hl := Qk h2
   have hb := hF b (bu ..)
   rw [dr] at hn
   have hXb : X.1[b]? = some (.cells (AG.sz α) cells) := by rw [hX b (bu ..)]; exact h1
   obtain ⟨c', X1, L, E, e1, s1, n1, b1, r1⟩ := UR lo d k h2 hn.2 (fun c hc => hF c (ca _ hc)) (X.1.set b .dead, X.2) fun c hc => by
    simp only [Ab]
    rw [if_neg (by rintro ⟨rfl, _⟩; exact hn.1 hc)]
    exact hX c (ca _ hc)
   have e0 : ¬ cells.length < 0 + cells.length := by omega
   have e2 : (kf 0 cells).take cells.length = cells := by rw [ga]; exact eh (ak _)
   refine ⟨[.sl (lo + (X.2 ++ L).length) 0 x.length], X1, L ++ [.cells (AG.sz α) c'], (lo + (X.2 ++ L).length) :: E, ?_, fun c hc => ?_, ?_, fun c hc => ?_, fun A hA => .inr ⟨_, c', E, rfl, ?_, ?_, rfl⟩⟩
   ·simp only [Au.resL, ← gk, Au, if_neg (dt.2 hb), hXb]
    have e' : Au.resL (Au true lo d (k.add (Ar.dep α))) (X.1.set b .dead, X.2) cells = _ := e1
    rw [← hl, if_neg e0, e2, e']
    simp only [ab, if_true]
    rw [if_pos ⟨trivial, trivial⟩]
    simp only [ab, ai, bj]
   ·rw [s1 c fun h => hc (ca _ h)]
    simp only [Ab]
    rw [if_neg (by rintro ⟨rfl, _⟩; exact hc (bu ..))]
   ·rw [dr]
    refine ⟨fun h => ?_, n1⟩
    have := b1 _ h
    rw [aq] at this
    simp only at this
    omega
   ·rw [aq, dw]
    rcases bw.1 hc with rfl | hc
    ·rw [aq]; omega
    ·have := b1 c hc; simp only at this; omega
   ·rw [← bj X.2, ← bj A, cd (by rw [aq, hA]; exact ak _), show lo + (X.2 ++ L).length - (A ++ (X.2 ++ L)).length = 0 by rw [aq (as := A), hA]; omega]; rfl
   ·refine Ht (r1 A hA) fun c hc => ?_
    rw [← bj X.2, ← bj A, az]
    rw [aq, aq, hA]
    have := b1 c hc
    simp only at this
    omega
instance {α β : Type} [AG α] [AG β] : AG (α × β) := ⟨AG.sz α + AG.sz β, Nat.add_pos_left AG.pos _, fun l x => AG.BO l x.1 ++ AG.BO l x.2, fun x => by rw [aq, AG.len, AG.len], fun x h => by rw [BS, AG.Ec _ h, AG.Ec _ h]; rfl, fun x => by rw [dk, AG.cell, AG.cell]; rfl⟩
theorem KP {lv : Nat} {α : Type} [AG α] [Ar α] {G : A4} {x : α} {cs F} (h : Ar.tr G x cs F) {n : Nat} (hn : Ar.dep α ≤ n) (k : Nat) : ∃ M, AY.lendL (AY lv G (k + n)) cs = some (AG.BO lv x, M) ∧ ∀ b ∈ M, b ∈ F := by
 have := Ar.QN h lv (k + (n - Ar.dep α))
 rwa [show k + (n - Ar.dep α) + Ar.dep α = k + n by omega] at this
theorem P0 {α : Type} [AG α] [Ar α] {G : A4} {x : α} {cs F} (h : Ar.tr G x cs F) (hn : F.Nodup) (lo d : Nat) (hF : ∀ b ∈ F, lo ≤ b) {n : Nat} (hm : Ar.dep α ≤ n) (k : Nat) (X : A4 × List Bb) (hX : ∀ b ∈ F, X.1[b]? = G[b]?) : GW (fun G => Ar.tr G x) lo (Au true lo d (k + n)) cs F X := by
 have := Ar.res h hn lo d hF (k + (n - Ar.dep α)) X hX
 rwa [show k + (n - Ar.dep α) + Ar.dep α = k + n by omega] at this
instance {α β : Type} [AG α] [Ar α] [AG β] [Ar β] : Ar (α × β) where
 tr := fun G x cs F => ∃ c1 c2 F1 F2, cs = c1 ++ c2 ∧ F = F1 ++ F2 ∧ Ar.tr G x.1 c1 F1 ∧ Ar.tr G x.2 c2 F2
 dep := max (Ar.dep α) (Ar.dep β)
 len := fun h => by obtain ⟨c1, c2, F1, F2, rfl, rfl, h1, h2⟩ := h; rw [aq, Ar.len h1, Ar.len h2]; rfl
 cell := fun h => by obtain ⟨c1, c2, F1, F2, rfl, rfl, h1, h2⟩ := h; rw [dk, Ar.cell h1, Ar.cell h2]; rfl
 frame := fun h hf => by
  obtain ⟨c1, c2, F1, F2, rfl, rfl, h1, h2⟩ := h
  exact ⟨c1, c2, F1, F2, rfl, rfl, Ar.frame h1 fun b hb => hf b (cq _ hb), Ar.frame h2 fun b hb => hf b (cw _ hb)⟩
 bound := fun h b hb => by
  obtain ⟨c1, c2, F1, F2, rfl, rfl, h1, h2⟩ := h
  rcases au.1 hb with hb | hb
  ·exact Ar.bound h1 b hb
  ·exact Ar.bound h2 b hb
 QN := fun h lv k => by
  obtain ⟨c1, c2, F1, F2, rfl, rfl, h1, h2⟩ := h
  obtain ⟨M1, e1, m1⟩ := KP h1 (gi _ (Ar.dep β)) k
  obtain ⟨M2, e2, m2⟩ := KP h2 (gh (Ar.dep α) _) k
  refine ⟨M1 ++ M2, IB e1 e2, fun b hb => ?_⟩
  rcases au.1 hb with hb | hb
  ·exact cq _ (m1 b hb)
  ·exact cw _ (m2 b hb)
 res := fun h hn lo d hF k X hX => by
  obtain ⟨c1, c2, F1, F2, rfl, rfl, h1, h2⟩ := h
  obtain ⟨n1, n2, n3⟩ := LI hn
  refine GW.pair (fun h => Ar.frame h) (P0 h1 n1 lo d (fun b hb => hF b (cq _ hb)) (gi _ _) k X fun b hb => hX b (cq _ hb)) fun Y hY => ?_
  exact P0 h2 n2 lo d (fun b hb => hF b (cw _ hb)) (gh _ _) k Y fun b hb => by rw [hY b fun h => n3 b h hb]; exact hX b (cw _ hb)
abbrev Ar.via {α β : Type} [AG α] [AG β] [Ar β] (f : α → β) (hz : AG.sz α = AG.sz β) (he : ∀ l x, AG.BO l x = AG.BO l (f x)) : Ar α where
 tr := fun G x cs F => Ar.tr G (f x) cs F
 dep := Ar.dep β
 len := fun h => by rw [hz]; exact Ar.len h
 cell := fun h => Ar.cell h
 frame := fun h hf => Ar.frame h hf
 bound := fun h => Ar.bound h
 QN := fun h lv k => by rw [he]; exact Ar.QN h lv k
 res := fun h hn lo d hF k X hX => Ar.res h hn lo d hF k X hX
structure CJ (α β : Type) [AG α] [Ar α] [AG β] [Ar β] (get : α → β) (set : α → β → α) (off : Nat) : Prop where
 part : ∀ {G x cs F}, Ar.tr G x cs F → ∃ c1 c2 c3 F1 F2 F3, cs = c1 ++ (c2 ++ c3) ∧ F = F1 ++ (F2 ++ F3) ∧ c1.length = off ∧ Ar.tr G (get x) c2 F2 ∧
  ∀ G' y c F', (∀ b ∈ F1 ++ F3, G'[b]? = G[b]?) → Ar.tr G' y c F' → Ar.tr G' (set x y) (c1 ++ (c ++ c3)) (F1 ++ (F' ++ F3))
section
variable {α β γ : Type} [AG α] [Ar α] [AG β] [Ar β] [AG γ] [Ar γ]
theorem CJ.all : CJ α α id (fun _ y => y) 0 := ⟨fun {G x cs F} h => ⟨[], cs, [], [], F, [], by simp, by simp, rfl, h, fun G' y c F' _ hy => by simpa using hy⟩⟩
theorem CJ.fst : CJ (α × β) α Prod.fst (fun x y => (y, x.2)) 0 := ⟨fun {G x cs F} h => by
 obtain ⟨c1, c2, F1, F2, rfl, rfl, h1, h2⟩ := h
 exact ⟨[], c1, c2, [], F1, F2, rfl, rfl, rfl, h1, fun G' y c F' hG hy => ⟨c, c2, F', F2, rfl, rfl, hy, Ar.frame h2 hG⟩⟩⟩
theorem CJ.snd : CJ (α × β) β Prod.snd (fun x y => (x.1, y)) (AG.sz α) := ⟨fun {G x cs F} h => by
 obtain ⟨c1, c2, F1, F2, rfl, rfl, h1, h2⟩ := h
 exact ⟨c1, c2, [], F1, F2, [], by simp, by simp, Ar.len h1, h2, fun G' y c F' hG hy => ⟨c1, c, F1, F', by simp, by simp, Ar.frame h1 fun b hb => hG b (by simpa using hb), hy⟩⟩⟩
theorem CJ.comp {g1 : α → β} {s1 : α → β → α} {o1 : Nat} {g2 : β → γ} {s2 : β → γ → β} {o2 : Nat} (h1 : CJ α β g1 s1 o1) (h2 : CJ β γ g2 s2 o2) : CJ α γ (fun x => g2 (g1 x)) (fun x y => s1 x (s2 (g1 x) y)) (o1 + o2) := ⟨fun {G x cs F} h => by
 obtain ⟨c1, c2, c3, F1, F2, F3, rfl, rfl, l1, t1, b1⟩ := h1.part h
 obtain ⟨d1, d2, d3, E1, E2, E3, rfl, rfl, l2, t2, b2⟩ := h2.part t1
 refine ⟨c1 ++ d1, d2, d3 ++ c3, F1 ++ E1, E2, E3 ++ F3, by simp, by simp, by rw [aq, l1, l2], t2, fun G' y c F' hG hy => ?_⟩
 have := b1 G' (s2 (g1 x) y) (d1 ++ (c ++ d3)) (E1 ++ (F' ++ E3)) (fun b hb => hG b (by rcases au.1 hb with h | h <;> simp [h])) (b2 G' y c F' (fun b hb => hG b (by rcases au.1 hb with h | h <;> simp [h])) hy)
 simpa using this⟩
end
section
variable {α β γ : Type} [AG α] [AG β] [Ar β] [AG γ] [Ar γ]
theorem CJ.via {f : α → β} {hz : AG.sz α = AG.sz β} {he : ∀ l x, AG.BO l x = AG.BO l (f x)} {g : β → γ} {s : β → γ → β} {o : Nat} {set : α → γ → α} (h : CJ β γ g s o) (hs : ∀ x y, f (set x y) = s (f x) y) :
  @CJ α γ _ (Ar.via f hz he) _ _ (fun x => g (f x)) set o :=
 @CJ.mk α γ _ (Ar.via f hz he) _ _ _ _ _ fun {G x cs F} h1 => by
  obtain ⟨c1, c2, c3, F1, F2, F3, e1, e2, l1, t1, b1⟩ := h.part (x := f x) h1
  refine ⟨c1, c2, c3, F1, F2, F3, e1, e2, l1, t1, fun G' y c F' hG hy => ?_⟩
  show Ar.tr G' (f (set x y)) _ _
  rw [hs]
  exact b1 G' y c F' hG hy
end
def D5 {α : Type} [AG α] [Ar α] (G : A4) (x : α) (cs : List V) (F : List Nat) : Prop := ∃ F', F'.Nodup ∧ (∀ b ∈ F', b ∈ F) ∧ Ar.tr G x cs F'
abbrev Ck {α : Type} [AG α] [Ar α] (S F : List Nat) (x : α) (cs : List V) : Bf := .tree S F fun G => D5 G x cs F
section
variable {α β γ : Type} [AG α] [Ar α] [AG β] [Ar β] [AG γ] [Ar γ] {G G' H : A4} {rs : List Bf} {S F : List Nat} {x : α} {cs : List V} {v : V} {xs : List α}
theorem D5.mono (h : D5 G x cs F) (hg : ∀ b ∈ F, G'[b]? = G[b]?) : D5 G' x cs F := by
 obtain ⟨F', h1, h2, h3⟩ := h
 exact ⟨F', h1, h2, Ar.frame h3 fun b hb => hg b (h2 b hb)⟩
theorem D5.cells (h : D5 G x cs F) : cs.length = AG.sz α ∧ cs.all V.Ba = true := by
 obtain ⟨F', h1, h2, h3⟩ := h
 exact ⟨Ar.len h3, Ar.cell h3⟩
theorem Kl (h : D5 G x cs F) (hS : ∀ b ∈ F, b < G.length ∧ (b < H.length → b ∈ S)) : (Ck S F x cs).ok H G := ⟨hS, fun G' hg => h.mono hg⟩
theorem A8.tree {j : Nat} (hO : A8 H G rs) {p : A4 → Prop} (hj : rs[j]? = some (.tree S F p)) : p G ∧ ∀ b ∈ F, b < G.length ∧ (b < H.length → b ∈ S) := by
 have h := hO.ok _ (bh hj)
 exact ⟨h.2 G fun _ _ => rfl, h.1⟩
theorem A8.cP {j : Nat} (hO : A8 H G rs) {p p' : A4 → Prop} (hj : rs[j]? = some (.tree S F p)) (hl : G'.length = G.length) (hs : ∀ b, b ∉ F → G'[b]? = G[b]?) (hp : ∀ G2, (∀ b ∈ F, G2[b]? = G'[b]?) → p' G2) :
  A8 (G'.take H.length) G' (rs.set j (.tree S F p')) := by
 have ht : (G'.take H.length).length = H.length := by rw [dq, hl]; have := hO.len; omega
 obtain ⟨hj1, hj2⟩ := al.1 hj
 refine ⟨fun b hb => ?_, by rw [ht, hl]; exact hO.len, fun r hr => ?_, E9 hO.apart hj fun y hy => hy⟩
 ·rw [dn, if_pos (by omega)]
 ·obtain ⟨i, hi, e⟩ := dh.1 hr
  rw [cp] at hi
  rw [ef] at e
  split at e
  ·subst e
   refine ⟨fun b hb => ?_, hp⟩
   rw [hl, ht]
   exact (hO.tree hj).2 b hb
  ·rename_i hij
   subst e
   refine Bf.bR ht (Bf.FA (hO.ok _ (dc hi)) fun y hy => hs y fun hyF => ?_)
   have hp := cr.1 hO.apart
   rcases bz i j with h | h
   ·exact hp i j hi hj1 h y hy (by rw [hj2]; exact hyF)
   ·exact hp j i hj1 hi (by omega) y (by rw [hj2]; exact hyF) hy
theorem XI {j : Nat} (hO : A8 H G rs) {p : A4 → Prop} (hj : rs[j]? = some (.tree [] F p)) (hs : ∀ b, b ∉ F → G'[b]? = G[b]?) : G'.take H.length = H := by
 apply ib
 intro b
 rw [dn]
 split
 ·rename_i hb
  rw [hs b fun h => by cases ((hO.tree hj).2 b h).2 hb]
  exact hO.pre b hb
 ·rename_i hb; rw [bf (by omega)]
theorem A8.jI {j : Nat} (hO : A8 H G rs) {p p' : A4 → Prop} (hj : rs[j]? = some (.tree [] F p)) (hl : G'.length = G.length) (hs : ∀ b, b ∉ F → G'[b]? = G[b]?) (hp : ∀ G2, (∀ b ∈ F, G2[b]? = G'[b]?) → p' G2) :
  A8 H G' (rs.set j (.tree [] F p')) := by
 have h := hO.cP hj hl hs hp
 rwa [XI hO hj hs] at h
theorem EK.cP {H0 : A4} {j : Nat} (hFr : EK H0 H S) (hO : A8 H G rs) {p : A4 → Prop} (hj : rs[j]? = some (.tree S F p)) (hl : G'.length = G.length) (hs : ∀ b, b ∉ F → G'[b]? = G[b]?) : EK H0 (G'.take H.length) S := by
 have ht : (G'.take H.length).length = H.length := by rw [dq, hl]; have := hO.len; omega
 refine ⟨by rw [ht]; exact hFr.1, fun b hb => ?_⟩
 rw [dn]
 split
 ·rename_i hlt
  rw [hs b fun h => hb (((hO.tree hj).2 b h).2 hlt), hO.pre b hlt]
  exact hFr.2 b hb
 ·rename_i hge
  rw [← hFr.2 b hb, bf (by omega)]
theorem Ql {i : Int} (h : D5 G xs [v] F) (hx : Aa xs i = some x) : ∃ b cells F', v = .sl b 0 xs.length ∧ b ∈ F ∧ G[b]? = some (.cells (AG.sz α) cells) ∧ Oe Ar.tr G xs cells F' ∧ (b :: F').Nodup ∧ ∀ c ∈ F', c ∈ F := by
 obtain ⟨F', h1, h2, h3⟩ := h
 rcases h3 with ⟨rfl, _, _⟩ | ⟨b, cells, F2, e, hb, ht, rfl⟩
 ·have := Fl hx; simp at this; omega
 ·simp only [ei, and_true] at e
  exact ⟨b, cells, F2, e, h2 b (bu ..), hb, ht, h1, fun c hc => h2 c (ca _ hc)⟩
theorem UP {get : α → β} {set : α → β → α} {off : Nat} (L : CJ α β get set off) {i : Int} {F} (h : Oe Ar.tr G xs cs F) (hx : Aa xs i = some x) : ∃ c1 c2 c3 F1 F2 F3, cs = c1 ++ (c2 ++ c3) ∧ F = F1 ++ (F2 ++ F3) ∧ c1.length = i.toNat * AG.sz α + off ∧ Ar.tr G (get x) c2 F2 ∧
  ∀ G' y c F', (∀ b ∈ F1 ++ F3, G'[b]? = G[b]?) → Ar.tr G' y c F' → Oe Ar.tr G' (xs.set i.toNat (set x y)) (c1 ++ (c ++ c3)) (F1 ++ (F' ++ F3)) := by
 obtain ⟨c1, c2, c3, F1, F2, F3, rfl, rfl, l1, t1, b1⟩ := XK h (KI hx)
 obtain ⟨d1, d2, d3, E1, E2, E3, rfl, rfl, l2, t2, b2⟩ := L.part t1
 refine ⟨c1 ++ d1, d2, d3 ++ c3, F1 ++ E1, E2, E3 ++ F3, by simp, by simp, by rw [aq, l1, l2], t2, fun G' y c F' hG hy => ?_⟩
 have := b1 G' (set x y) (d1 ++ (c ++ d3)) (E1 ++ (F' ++ E3)) (fun b hb => hG b (by rcases au.1 hb with h | h <;> simp [h])) (b2 G' y c F' (fun b hb => hG b (by rcases au.1 hb with h | h <;> simp [h])) hy)
 simpa using this
theorem TD {c1 c2 c3 c : List V} (hl : c.length = c2.length) : C6 (c1 ++ (c2 ++ c3)) c1.length c = c1 ++ (c ++ c3) := by
 unfold C6
 rw [mG rfl, hl, kc, ic (by omega), ff, jt, mH rfl, bj]
theorem Ry {get : α → β} {set : α → β → α} {off b : Nat} (L : CJ α β get set off) {i : Int} {y : β} {w : List V} {F2 : List Nat} (h : D5 G xs [v] F) (hx : Aa xs i = some x) (hv : v = .sl b 0 xs.length) (hy : D5 G y w F2) (hd : ∀ c ∈ F2, c ∉ F) :
  ∃ cells, b ∈ F ∧ G[b]? = some (.cells (AG.sz α) cells) ∧ i.toNat * AG.sz α + off + w.length ≤ cells.length ∧ w.all V.Ba = true ∧
   D5 (G.set b (.cells (AG.sz α) (C6 cells (i.toNat * AG.sz α + off) w))) (xs.set i.toNat (set x y)) [v] (F ++ F2) := by
 obtain ⟨b', cells, F', rfl, hb, hg, ht, hn, hF⟩ := Ql h hx
 cases hv
 obtain ⟨E, hE, hE2, hyt⟩ := hy
 obtain ⟨c1, c2, c3, F1, Fm, F3, rfl, rfl, l1, t1, b1⟩ := UP L ht hx
 have hl : w.length = c2.length := by rw [Ar.len hyt, Ar.len t1]
 have hblt := (al.1 hg).1
 rw [dr] at hn
 obtain ⟨n1, n2⟩ := hn
 have nn := cn.1 n2
 have nn2 := cn.1 nn.2.1
 refine ⟨_, hb, hg, by simp only [aq]; omega, Ar.cell hyt, b :: (F1 ++ (E ++ F3)), ?_, fun c hc => ?_, .inr ⟨b, _, _, by rw [cp], by rw [Ab, if_pos ⟨rfl, hblt⟩], ?_, rfl⟩⟩
 ·rw [dr]
  refine ⟨fun hm => ?_, ?_⟩
  ·simp only [au] at hm n1
   rcases hm with hm | hm | hm
   ·exact n1 (.inl hm)
   ·exact hd b (hE2 b hm) hb
   ·exact n1 (.inr (.inr hm))
  ·rw [cn, cn]
   refine ⟨nn.1, ⟨hE, nn2.2.1, fun p hp q hq e => ?_⟩, fun p hp q hq e => ?_⟩
   ·subst e; exact hd p (hE2 p hp) (hF p (by simp [hq]))
   ·subst e
    rcases au.1 hq with hq | hq
    ·exact hd p (hE2 p hq) (hF p (by simp [hp]))
    ·exact nn.2.2 p hp p (by simp [hq]) rfl
 ·rcases bw.1 hc with rfl | hc
  ·simp [hb]
  ·simp only [au] at hc ⊢
   rcases hc with hc | hc | hc
   ·exact .inl (hF c (by simp [hc]))
   ·exact .inr (hE2 c hc)
   ·exact .inl (hF c (by simp [hc]))
 ·rw [← l1, TD hl]
  refine b1 _ y w E (fun c hc => ?_) (Ar.frame hyt fun c hc => ?_)
  ·rw [Ab, if_neg]
   rintro ⟨rfl, _⟩
   exact n1 (by rcases au.1 hc with h | h <;> simp [h])
  ·rw [Ab, if_neg]
   rintro ⟨rfl, _⟩
   exact hd b (hE2 b hc) hb
structure TW (G : A4) (R : A4 → β → Prop) (F : List Nat) (cs : List V) (Fs : List Nat) (y : β) : Prop where
 tr : D5 G y cs Fs
 sub : ∀ b ∈ Fs, b ∈ F
 fr : ∀ G G' y, R G y → (∀ b ∈ F, G'[b]? = G[b]?) → R G' y
 back : ∀ G' y', (∀ b, b ∉ Fs → G'[b]? = G[b]?) → D5 G' y' cs Fs → R G' y'
theorem OH {get : α → β} {set : α → β → α} {off : Nat} (L : CJ α β get set off) (h : D5 G x cs F) : ∃ c1 c2 c3 Fs, cs = c1 ++ (c2 ++ c3) ∧ c1.length = off ∧ c2.length = AG.sz β ∧ TW G (fun G' y => D5 G' (set x y) cs F) F c2 Fs (get x) := by
 obtain ⟨F', n, hF, ht⟩ := h
 obtain ⟨c1, c2, c3, F1, F2, F3, rfl, rfl, l1, t1, b1⟩ := L.part ht
 have nn := cn.1 n
 have nn2 := cn.1 nn.2.1
 refine ⟨c1, c2, c3, F2, rfl, l1, Ar.len t1, ⟨F2, nn2.1, fun _ h => h, t1⟩, fun b hb => hF b (by simp [hb]), fun G G' y hR hg => hR.mono hg, fun G' y' hs hy => ?_⟩
 obtain ⟨E, e1, e2, e3⟩ := hy
 refine ⟨F1 ++ (E ++ F3), ?_, fun b hb => ?_, b1 G' y' c2 E (fun b hb => hs b fun h => ?_) e3⟩
 ·rw [cn, cn]
  refine ⟨nn.1, ⟨e1, nn2.2.1, fun p hp q hq => nn2.2.2 p (e2 p hp) q hq⟩, fun p hp q hq => nn.2.2 p hp q ?_⟩
  rcases au.1 hq with h | h
  ·simp [e2 q h]
  ·simp [h]
 ·simp only [au] at hb
  rcases hb with h | h | h
  ·exact hF b (by simp [h])
  ·exact hF b (by simp [e2 b h])
  ·exact hF b (by simp [h])
 ·rcases au.1 hb with h' | h'
  ·exact nn.2.2 b h' b (by simp [h]) rfl
  ·exact nn2.2.2 b h b h' rfl
theorem Wz {get : α → β} {set : α → β → α} {off b : Nat} (L : CJ α β get set off) {i : Int} (h : D5 G xs [v] F) (hx : Aa xs i = some x) (hv : v = .sl b 0 xs.length) :
  ∃ cells c1 c2 c3 Fs, G[b]? = some (.cells (AG.sz α) cells) ∧ cells = c1 ++ (c2 ++ c3) ∧ c1.length = i.toNat * AG.sz α + off ∧ c2.length = AG.sz β ∧ TW G (fun G' y => D5 G' (xs.set i.toNat (set x y)) [v] F) F c2 Fs (get x) := by
 obtain ⟨b', cells, F', rfl, hb, hg, ht, hn, hF⟩ := Ql h hx
 cases hv
 obtain ⟨c1, c2, c3, F1, F2, F3, rfl, rfl, l1, t1, b1⟩ := UP L ht hx
 rw [dr] at hn
 obtain ⟨n1, n⟩ := hn
 have nn := cn.1 n
 have nn2 := cn.1 nn.2.1
 refine ⟨_, c1, c2, c3, F2, hg, rfl, l1, Ar.len t1, ⟨F2, nn2.1, fun _ h => h, t1⟩, fun c hc => hF c (by simp [hc]), fun G G' y hR hg => hR.mono hg, fun G' y' hs hy => ?_⟩
 obtain ⟨E, e1, e2, e3⟩ := hy
 refine ⟨b :: (F1 ++ (E ++ F3)), ?_, fun c hc => ?_, .inr ⟨b, _, _, by rw [cp], ?_, b1 G' y' c2 E (fun c hc => hs c fun h => ?_) e3, rfl⟩⟩
 ·rw [dr, cn, cn]
  refine ⟨fun hm => n1 ?_, nn.1, ⟨e1, nn2.2.1, fun p hp q hq => nn2.2.2 p (e2 p hp) q hq⟩, fun p hp q hq => nn.2.2 p hp q ?_⟩
  ·simp only [au] at hm ⊢
   rcases hm with h | h | h
   ·exact .inl h
   ·exact .inr (.inl (e2 b h))
   ·exact .inr (.inr h)
  ·rcases au.1 hq with h | h
   ·simp [e2 q h]
   ·simp [h]
 ·rcases bw.1 hc with rfl | hc
  ·exact hb
  ·simp only [au] at hc
   rcases hc with h | h | h
   ·exact hF c (by simp [h])
   ·exact hF c (by simp [e2 c h])
   ·exact hF c (by simp [h])
 ·rw [hs b fun h => n1 (by simp [h])]; exact hg
 ·rcases au.1 hc with h' | h'
  ·exact nn.2.2 c h' c (by simp [h]) rfl
  ·exact nn2.2.2 c h c h' rfl
theorem Wc (h : D5 G xs [v] F) : Cd v = some xs.length := by
 obtain ⟨F', _, _, ⟨rfl, e, _⟩ | ⟨b, cells, F2, e, _⟩⟩ := h
 ·cases e; rfl
 ·cases e; rfl
theorem Uw {f : V → Option (V × List Nat)} {v v' : V} {M : List Nat} (h : AY.lendL f [v] = some ([v'], M)) : f v = some (v', M) := by
 simp only [AY.lendL, ae, af, Prod.exists, ag, aa] at h
 obtain ⟨a, M1, h1, b, M2, ⟨rfl, rfl⟩, h3, rfl⟩ := h
 simp only [ei, and_true] at h3
 subst h3
 rw [h1, cu]
theorem gG {j : Nat} (hO : A8 H G rs) (hj : rs[j]? = some (Ck S F xs [v])) (lv n : Nat) (hn : fj (Ar.dep (List α)) n = true := by rfl) : ∃ M, AY lv G n v = some (.lit lv xs.length (A9 lv xs), M) := by
 obtain ⟨F', _, _, h⟩ := (hO.tree hj).1
 obtain ⟨M, h1, _⟩ := KP (lv := lv) h (bp hn) 0
 rw [fy] at h1
 exact ⟨M, Uw h1⟩
theorem QM {j : Nat} (hO : A8 H G rs) (hj : rs[j]? = some (Ck S F x cs)) (lv n : Nat) (hn : fj (Ar.dep α) n = true := by rfl) : ∃ M, AY lv G (n + 1) (.agg cs) = some (.agg (AG.BO lv x), M) := by
 obtain ⟨F', _, _, h⟩ := (hO.tree hj).1
 obtain ⟨M, h1, _⟩ := KP (lv := lv) h (bp hn) 0
 rw [fy] at h1
 exact ⟨M, by rw [AY, h1]; rfl⟩
end
section steps
variable {P : bg} {h : BI} {fk n base : Nat} {lk : Lk} {c : Cx} {ops : Array bq} {s kk : Bool} {d : Nat} {ty : ao} {pos : String} {aft : Array Edge} {l : List (Bool × Bool × bq)} {Q : St → Prop} {T : Nat → V} {G G' H H0 : A4} {rs : List Bf} {op : Op} {S F : List Nat}
variable {α β : Type} [AG α] [Ar α] [AG β] [Ar β]
theorem S6 {xs : List α} {i : Int} {x : α} {t e : ao} {y z : aw} {kd : fc} {v : V} (hO : A8 H G rs) (j : Nat) (hc : Aa xs i = some x) (he : B4 P t = some e) (hz : Aw P e = some (AG.sz α)) (k : ∀ b, v = .sl b 0 xs.length → BW (B0 P h fk n base lk) ops l ⟨D4 T d (.ptr b (i.toNat * AG.sz α)), G⟩ Q)
  (h1 : ev T y = some v := by rfl) (h2 : ev T z = some (.int kd i) := by rfl) (hj : rs[j]? = some (Ck S F xs [v]) := by rfl) (hd : cg d n = true := by rfl) :
  BW (B0 P h fk n base lk) ops ((s, kk, ⟨some d, .indexAddr t y z, ty, pos, aft, none⟩) :: l) ⟨T, G⟩ Q := by
 obtain ⟨b, cells, F', rfl, _⟩ := Ql (hO.tree hj).1 hc
 refine pV ?_ hd (k b rfl)
 rw [ER]
 show (B4 P t).bind _ = _
 rw [he, ab]
 show (Aw P e).bind _ = _
 simp only [hz, h1, h2, ab, asInt, Sd, Cd]
 rw [if_pos (Fl hc)]
 simp
theorem PC {xs : List α} {x : aw} {t : ao} {v : V} (hO : A8 H G rs) (j : Nat) (ht : IX P t = some false) (k : BW (B0 P h fk n base lk) ops l ⟨D4 T d (.int .i64 xs.length), G⟩ Q) (h1 : ev T x = some v := by rfl) (hj : rs[j]? = some (Ck S F xs [v]) := by rfl) (hd : cg d n = true := by rfl) :
  BW (B0 P h fk n base lk) ops ((s, kk, ⟨some d, .call ⟨.builtin .len, #[x], #[t]⟩, ty, pos, aft, none⟩) :: l) ⟨T, G⟩ Q := by
 refine BC (b := false) (a := v) ht k h1 ?_ hd
 have := Wc (hO.tree hj).1
 cases v <;> first | exact this | simp [Cd] at this
theorem LW {sz m off b : Nat} {t : ao} {y z : aw} {w : V} (hz : Aw P t = some m) {cells : List V} (hm : ((B0 P h fk n base lk).BQ s kk).BX b = true)
  (hgv : (if b < base then (if h.grow fk then if Bk 1 w then some (w, G) else none else Af base CA G w) else some (w, G)) = some (w, G)) (hg : G[b]? = some (.cells sz cells)) (hf : off + w.cellsOf.length ≤ cells.length) (hl : w.cellsOf.length = m) (hc : w.cellsOf.all V.Ba = true)
  (h1 : ev T y = some (.ptr b off)) (h2 : ev T z = some w) : HX ((B0 P h fk n base lk).BQ s kk) (.store t y z) ⟨T, G⟩ = some (C7, G.set b (.cells sz (C6 cells off w.cellsOf))) := by
 rw [LL]
 simp only [h1, h2, ab, FE]
 rw [if_pos hm]
 have e : (if b < ((B0 P h fk n base lk).BQ s kk).base then (if ((B0 P h fk n base lk).BQ s kk).hints.grow ((B0 P h fk n base lk).BQ s kk).fn then if Bk 1 w then some (w, G) else none else Af ((B0 P h fk n base lk).BQ s kk).base CA G w) else some (w, G)) = some (w, G) := hgv
 rw [e]
 simp only [ab, hg]
 rw [if_pos ⟨by rw [hl]; exact hz, hf, hc⟩]
 rfl
theorem U9 {get : α → β} {set : α → β → α} {off b : Nat} (L : CJ α β get set off) {xs : List α} {i : Int} {x : α} {t : ao} {y z : aw} {v w : V} {y' : β} (hO : A8 H G rs) (j : Nat) (hv : v = .sl b 0 xs.length) (hc : Aa xs i = some x) (hz : Aw P t = some (AG.sz β)) (hw : ∀ G, Ar.tr G y' [w] [])
  (hFr : EK H0 H S) (hS : ∀ b ∈ S, AT lk b = true) (hb : base = H0.length) (k : ∀ H' G', EK H0 H' S → A8 H' G' (rs.set j (Ck S F (xs.set i.toNat (set x y')) [v])) → BW (B0 P h fk n base lk) ops l ⟨T, G'⟩ Q)
  (h1 : ev T y = some (.ptr b (i.toNat * AG.sz α + off)) := by rfl) (h2 : ev T z = some w := by rfl) (hg : h.grow fk = false := by rfl) (hgv : Af base CA G w = some (w, G) := by rfl) (h3 : w.cellsOf = [w] := by rfl) (hj : rs[j]? = some (Ck S F xs [v]) := by rfl) :
  BW (B0 P h fk n base lk) ops ((s, kk, ⟨none, .store t y z, ty, pos, aft, none⟩) :: l) ⟨T, G⟩ Q := by
 obtain ⟨ht, hbd⟩ := hO.tree hj
 obtain ⟨cells, hbF, hgb, hfit, hcell, hput⟩ := Ry (F2 := []) L ht hc hv ⟨[], .nil, fun _ h => h, hw G⟩ (fun _ h => by cases h)
 have hlt := (al.1 hgb).1
 have hlw : [w].length = AG.sz β := Ar.len (hw G)
 rw [cu] at hput
 have hs : ∀ c, c ∉ F → (G.set b (.cells (AG.sz α) (C6 cells (i.toNat * AG.sz α + off) [w])))[c]? = G[c]? := fun c hc => by
  rw [Ab, if_neg]
  rintro ⟨rfl, _⟩; exact hc hbF
 refine bT (LW hz ?_ ?_ hgb (by rw [h3]; exact hfit) (by rw [h3]; exact hlw) (by rw [h3]; exact hcell) h1 h2) (k _ _ (hFr.cP hO hj (cp ..) hs) ?_)
 ·have hbb : base = H.length := hb.trans hFr.1.symm
  subst hbb
  exact Z5 hS (hbd b hbF).2
 ·rw [hg, hgv]; simp
 ·rw [h3]
  exact hO.cP hj (cp ..) hs fun G2 h2 => hput.mono h2
theorem k7 {b : Nat} {xs : List α} {i : Int} {x y' : α} {t : ao} {y z : aw} {v w : V} {F2 : List Nat} {cs : List V} (hO : A8 H G (Ck [] F2 y' cs :: rs)) (j : Nat) (hv : v = .sl b 0 xs.length) (hc : Aa xs i = some x) (hz : Aw P t = some (AG.sz α))
  (hb : base = H.length) (k : ∀ G', A8 H G' (rs.set j (Ck [] (F ++ F2) (xs.set i.toNat y') [v])) → BW (B0 P h fk n base lk) ops l ⟨T, G'⟩ Q)
  (h1 : ev T y = some (.ptr b (i.toNat * AG.sz α)) := by rfl) (h2 : ev T z = some w := by rfl) (h3 : w.cellsOf = cs := by rfl) (hj : rs[j]? = some (Ck [] F xs [v]) := by rfl) :
  BW (B0 P h fk n base lk) ops ((s, kk, ⟨none, .store t y z, ty, pos, aft, none⟩) :: l) ⟨T, G⟩ Q := by
 have hj' : (Ck [] F2 y' cs :: rs)[j + 1]? = some (Ck [] F xs [v]) := hj
 obtain ⟨ht, hbd⟩ := hO.tree hj'
 obtain ⟨ht2, hbd2⟩ := hO.tree (j := 0) (F := F2) (S := []) rfl
 obtain ⟨hj1, hj2⟩ := al.1 hj
 have hap : ∀ c ∈ F2, c ∉ F := fun c hc hc' => (ec.1 hO.apart).1 _ (bh hj) c hc hc'
 obtain ⟨cells, hbF, hgb, hfit, hcell, hput⟩ := Ry CJ.all ht hc hv ht2 hap
 obtain ⟨hlw, _⟩ := ht2.cells
 have hbb : ¬ b < base := fun h => by rw [hb] at h; cases (hbd b hbF).2 h
 have hs : ∀ c, c ∉ F → (G.set b (.cells (AG.sz α) (C6 cells (i.toNat * AG.sz α + 0) cs)))[c]? = G[c]? := fun c hc => by
  rw [Ab, if_neg]
  rintro ⟨rfl, _⟩; exact hc hbF
 subst h3
 refine bT (LW hz ?_ (if_neg hbb) hgb (by simpa using hfit) hlw hcell h1 h2) (k _ ?_)
 ·unfold Cx.BX
  simp only [de, decide_eq_true_eq]
  exact .inl (dt.1 hbb)
 ·obtain ⟨hO1, hO2, hO3, hO4⟩ := hO
  have hlt := (al.1 hgb).1
  have hp := cr.1 (ec.1 hO4).2
  refine ⟨fun c hc => ?_, by rw [cp]; exact hO2, fun r hr => ?_, ?_⟩
  ·rw [Ab, if_neg]
   ·exact hO1 c hc
   ·rintro ⟨rfl, _⟩; exact hbb (by rw [hb]; exact hc)
  ·obtain ⟨q, hq, e⟩ := dh.1 hr
   rw [cp] at hq
   rw [ef] at e
   split at e
   ·subst e
    refine Kl hput fun c hc => ?_
    rw [cp]
    rcases au.1 hc with hc | hc
    ·exact hbd c hc
    ·exact hbd2 c hc
   ·rename_i hjq
    subst e
    refine Bf.FA (hO3 _ (ca _ (dc hq))) fun c hc => hs c fun hcF => ?_
    rcases bz q j with h | h
    ·exact hp q j hq hj1 h c hc (by rw [hj2]; exact hcF)
    ·exact hp j q hj1 hq (by omega) c (by rw [hj2]; exact hcF) hc
  ·rw [cr]
   have key : ∀ q (hq : q < rs.length), q ≠ j → ∀ c ∈ F ++ F2, c ∉ rs[q].DC := fun q hq hqj c hc hc' => by
    rcases au.1 hc with hc | hc
    ·rcases bz q j with h | h
     ·exact hp q j hq hj1 h c hc' (by rw [hj2]; exact hc)
     ·exact hp j q hj1 hq (by omega) c (by rw [hj2]; exact hc) hc'
    ·exact (ec.1 hO4).1 _ (dc hq) c hc hc'
   intro p q hp' hq' hpq c hc hc'
   rw [cp] at hp' hq'
   rw [ef] at hc hc'
   split at hc
   ·rename_i e; subst e
    rw [if_neg (by omega)] at hc'
    exact key q hq' (by omega) c hc hc'
   ·split at hc'
    ·rename_i e; subst e
     exact key p hp' (by omega) c hc' hc
    ·exact hp p q hp' hq' hpq c hc hc'
theorem lJ {γ : Type} [AG γ] [Ar γ] {get : α → List γ} {set : α → List γ → α} {off b : Nat} (L : CJ α (List γ) get set off) {xs : List α} {i : Int} {x : α} {t : ao} {y : aw} {v : V} (hO : A8 H G rs) (j : Nat) (hv : v = .sl b 0 xs.length) (hc : Aa xs i = some x) (ha : D6 P t = some false)
  (k : ∀ u Fs, TW G (fun G' y => D5 G' (xs.set i.toNat (set x y)) [v] F) F [u] Fs (get x) → BW (B0 P h fk n base lk) ops l ⟨D4 T d u, G⟩ Q) (h1 : ev T y = some (.ptr b (i.toNat * AG.sz α + off)) := by rfl) (hj : rs[j]? = some (Ck S F xs [v]) := by rfl) (hd : cg d n = true := by rfl) :
  BW (B0 P h fk n base lk) ops ((s, kk, ⟨some d, .load t y, ty, pos, aft, none⟩) :: l) ⟨T, G⟩ Q := by
 obtain ⟨cells, c1, c2, c3, Fs, hg, rfl, hl, hl2, hs⟩ := Wz L (hO.tree hj).1 hc hv
 obtain ⟨u, rfl⟩ := ie.1 (show c2.length = 1 from hl2)
 refine iY u hg ?_ (k u Fs hs) h1 hd
 unfold BH
 rw [ha]
 show (c1 ++ ([u] ++ c3))[i.toNat * AG.sz α + off]? = some u
 rw [← hl, cd (ak _), gq]; rfl
theorem Wq {γ : Type} [AG γ] [Ar γ] {get : α → List γ} {set : α → List γ → α} {off b m : Nat} (L : CJ α (List γ) get set off) {x : α} {cs : List V} {t : ao} {y : aw} (hO : A8 H G rs) (jb j : Nat) (ha : D6 P t = some false)
  (k : ∀ u Fs, TW G (fun G' y => D5 G' (set x y) cs F) F [u] Fs (get x) → BW (B0 P h fk n base lk) ops l ⟨D4 T d u, G⟩ Q) (h1 : ev T y = some (.ptr b off) := by rfl) (hjb : rs[jb]? = some (.B6 b (.cells m cs)) := by rfl) (hj : rs[j]? = some (Ck S F x cs) := by rfl) (hd : cg d n = true := by rfl) :
  BW (B0 P h fk n base lk) ops ((s, kk, ⟨some d, .load t y, ty, pos, aft, none⟩) :: l) ⟨T, G⟩ Q := by
 obtain ⟨c1, c2, c3, Fs, rfl, hl, hl2, hs⟩ := OH L (hO.tree hj).1
 obtain ⟨u, rfl⟩ := ie.1 (show c2.length = 1 from hl2)
 refine iY u (hO.get hjb).1 ?_ (k u Fs hs) h1 hd
 unfold BH
 rw [ha]
 show (c1 ++ ([u] ++ c3))[off]? = some u
 rw [← hl, cd (ak _), gq]; rfl
theorem jW {get : α → β} {set : α → β → α} {off b m : Nat} (L : CJ α β get set off) {x : α} {cs : List V} {t : ao} {y : aw} (hO : A8 H G rs) (jb j : Nat) (ha : D6 P t = some true) (hz : Aw P t = some (AG.sz β))
  (k : ∀ cs2 Fs, TW G (fun G' y => D5 G' (set x y) cs F) F cs2 Fs (get x) → BW (B0 P h fk n base lk) ops l ⟨D4 T d (.agg cs2), G⟩ Q) (h1 : ev T y = some (.ptr b off) := by rfl) (hjb : rs[jb]? = some (.B6 b (.cells m cs)) := by rfl) (hj : rs[j]? = some (Ck S F x cs) := by rfl) (hd : cg d n = true := by rfl) :
  BW (B0 P h fk n base lk) ops ((s, kk, ⟨some d, .load t y, ty, pos, aft, none⟩) :: l) ⟨T, G⟩ Q := by
 obtain ⟨c1, c2, c3, Fs, rfl, hl, hl2, hs⟩ := OH L (hO.tree hj).1
 refine iY (.agg c2) (hO.get hjb).1 ?_ (k c2 Fs hs) h1 hd
 unfold BH
 simp only [ha, hz, ab]
 rw [if_pos (by simp only [aq]; omega), ← hl, mH rfl, ← hl2, mG rfl]
theorem Wp {x : α} {cs : List V} {t : ao} {y : aw} (hO : A8 H G rs) (j : Nat) (hz : Aw P t = some (AG.sz α)) (k : ∀ b G', A8 H G' (.B6 b (.cells (AG.sz α) cs) :: rs) → BW (B0 P h fk n base lk) ops l ⟨D4 T d (.ptr b 0), G'⟩ Q) (h1 : ev T y = some (.agg cs) := by rfl) (hj : rs[j]? = some (Ck S F x cs) := by rfl) (hd : cg d n = true := by rfl) :
  BW (B0 P h fk n base lk) ops ((s, kk, ⟨some d, .box t y, ty, pos, aft, none⟩) :: l) ⟨T, G⟩ Q := by
 obtain ⟨e1, e2⟩ := (hO.tree hj).1.cells
 refine pV ?_ hd (k _ _ (hO.alloc (.cells (AG.sz α) cs)))
 rw [U5]
 show (Aw P t).bind _ = _
 simp only [hz, h1, ab, V.cellsOf, e2, if_true]
def Vi (a b : ByteArray) : Option ByteArray := if a.size + b.size ≤ 1099511627776 then some (a ++ b) else none
theorem gP {t t2 : ao} {x y : aw} {a b cc : ByteArray} (hc : Vi a b = some cc) (k : BW (B0 P h fk n base lk) ops l ⟨D4 T d (.str cc), G⟩ Q) (h1 : ev T x = some (.str a) := by rfl) (h2 : ev T y = some (.str b) := by rfl) (hd : cg d n = true := by rfl) :
  BW (B0 P h fk n base lk) ops ((s, kk, ⟨some d, .binOp .add t x y t2, ty, pos, aft, none⟩) :: l) ⟨T, G⟩ Q := by
 refine pB k h1 h2 ?_ hd
 unfold Vi at hc
 split at hc
 ·rename_i hr
  simp only [aa] at hc
  subst hc
  exact if_pos hr
 ·cases hc
structure U8 where
 n : Int
instance : AG U8 := ⟨1, fa, fun _ x => [.int .u8 x.n], fun _ => rfl, fun _ _ => rfl, fun _ => rfl⟩
def SD (ys : List U8) : ByteArray := ys.foldl (fun r y => r.push (UInt8.ofNat y.n.toNat)) ByteArray.empty
theorem Qx : ∀ (ys : List U8) (acc : ByteArray), Ic acc ((A9 0) ys) = some (ys.foldl (fun r y => r.push (UInt8.ofNat y.n.toNat)) acc)
 | [], acc => rfl
 | y :: ys, acc => by
  show Ic (acc.push (UInt8.ofNat y.n.toNat)) ((A9 0) ys) = _
  rw [Qx ys]; rfl
theorem jV {src dst e : ao} {x : aw} {ys : List U8} (h1 : P.underlying src = some (.slice e)) (h2 : P.underlying dst = some .string) (he : P.underlying e = some (.int .u8)) (k : BW (B0 P h fk n base lk) ops l ⟨D4 T d (.str (SD ys)), G⟩ Q)
  (hx : ev T x = some (.tl ys.length ((A9 0) ys)) := by rfl) (hd : cg d n = true := by rfl) :
  BW (B0 P h fk n base lk) ops ((s, kk, ⟨some d, .convert src dst x, ty, pos, aft, none⟩) :: l) ⟨T, G⟩ Q := by
 refine pV ?_ hd k
 unfold HX C5
 have h1' : ((B0 P h fk n base lk).BQ s kk).P.underlying src = some (.slice e) := h1
 have h2' : ((B0 P h fk n base lk).BQ s kk).P.underlying dst = some .string := h2
 have he' : jB ((B0 P h fk n base lk).BQ s kk).P e = true := by unfold jB; rw [show ((B0 P h fk n base lk).BQ s kk).P.underlying e = some (.int .u8) from he]
 simp only [h1', h2', hx]
 rw [if_pos ⟨by rw [CB]; show _ = ys.length * 1; omega, he'⟩, Qx]
 rfl
end steps
section
variable {P : bg} {h : BI} {fk n base : Nat} {lk : Lk} {c : Cx} {ops : Array bq} {s kk : Bool} {d : Nat} {ty : ao} {pos : String} {aft : Array Edge} {l : List (Bool × Bool × bq)} {Q : St → Prop} {T : Nat → V} {G G' H H0 : A4} {rs : List Bf} {op : Op} {S F : List Nat}
variable {α β : Type} [AG α] [Ar α] [AG β] [Ar β]
theorem Km {lk : Lk} {b : Nat} (h : AT lk b = true) : AT (lk ++ [[]]) b = true := by
 unfold AT at h ⊢
 rw [dk, h]; rfl
theorem OQ.fZ {lk : Lk} {n b : Nat} (h : OQ lk n) (hb : n ≤ b) : AT lk b = true := by
 unfold AT
 rw [cb]
 intro l hl
 simp only [ft, ← mC, lT]
 intro hx
 exact absurd (h l hl b hx) (dt.2 hb)
theorem Qy {f : aw} {args : Array aw} {ats : Array ao} {g : fh} {caps vs vs' : List V} {r : V} (hr : Ai P h g vs' G (lk ++ [[]]) = some (r, G')) (h1 : ev T f = some (.fn g caps)) (h2 : Oq T args.toList = some vs)
  (h3 : Ah ((B0 P h fk n base lk).BQ s false) (h.Es g) G (vs ++ caps) = some (vs', [], G)) (hg : h.grow g = false) : HX ((B0 P h fk n base lk).BQ s false) (.call ⟨.value f, args, ats⟩) ⟨T, G⟩ = some (r, G') := by
 rw [J1]
 simp only [h1, h2, ab, SR]
 show (Ah ((B0 P h fk n base lk).BQ s false) (h.Es g) G (vs ++ caps)).bind _ = _
 rw [h3]
 have e : ((B0 P h fk n base lk).BQ s false).DB g [] G = [] := by
  unfold Cx.DB
  have e1 : ((B0 P h fk n base lk).BQ s false).calm = false := rfl
  have e2 : ((B0 P h fk n base lk).BQ s false).hints.grow g = false := hg
  rw [e1, e2]; rfl
 simp only [ab, e]
 exact hr
theorem dD {f : aw} {args : Array aw} {ats : Array ao} {g : fh} {vs vs' cs : List V} {r : V} {R : A4 → β → Prop} {Fs : List Nat} {y y' : β} {p : A4 → Prop} (hO : A8 H G rs) (j : Nat) (hsub : TW G R F cs Fs y) (hF : ∀ b ∈ F, b ∈ S) (hFr : EK H0 H S) (hS : ∀ b ∈ S, AT lk b = true)
  (hr : (∀ b ∈ Fs, b < G.length) → (∀ b ∈ Fs, AT (lk ++ [[]]) b = true) → D5 G y cs Fs → ∃ v H1, Ai P h g vs' G (lk ++ [[]]) = some (v, H1) ∧ v = r ∧ D5 H1 y' cs Fs ∧ H1.length = G.length ∧ ∀ b, b ∉ Fs → H1[b]? = G[b]?)
  (k : ∀ H' G', EK H0 H' S → A8 H' G' (rs.set j (.tree S F fun G => R G y')) → BW (B0 P h fk n base lk) ops l ⟨D4 T d r, G'⟩ Q)
  (hj : rs[j]? = some (.tree S F p) := by rfl) (h1 : ev T f = some (.fn g []) := by rfl) (h2 : Oq T args.toList = some vs := by rfl) (h3 : Ah ((B0 P h fk n base lk).BQ s false) (h.Es g) G (vs ++ []) = some (vs', [], G) := by rfl) (hg : h.grow g = false := by rfl) (hd : cg d n = true := by rfl) :
  BW (B0 P h fk n base lk) ops ((s, false, ⟨some d, .call ⟨.value f, args, ats⟩, ty, pos, aft, none⟩) :: l) ⟨T, G⟩ Q := by
 obtain ⟨v, H1, hv, rfl, ht, hl, hs⟩ := hr (fun b hb => ((hO.tree hj).2 b (hsub.sub b hb)).1) (fun b hb => Km (hS b (hF b (hsub.sub b hb)))) hsub.tr
 have hs' : ∀ b, b ∉ F → H1[b]? = G[b]? := fun b hb => hs b fun h => hb (hsub.sub b h)
 exact pV (Qy hv h1 h2 h3 hg) hd (k _ _ (hFr.cP hO hj hl hs') (hO.cP hj hl hs' fun G2 h2 => hsub.fr _ _ _ (hsub.back H1 y' hs ht) h2))
theorem Z3 {f : aw} {args : Array aw} {ats : Array ao} {g : fh} {vs vs' cs : List V} {r : V} {R : A4 → β → Prop} {Fs : List Nat} {y y' : β} {p : A4 → Prop} (hO : A8 H G rs) (j : Nat) (hsub : TW G R F cs Fs y) (hlo : OQ lk H.length)
  (hr : (∀ b ∈ Fs, b < G.length) → (∀ b ∈ Fs, AT (lk ++ [[]]) b = true) → D5 G y cs Fs → ∃ v H1, Ai P h g vs' G (lk ++ [[]]) = some (v, H1) ∧ v = r ∧ D5 H1 y' cs Fs ∧ H1.length = G.length ∧ ∀ b, b ∉ Fs → H1[b]? = G[b]?)
  (k : ∀ G', A8 H G' (rs.set j (.tree [] F fun G => R G y')) → BW (B0 P h fk n base lk) ops l ⟨D4 T d r, G'⟩ Q)
  (hj : rs[j]? = some (.tree [] F p) := by rfl) (h1 : ev T f = some (.fn g []) := by rfl) (h2 : Oq T args.toList = some vs := by rfl) (h3 : Ah ((B0 P h fk n base lk).BQ s false) (h.Es g) G (vs ++ []) = some (vs', [], G) := by rfl) (hg : h.grow g = false := by rfl) (hd : cg d n = true := by rfl) :
  BW (B0 P h fk n base lk) ops ((s, false, ⟨some d, .call ⟨.value f, args, ats⟩, ty, pos, aft, none⟩) :: l) ⟨T, G⟩ Q := by
 have hun : ∀ b ∈ F, AT lk b = true := fun b hb => hlo.fZ (dt.1 fun h => by cases ((hO.tree hj).2 b hb).2 h)
 obtain ⟨v, H1, hv, rfl, ht, hl, hs⟩ := hr (fun b hb => ((hO.tree hj).2 b (hsub.sub b hb)).1) (fun b hb => Km (hun b (hsub.sub b hb))) hsub.tr
 have hs' : ∀ b, b ∉ F → H1[b]? = G[b]? := fun b hb => hs b fun h => hb (hsub.sub b h)
 exact pV (Qy hv h1 h2 h3 hg) hd (k _ (hO.jI hj hl hs' fun G2 h2 => hsub.fr _ _ _ (hsub.back H1 y' hs ht) h2))
theorem TW.all {j : Nat} {x : α} {cs : List V} (hO : A8 H G rs) (hj : rs[j]? = some (Ck S F x cs)) : TW G (fun G' y => D5 G' y cs F) F cs F x :=
 ⟨(hO.tree hj).1, fun _ h => h, fun _ _ _ hR hg => hR.mono hg, fun _ _ _ h => h⟩
theorem Dj {x : α} {cs : List V} (h : D5 H x cs F) (hF : ∀ b ∈ F, b < H.length) : A8 H H [Ck F F x cs] where
 pre := fun _ _ => rfl
 len := ak _
 ok := fun r hr => by
  simp only [bl] at hr
  subst hr
  exact Kl h fun b hb => ⟨hF b hb, fun _ => hb⟩
 apart := List.pairwise_singleton ..
theorem Q8 {x : α} {cs : List V} {k d : Nat} {lr : List dv} {vs : List V} {v : V} {xx : X} (hO : A8 H G rs) (j : Nat) (hFr : EK H0 H F) (hF : ∀ b ∈ F, b < H0.length) (hj : rs[j]? = some (Ck F F x cs) := by rfl) (h1 : Av P G T lr = some vs := by rfl) (h2 : Et vs = v := by rfl)
  (h3 : Au (h.Qj k) H0.length d CA (G, []) v = some (v, (G, [])) := by rfl) (hg : h.grow k = false := by rfl) (hx : xx = .normal ∨ xx = .ret := by first | exact Or.inl rfl | exact Or.inr rfl) :
  VZ P h k H0.length d lr (fun v1 H1 => v1 = v ∧ D5 H1 x cs F ∧ H1.length = H0.length ∧ ∀ b, b ∉ F → H1[b]? = H0[b]?) xx ⟨T, G⟩ := by
 have hl : H0.length ≤ G.length := by rw [← hFr.1]; exact hO.len
 refine ⟨hx, v, G.take H0.length, ?_, rfl, (hO.tree hj).1.mono fun b hb => ?_, by rw [dq]; omega, fun b hb => ?_⟩
 ·simp only [h1, ab, h2, EE, hg, ba, if_false, h3, ai, cu]
 ·rw [dn, if_pos (hF b hb)]
 ·rw [dn]
  split
  ·rename_i hlt
   rw [hO.pre b (by rw [hFr.1]; exact hlt)]
   exact hFr.2 b hb
  ·rename_i hge
   rw [bf (by omega)]
def MW {α : Type} [AG α] [Ar α] (n : Nat) (H : A4) (d : Nat) (rs : List Bf) (cs : List V) (x : α) (rs' : List Bf) : Prop := ∀ X : A4 × List Bb, A8 H X.1 rs → ∀ k, ∃ cs' X1 L F', Au.resL (Au true H.length d (k + n)) X cs = some (cs', X1, X.2 ++ L) ∧ A8 H X1 rs' ∧ F'.Nodup ∧
 (∀ b ∈ F', H.length + X.2.length ≤ b ∧ b < H.length + X.2.length + L.length) ∧ ∀ A : A4, A.length = H.length → Ar.tr (A ++ (X.2 ++ L)) x cs' F'
variable {rs1 rs2 : List Bf} {dd : Nat}
theorem Bo (x : Int) : MW 1 H dd rs [.int .i64 x] x rs := fun X hO k => ⟨_, X.1, [], [], by rw [cu]; rfl, hO, .nil, fun b hb => (by cases hb), fun _ _ => ⟨rfl, rfl⟩⟩
theorem cL (x : ByteArray) : MW 1 H dd rs [.str x] x rs := fun X hO k => ⟨_, X.1, [], [], by rw [cu]; rfl, hO, .nil, fun b hb => (by cases hb), fun _ _ => ⟨rfl, rfl⟩⟩
theorem LZ (α : Type) [AG α] [Ar α] : MW 1 H dd rs [.tl 0 []] ([] : List α) rs := fun X hO k => ⟨[.tl 0 []], X.1, [], [], by rw [cu]; rfl, hO, .nil, fun b hb => (by cases hb), fun _ _ => .inl ⟨rfl, rfl, rfl⟩⟩
theorem Zk {n m : Nat} (hm : n ≤ m) {cs : List V} {x : α} (h : MW n H dd rs cs x rs1) : MW m H dd rs cs x rs1 := fun X hO k => by
 have := h X hO (k + (m - n))
 rwa [show k + (m - n) + n = k + m by omega] at this
theorem Ad {n m : Nat} {c1 c2 : List V} {x : α} {y : β} (h1 : MW n H dd rs c1 x rs1) (h2 : MW m H dd rs1 c2 y rs2) : MW (max n m) H dd rs (c1 ++ c2) (x, y) rs2 := fun X hO k => by
 obtain ⟨c1', X1, L1, F1, e1, o1, n1, b1, r1⟩ := Zk (gi n m) h1 X hO k
 obtain ⟨c2', X2, L2, F2, e2, o2, n2, b2, r2⟩ := Zk (gh n m) h2 (X1, X.2 ++ L1) o1 k
 simp only [aq] at b2
 refine ⟨c1' ++ c2', X2, L1 ++ L2, F1 ++ F2, by rw [← bj]; exact HE e1 e2, o2, ?_, fun b hb => ?_, fun A hA => ⟨c1', c2', F1, F2, rfl, rfl, Ar.frame (r1 A hA) fun b hb => ?_, by rw [← bj X.2]; exact r2 A hA⟩⟩
 ·rw [cn]
  refine ⟨n1, n2, fun x hx y hy e => ?_⟩
  have := b1 x hx
  have := b2 y hy
  omega
 ·rw [aq]
  rcases au.1 hb with hb | hb
  ·have := b1 b hb; omega
  ·have := b2 b hb; omega
 ·rw [← bj X.2, ← bj A (X.2 ++ L1), az]
  rw [aq, aq, hA]
  have := b1 b hb
  omega
theorem Vo {j : Nat} (hO : A8 H G rs) {p : A4 → Prop} (hj : rs[j]? = some (.tree [] F p)) (hl : H.length ≤ G'.length) (hs : ∀ b, b ∉ F → G'[b]? = G[b]?) : A8 H G' (rs.eraseIdx j) where
 pre := fun b hb => by rw [hs b fun h => by cases ((hO.tree hj).2 b h).2 hb]; exact hO.pre b hb
 len := hl
 ok := fun r hr => by
  obtain ⟨i, hi, e⟩ := dh.1 hr
  rw [jo] at e
  obtain ⟨hj1, hj2⟩ := al.1 hj
  have hp := cr.1 hO.apart
  have hi2 : i < rs.length - 1 := by rw [js] at hi; split at hi <;> omega
  split at e
  ·rename_i h
   subst e
   exact Bf.FA (hO.ok _ (dc (by omega))) fun y hy => hs y fun hyF => hp i j (by omega) hj1 h y hy (by rw [hj2]; exact hyF)
  ·rename_i h
   subst e
   exact Bf.FA (hO.ok _ (dc (by omega))) fun y hy => hs y fun hyF => hp j (i + 1) hj1 (by omega) (by omega) y (by rw [hj2]; exact hyF) hy
 apart := hO.apart.sublist (fw _ _)
theorem GQ {x : α} {cs : List V} (j : Nat) (hj : rs[j]? = some (Ck [] F x cs) := by rfl) : MW (Ar.dep α) H dd rs cs x (rs.eraseIdx j) := fun X hO k => by
 obtain ⟨⟨F', n, hF, ht⟩, hbd⟩ := hO.tree hj
 obtain ⟨cs', X1, L, F2, e, s1, n1, b1, r1⟩ := Ar.res ht n H.length dd (fun b hb => dt.1 fun h => by cases (hbd b (hF b hb)).2 h) k X fun _ _ => rfl
 refine ⟨cs', X1, L, F2, e, ?_, n1, b1, r1⟩
 have hs : ∀ b, b ∉ F → X1[b]? = X.1[b]? := fun b hb => s1 b fun h => hb (hF b h)
 refine Vo hO hj ?_ hs
 rcases jh H.length with h0 | h0
 ·omega
 ·have h1 : X1[H.length - 1]? = X.1[H.length - 1]? := hs _ fun h => by cases (hbd _ h).2 (by omega)
  have h2 : H.length - 1 < X.1.length := by have := hO.len; omega
  rw [aj h2] at h1
  have := (al.1 h1).1
  omega
class Cj (α : Type) [AG α] [Ar α] : Prop where
 fl : ∀ G (x : α), Ar.tr G x (AG.BO 0 x) []
 Xd : ∀ l (x : α), AG.BO l x = AG.BO 0 x
 pos : 0 < Ar.dep α
instance : Cj Int := ⟨fun _ _ => ⟨rfl, rfl⟩, fun _ _ => rfl, fa⟩
instance : Cj Bool := ⟨fun _ _ => ⟨rfl, rfl⟩, fun _ _ => rfl, fa⟩
instance : Cj ByteArray := ⟨fun _ _ => ⟨rfl, rfl⟩, fun _ _ => rfl, fa⟩
instance [Cj α] [Cj β] : Cj (α × β) := ⟨fun G x => ⟨_, _, [], [], rfl, rfl, Cj.fl G x.1, Cj.fl G x.2⟩, fun l x => by show AG.BO l x.1 ++ AG.BO l x.2 = AG.BO 0 x.1 ++ AG.BO 0 x.2; rw [Cj.Xd l x.1, Cj.Xd l x.2], ck (Cj.pos (α := α)) (gi _ _)⟩
theorem JG [Cj α] (l : Nat) : ∀ (xs : List α), A9 l xs = (A9 0) xs
 | [] => rfl
 | x :: xs => by rw [CQ, CQ, Cj.Xd, JG l xs]
theorem Np [Cj α] {xs : List α} {v : V} {j : Nat} (hO : A8 H G rs) (hj : rs[j]? = some (Ck S F xs [v])) (lv n : Nat) (hn : fj (Ar.dep (List α)) n = true := by rfl) : ∃ M, AY lv G n v = some (.lit lv xs.length ((A9 0) xs), M) := by
 have := gG hO hj lv n hn
 rwa [JG] at this
theorem Tv [Cj α] : ∀ (xs : List α), Oe Ar.tr G xs ((A9 0) xs) []
 | [] => ⟨rfl, rfl⟩
 | x :: xs => ⟨_, _, [], [], rfl, rfl, Cj.fl G x, Tv xs⟩
theorem TL [Cj α] {xs : List α} {v : V} {X : A4 × List Bb} {X1 : A4} {k : Nat} (hO : A8 H X1 rs1) (h : Au true H.length dd k X v = some (.sl (H.length + X.2.length) 0 xs.length, X1, X.2 ++ [.cells (AG.sz α) ((A9 0) xs)])) :
  ∃ cs' X1 L F', Au.resL (Au true H.length dd k) X [v] = some (cs', X1, X.2 ++ L) ∧ A8 H X1 rs1 ∧ F'.Nodup ∧ (∀ b ∈ F', H.length + X.2.length ≤ b ∧ b < H.length + X.2.length + L.length) ∧ ∀ A : A4, A.length = H.length → Ar.tr (A ++ (X.2 ++ L)) xs cs' F' := by
 refine ⟨[.sl (H.length + X.2.length) 0 xs.length], X1, [.cells (AG.sz α) ((A9 0) xs)], [H.length + X.2.length], by simp only [Au.resL, h, ab, ai], hO, by simp, fun c hc => ?_, fun A hA => .inr ⟨_, _, [], rfl, ?_, Tv xs, rfl⟩⟩
 ·simp only [bl] at hc
  subst hc
  exact ⟨ak _, by simp⟩
 ·rw [← bj, cd (by rw [aq, hA]; exact ak _), aq, hA, gq]; rfl
theorem La [Cj α] {xs : List α} {v : V} {d1 sz : Nat} (hz : Nz v) (hd : 0 < dd) (j : Nat) (hj : rs[j]? = some (.own v d1 sz xs.length ((A9 0) xs)) := by rfl) (hdd : d1 = dd := by rfl) (hsz : sz = AG.sz α := by rfl) : MW 2 H dd rs [v] xs (rs.eraseIdx j) := fun X hO k => by
 subst hdd hsz
 obtain ⟨hl, rfl | ⟨b, rfl, hbb, hgb⟩⟩ := hO.own hj
 ·have h0 := hz _ _ rfl
  have : xs = [] := bx h0
  subst this
  exact ⟨[.tl 0 []], X.1, [], [], by rw [cu]; rfl, hO.drop (fw _ _), .nil, fun b hb => (by cases hb), fun _ _ => .inl ⟨rfl, rfl, rfl⟩⟩
 ·refine TL (hO.kill hj rfl) ?_
  have hcl := Gi (th := true) (lo := H.length) (d := d1) (k := k) (X := (X.1.set b .dead, X.2)) ((A9 0) xs) (FW hd fa _ (DA xs)) (D1 xs)
  rw [Au]
  simp only [hgb]
  rw [if_neg (by omega), hcl]
  simp only [ab, if_true]
  rw [if_pos hl]
theorem MR [Cj α] {xs : List α} {b sz m : Nat} (hl : xs.length = m) (hd : 0 < dd) (j : Nat) (hsz : sz = AG.sz α := by rfl) (hj : rs[j]? = some (.B6 b (.cells sz ((A9 0) xs))) := by rfl) : MW 2 H dd rs [.sl b 0 m] xs (rs.eraseIdx j) := fun X hO k => by
 subst hl hsz
 obtain ⟨hgb, hbb⟩ := hO.get hj
 refine TL (hO.kill hj rfl) ?_
 have hcl := Gi (th := true) (lo := H.length) (d := dd) (k := k) (X := (X.1.set b .dead, X.2)) ((A9 0) xs) (FW hd fa _ (DA xs)) (D1 xs)
 have e0 : ¬ (((A9 0) xs).length < 0 + xs.length * AG.sz α) := by rw [CB]; omega
 have e1 : (kf 0 ((A9 0) xs)).take (xs.length * AG.sz α) = (A9 0) xs := by rw [ga]; exact eh (by rw [CB]; exact ak _)
 rw [Au, if_neg (by omega)]
 simp only [hgb]
 rw [if_neg e0, e1, hcl]
 simp only [ab, if_true]
 rw [if_pos ⟨trivial, by rw [CB]⟩]
def Jf {α : Type} [AG α] [Ar α] (H : A4) (xs : List α) (v : V) (H1 : A4) : Prop := ∃ L F, H1 = H ++ L ∧ F.Nodup ∧ (∀ b ∈ F, H.length ≤ b) ∧ Ar.tr H1 xs [v] F
def HM {α : Type} [AG α] [Ar α] (H : A4) (x : α) (v : V) (H1 : A4) : Prop := ∃ cs L F, v = .agg cs ∧ H1 = H ++ L ∧ F.Nodup ∧ (∀ b ∈ F, H.length ≤ b) ∧ Ar.tr H1 x cs F
theorem NL {xs : List α} {n k : Nat} {lr : List dv} {vs : List V} {v : V} {xx : X} (hO : A8 H G rs) (hz : MW n H dd rs [v] xs rs1) (h1 : Av P G T lr = some vs) (h2 : Et vs = v := by rfl) (hn : fj n CA = true := by rfl) (hg : h.grow k = false := by rfl) (ht : h.Qj k = true := by rfl) (hx : xx = .normal ∨ xx = .ret := by first | exact Or.inl rfl | exact Or.inr rfl) :
  VZ P h k H.length dd lr (Jf H xs) xx ⟨T, G⟩ := by
 obtain ⟨cs', X1, L, F', e, o, n1, b1, r1⟩ := hz (G, []) hO (CA - n)
 rw [lz (bp hn)] at e
 have hr := r1 H rfl
 obtain ⟨v', rfl⟩ := ie.1 (show cs'.length = 1 from Ar.len hr)
 have e' : Au true H.length dd CA (G, []) v = some (v', X1, L) := by
  simp only [Au.resL, ae, af, Prod.exists, ag, aa] at e
  obtain ⟨a, H2, L2, q1, w, H3, L3, ⟨rfl, rfl, rfl⟩, q3, rfl, q4⟩ := e
  simp only [ei, and_true] at q3
  simp only [ff] at q4
  subst q3 q4
  exact q1
 refine ⟨hx, v', H ++ L, ?_, L, F', rfl, n1, fun b hb => (b1 b hb).1, by simpa using hr⟩
 simp only [h1, ab, h2, EE, hg, ba, if_false, ht, e', ai, o.out]
theorem Ez {x : α} {cs : List V} {n k : Nat} {lr : List dv} {vs : List V} {xx : X} (hO : A8 H G rs) (hz : MW n H dd rs cs x rs1) (h1 : Av P G T lr = some vs) (h2 : Et vs = .agg cs := by rfl) (hn : fj (n + 1) CA = true := by rfl) (hg : h.grow k = false := by rfl) (ht : h.Qj k = true := by rfl) (hx : xx = .normal ∨ xx = .ret := by first | exact Or.inl rfl | exact Or.inr rfl) :
  VZ P h k H.length dd lr (HM H x) xx ⟨T, G⟩ := by
 have hn' := bp hn
 obtain ⟨cs', X1, L, F', e, o, n1, b1, r1⟩ := hz (G, []) hO (CA - 1 - n)
 rw [show CA - 1 - n + n = CA - 1 by omega] at e
 have hr := r1 H rfl
 have e' : Au true H.length dd CA (G, []) (.agg cs) = some (.agg cs', X1, L) := by
  show (Au.resL (Au true H.length dd (CA - 1)) (G, []) cs).map _ = _
  rw [e]; rfl
 refine ⟨hx, .agg cs', H ++ L, ?_, cs', L, F', rfl, rfl, n1, fun b hb => (b1 b hb).1, by simpa using hr⟩
 simp only [h1, ab, h2, EE, hg, ba, if_false, ht, e', ai, o.out]
theorem A8.fresh {x : α} {cs : List V} {L : List Bb} (hO : A8 H G rs) (hn : F.Nodup) (hb : ∀ b ∈ F, G.length ≤ b) (ht : Ar.tr (G ++ L) x cs F) : A8 H (G ++ L) (Ck [] F x cs :: rs) where
 pre := fun b hb => by rw [az (ck hb hO.len)]; exact hO.pre b hb
 len := by rw [aq]; have := hO.len; omega
 ok := fun r hr => by
  rcases bw.1 hr with rfl | hr
  ·refine Kl ⟨F, hn, fun _ h => h, ht⟩ fun b h => ⟨Ar.bound ht b h, fun hlt => ?_⟩
   have := hb b h
   have := hO.len
   omega
  ·have h1 := hO.ok r hr
   exact Bf.FA h1 fun x hx => by rw [az (Bf.H9 h1 hx)]
 apart := ec.2 ⟨fun r hr x hx hx' => by
  have := Bf.H9 (hO.ok r hr) hx'
  have := hb x hx
  omega, hO.apart⟩
theorem Zd {f : aw} {args : Array aw} {ats : Array ao} {g : fh} {caps vs vs' : List V} {M : List Nat} {xs : List α} (hO : A8 H G rs) (hr : ∀ L, ∃ v H1, Ai P h g vs' G (lk ++ [L]) = some (v, H1) ∧ Jf G xs v H1)
  (k : ∀ v F G', A8 H G' (Ck [] F xs [v] :: rs) → BW (B0 P h fk n base lk) ops l ⟨D4 T d v, G'⟩ Q) (h1 : ev T f = some (.fn g caps) := by rfl) (h2 : Oq T args.toList = some vs := by rfl)
  (h3 : Ah ((B0 P h fk n base lk).BQ s kk) (h.Es g) G (vs ++ caps) = some (vs', M, G) := by rfl) (hd : cg d n = true := by rfl) :
  BW (B0 P h fk n base lk) ops ((s, kk, ⟨some d, .call ⟨.value f, args, ats⟩, ty, pos, aft, none⟩) :: l) ⟨T, G⟩ Q := by
 obtain ⟨v, H1, e, L, F, rfl, hn, hb, ht⟩ := hr (((B0 P h fk n base lk).BQ s kk).DB g M G)
 refine pV ?_ hd (k v F _ (hO.fresh hn hb ht))
 rw [J1]
 simp only [h1, h2, ab, SR]
 show (Ah ((B0 P h fk n base lk).BQ s kk) (h.Es g) G (vs ++ caps)).bind _ = _
 rw [h3]
 exact e
theorem IW {f : aw} {args : Array aw} {ats : Array ao} {g : fh} {caps vs vs' : List V} {M : List Nat} {x : α} (hO : A8 H G rs) (hr : ∀ L, ∃ v H1, Ai P h g vs' G (lk ++ [L]) = some (v, H1) ∧ HM G x v H1)
  (k : ∀ cs F G', A8 H G' (Ck [] F x cs :: rs) → BW (B0 P h fk n base lk) ops l ⟨D4 T d (.agg cs), G'⟩ Q) (h1 : ev T f = some (.fn g caps) := by rfl) (h2 : Oq T args.toList = some vs := by rfl)
  (h3 : Ah ((B0 P h fk n base lk).BQ s kk) (h.Es g) G (vs ++ caps) = some (vs', M, G) := by rfl) (hd : cg d n = true := by rfl) :
  BW (B0 P h fk n base lk) ops ((s, kk, ⟨some d, .call ⟨.value f, args, ats⟩, ty, pos, aft, none⟩) :: l) ⟨T, G⟩ Q := by
 obtain ⟨v, H1, e, cs, L, F, rfl, rfl, hn, hb, ht⟩ := hr (((B0 P h fk n base lk).BQ s kk).DB g M G)
 refine pV ?_ hd (k cs F _ (hO.fresh hn hb ht))
 rw [J1]
 simp only [h1, h2, ab, SR]
 show (Ah ((B0 P h fk n base lk).BQ s kk) (h.Es g) G (vs ++ caps)).bind _ = _
 rw [h3]
 exact e
theorem UQ {z : α} {c : List V} (hz : ∀ G, Ar.tr G z c []) : ∀ m, Oe Ar.tr G (ch m z) (ch m c).flatten []
 | 0 => ⟨rfl, rfl⟩
 | m + 1 => ⟨c, _, [], [], rfl, rfl, hz G, UQ hz m⟩
theorem jY {a : Int} {m by_ : Nat} {t e : ao} {y z' : aw} (hO : A8 H G rs) (hm : It by_ a = some m) (zv : α) (he : B4 P t = some e) (hz : Aw P e = some (AG.sz α)) (hb : CU P e = some by_) {z : List V} (hzero : BG P e = some z) (h0 : ∀ G, Ar.tr G zv (z.map (H8 (h.IA fk))) [])
  (k : ∀ b G', A8 H G' (Ck [] [b] (ch m zv) [.sl b 0 m] :: rs) → BW (B0 P h fk n base lk) ops l ⟨D4 T d (.sl b 0 m), G'⟩ Q)
  (h1 : ev T y = some (.int .i64 a) := by rfl) (h2 : ev T z' = some (.int .i64 a) := by rfl) (hd : cg d n = true := by rfl) :
  BW (B0 P h fk n base lk) ops ((s, kk, ⟨some d, .makeSlice t y z', ty, pos, aft, none⟩) :: l) ⟨T, G⟩ Q := by
 unfold It at hm
 split at hm
 case isFalse => cases hm
 rename_i hc
 simp only [aa] at hm
 subst hm
 refine pV ?_ hd (k G.length (G ++ [.cells (AG.sz α) (ch a.toNat (z.map (H8 (h.IA fk)))).flatten]) (hO.fresh (by simp) (fun b hb => by simp only [bl] at hb; omega) (.inr ⟨G.length, (ch a.toNat (z.map (H8 (h.IA fk)))).flatten, [], by rw [gj], J4 _ _, UQ h0 _, rfl⟩)))
 rw [Ja]
 simp only [h1, h2, ab, Iv]
 show (B4 P t).bind _ = _
 rw [he, ab]
 show (Aw P e).bind _ = _
 rw [hz, ab]
 show (CU P e).bind _ = _
 rw [hb, ab]
 show (BG P e).bind _ = _
 rw [hzero, ab, if_pos ⟨trivial, hc.1, hc.2, by rw [← fe (f := H8 (h.IA fk))]; exact Ar.len (h0 []), eu.1 (AG.pos)⟩]
 rfl
end
def CN {α : Type} (c : α → Nat) : List α → Nat
 | [] => 0
 | x :: xs => c x + CN c xs
def Bp {α : Type} (f : α → Int → α) (c : α → Nat) : List α → Int → List α
 | [], _ => []
 | x :: xs, k => f x k :: Bp f c xs (k + c x)
def kX : Int → Int → Int := fun _ k => k
theorem TZ {α : Type} {c : α → Nat} {m : Nat} : ∀ {xs : List α}, (∀ x ∈ xs, c x ≤ m) → CN c xs ≤ m * xs.length
 | [], _ => db _
 | x :: xs, h => by
  have h1 := h x (bu ..)
  have h2 := TZ (xs := xs) fun y hy => h y (ca _ hy)
  rw [CN, du, Nat.mul_succ]; omega
theorem Iw {α : Type} (f : α → Int → α) (c : α → Nat) : ∀ (xs : List α) (k : Int), (Bp f c xs k).length = xs.length
 | [], _ => rfl
 | x :: xs, k => by rw [Bp, du, Iw f c xs, du]
theorem Fc {α σ : Type} {F : σ → Option (σ ⊕ (List α × Int))} (st : List α → Int → Int → σ) (f : α → Int → α) (c : α → Nat) (p : α → Prop) (n : Nat)
  (hstep : ∀ (pre : List α) x post (k : Int), p x → 0 ≤ k → k + c x ≤ 4611686018427387904 → (pre ++ x :: post).length = n → F (st (pre ++ x :: post) k (pre.length : Int)) = some (.inl (st (pre ++ f x k :: post) (k + c x) ((pre.length + 1 : Nat) : Int))))
  (hend : ∀ (xs : List α) (k : Int), xs.length = n → F (st xs k (n : Int)) = some (.inr (xs, k))) :
  ∀ (xs pre : List α) (k : Int), (∀ x ∈ xs, p x) → 0 ≤ k → k + CN c xs ≤ 4611686018427387904 → (pre ++ xs).length = n → AP F (st (pre ++ xs) k (pre.length : Int)) = some (pre ++ Bp f c xs k, k + CN c xs)
 | [], pre, k, hp, h0, hb, hn => by
  rw [BK]
  have e : pre.length = n := by simpa using hn
  rw [e, hend _ _ hn]
  simp [Bp, CN]
 | x :: xs, pre, k, hp, h0, hb, hn => by
  rw [CN] at hb
  rw [BK, hstep pre x xs k (hp x (bu ..)) h0 (by omega) hn]
  have e : pre ++ f x k :: xs = (pre ++ [f x k]) ++ xs := by simp
  have := Fc st f c p n hstep hend xs (pre ++ [f x k]) (k + c x) (fun y hy => hp y (ca _ hy)) (by omega) (by omega) (by rw [← e]; simpa using hn)
  rw [aq, dw, ← e] at this
  simp only [ab]
  rw [this, Bp, CN]
  simp only [bj, di, ff, aa, ag, true_and]
  omega
theorem L6 {α σ : Type} {F : σ → Option (σ ⊕ Int)} (st : Int → Int → σ) (f : α → Int → α) (c : α → Nat) (p : α → Prop) (ys : List α)
  (hstep : ∀ (i : Nat) x (k : Int), p x → 0 ≤ k → k + c x ≤ 4611686018427387904 → ys[i]? = some (f x k) → F (st k (i : Int)) = some (.inl (st (k + c x) ((i + 1 : Nat) : Int))))
  (hend : ∀ k : Int, F (st k (ys.length : Int)) = some (.inr k)) :
  ∀ (xs pre : List α) (k : Int), ys = pre ++ Bp f c xs k → (∀ x ∈ xs, p x) → 0 ≤ k → k + CN c xs ≤ 4611686018427387904 → AP F (st k (pre.length : Int)) = some (k + CN c xs)
 | [], pre, k, hy, hp, h0, hb => by
  rw [BK]
  have e : pre.length = ys.length := by rw [hy]; simp [Bp]
  rw [e, hend]
  simp [CN]
 | x :: xs, pre, k, hy, hp, h0, hb => by
  rw [CN] at hb
  rw [BK, hstep pre.length x k (hp x (bu ..)) h0 (by omega) (by rw [hy, Bp, cd (ak _), gq]; rfl)]
  have := L6 st f c p ys hstep hend xs (pre ++ [f x k]) (k + c x) (by rw [hy, Bp]; simp) (fun y hy => hp y (ca _ hy)) (by omega) (by omega)
  rw [aq, dw] at this
  simp only [ab]
  rw [this, CN]
  simp only [aa]
  omega
theorem Yx {a : Int} (h : 0 ≤ a) : decide (a < 0) = false := by rw [decide_eq_false_iff_not]; omega
theorem LC {α : Type} (pre : List α) (x : α) (post : List α) : decide ((pre.length : Int) < ((pre ++ x :: post).length : Int)) = true := by rw [decide_eq_true_eq, aq, du]; omega
theorem JL {α : Type} {pre post : List α} {x : α} {n : Nat} (h : (pre ++ x :: post).length = n) : pre.length < n := by rw [← h, aq, du]; omega
theorem JD {α : Type} {c : α → Nat} {p : α → Prop} {m : Nat} (hc : ∀ x, p x → c x ≤ m) {xs : List α} (hl : xs.length ≤ 1048576) (hp : ∀ x ∈ xs, p x) : CN c xs ≤ m * 1048576 :=
 Nat.le_trans (TZ fun x hx => hc x (hp x hx)) (Nat.mul_le_mul_left _ hl)
theorem Hk {α : Type} (pre : List α) (x : α) (post : List α) : Aa (pre ++ x :: post) (pre.length : Int) = some x := by
 rw [AM, cd (ak _), gq]; rfl
theorem JR {α : Type} (pre : List α) (x y : α) (post : List α) : (pre ++ x :: post).set ((pre.length : Nat) : Int).toNat y = pre ++ y :: post := by
 rw [fm, lS _ _ (ak _), gq]; rfl
theorem JC {k : Int} (h0 : 0 ≤ k) (h : k ≤ 4611686018427387904) : AV (k + 1) = k + 1 := BV ⟨by omega, by omega⟩
def Kq (lo d n : Nat) (tr : A4 → List V → List Nat → Prop) (G : A4) (cs : List V) (F : List Nat) : Prop :=
 ∃ F', F'.Nodup ∧ (∀ b ∈ F', b ∈ F) ∧ ∀ X : A4 × List Bb, (∀ b ∈ F', X.1[b]? = G[b]?) → ∀ k, GW tr lo (Au true lo d (k + n)) cs F' X
section
variable {α β : Type} [AG α] [Ar α] [AG β] [Ar β] {lo d n : Nat} {tr : A4 → List V → List Nat → Prop} {G G' H : A4} {cs : List V} {F F2 : List Nat} {xs : List α} {x : α} {v : V} {rs : List Bf}
theorem Kq.mono (h : Kq lo d n tr G cs F) (hg : ∀ b ∈ F, G'[b]? = G[b]?) : Kq lo d n tr G' cs F := by
 obtain ⟨F', h1, h2, h3⟩ := h
 exact ⟨F', h1, h2, fun X hX k => h3 X (fun b hb => by rw [hX b hb, hg b (h2 b hb)]) k⟩
theorem Kq.nil : Kq lo d n (fun G => Oe Ar.tr G ([] : List α)) G [] [] :=
 ⟨[], .nil, fun _ h => h, fun X _ k => ⟨[], X.1, [], [], by rw [cu]; rfl, fun _ _ => rfl, .nil, fun b hb => (by cases hb), fun _ _ => ⟨rfl, rfl⟩⟩⟩
def Zl (lo d : Nat) (G : A4) (xs : List α) (v : V) (F : List Nat) : Prop := (v = .tl 0 [] ∧ xs = []) ∨ ∃ b cells F2, v = .snap b xs.length cells ∧ b ∈ F ∧ (∀ c ∈ F2, c ∈ F) ∧ b ∉ F2 ∧ G[b]? = some (.BT d xs.length (AG.sz α)) ∧ cells.length = xs.length * AG.sz α ∧
 cells.all V.Ba = true ∧ Kq lo d (Ar.dep α) (fun G => Oe Ar.tr G xs) G cells F2
theorem Zl.mono (h : Zl lo d G xs v F) (hg : ∀ b ∈ F, G'[b]? = G[b]?) : Zl lo d G' xs v F := by
 rcases h with h | ⟨b, cells, F2, h1, h2, h3, h4, h5, h6, h7, h8⟩
 ·exact .inl h
 ·exact .inr ⟨b, cells, F2, h1, h2, h3, h4, by rw [hg b h2]; exact h5, h6, h7, h8.mono fun c hc => hg c (h3 c hc)⟩
theorem DP {j : Nat} (hO : A8 H G rs) {S : List Nat} (hj : rs[j]? = some (Ck S F x [v])) : v.cellsOf = [v] ∧ v.Ba = true := by
 have h := (hO.tree hj).1.cells.2
 simp only [fg, mU, ke] at h
 refine ⟨?_, h⟩
 cases v <;> first | rfl | cases h
theorem Kj {j : Nat} (hO : A8 H G rs) {S : List Nat} (hj : rs[j]? = some (Ck S F x cs)) : cs.length = AG.sz α ∧ cs.all V.Ba = true := (hO.tree hj).1.cells
end
section steps
variable {P : bg} {h : BI} {fk n base : Nat} {lk : Lk} {c : Cx} {ops : Array bq} {s kk : Bool} {d : Nat} {ty : ao} {pos : String} {aft : Array Edge} {l : List (Bool × Bool × bq)} {Q : St → Prop} {T : Nat → V} {G G' H H0 : A4} {rs : List Bf} {op : Op} {F F2 : List Nat}
variable {α : Type} [AG α] [Ar α]
end steps
section steps
variable {P : bg} {h : BI} {fk n base : Nat} {lk : Lk} {c : Cx} {ops : Array bq} {s kk : Bool} {d : Nat} {ty : ao} {pos : String} {aft : Array Edge} {l : List (Bool × Bool × bq)} {Q : St → Prop} {T : Nat → V} {G G' H H0 : A4} {rs rs' rs1 : List Bf} {op : Op} {S F F2 : List Nat}
variable {α : Type} [AG α]
theorem Ri [Ar α] {x : α} {cs S5 : List V} {t : ao} {y z : aw} {b sz : Nat} (hO : A8 H G rs) (jb j : Nat) (hz : Aw P t = some (AG.sz α)) (hb : base = H.length) (k : ∀ G', A8 H G' (rs.set jb (.B6 b (.cells sz cs))) → BW (B0 P h fk n base lk) ops l ⟨T, G'⟩ Q)
  (h1 : ev T y = some (.ptr b 0) := by rfl) (h2 : ev T z = some (.agg cs) := by rfl) (hjb : rs[jb]? = some (.B6 b (.cells sz S5)) := by rfl) (hj : rs[j]? = some (Ck S F x cs) := by rfl) (hold : S5.length = AG.sz α := by rfl) :
  BW (B0 P h fk n base lk) ops ((s, kk, ⟨none, .store t y z, ty, pos, aft, none⟩) :: l) ⟨T, G⟩ Q := by
 subst hb
 obtain ⟨e1, e2⟩ := Kj hO hj
 obtain ⟨hg, hbb⟩ := hO.get hjb
 have hlt : b < G.length := (al.1 hg).1
 have e3 : C6 S5 0 cs = cs := by
  unfold C6
  rw [mN, fy, ic (by omega)]; simp
 have hst := LW (P := P) (h := h) (fk := fk) (n := n) (lk := lk) (s := s) (kk := kk) (base := H.length) (T := T) (G := G) (off := 0) (sz := sz) (y := y) (z := z) (w := .agg cs) hz (cells := S5) (b := b) (by unfold Cx.BX; simp only [de, decide_eq_true_eq]; exact .inl hbb) (if_neg (dt.2 hbb)) hg (by show 0 + cs.length ≤ _; omega) e1 e2 h1 h2
 refine bT hst (k _ ?_)
 show A8 H (G.set b (.cells sz (C6 S5 0 cs))) _
 rw [e3]
 exact hO.set hjb rfl rfl ⟨hbb, by rw [Ab, if_pos ⟨rfl, hlt⟩]⟩
theorem Ju [Ar α] {x : α} {cs : List V} {t : ao} {y : aw} {b sz : Nat} (hO : A8 H G rs) (jb j : Nat) (ha : D6 P t = some true) (hz : Aw P t = some (AG.sz α)) (k : BW (B0 P h fk n base lk) ops l ⟨D4 T d (.agg cs), G⟩ Q)
  (h1 : ev T y = some (.ptr b 0) := by rfl) (hjb : rs[jb]? = some (.B6 b (.cells sz cs)) := by rfl) (hj : rs[j]? = some (Ck S F x cs) := by rfl) (hd : cg d n = true := by rfl) :
  BW (B0 P h fk n base lk) ops ((s, kk, ⟨some d, .load t y, ty, pos, aft, none⟩) :: l) ⟨T, G⟩ Q := by
 obtain ⟨e1, e2⟩ := Kj hO hj
 refine iY (.agg cs) (hO.get hjb).1 ?_ k h1 hd
 unfold BH
 simp only [ha, hz, ab]
 rw [if_pos (by omega), ga, ← e1, gf]
end steps
section
variable {α β : Type} [AG α] [Ar α] [AG β] [Ar β] {lo d n m : Nat} {tr : A4 → List V → List Nat → Prop} {G G' H : A4} {cs c1 c2 : List V} {F F1 F2 : List Nat} {x : α} {y : β} {v : V} {rs : List Bf}
theorem Kq.up (hm : fj n m = true) (h : Kq lo d n tr G cs F) : Kq lo d m tr G cs F := by
 have hm := bp hm
 obtain ⟨F', h1, h2, h3⟩ := h
 refine ⟨F', h1, h2, fun X hX k => ?_⟩
 have := h3 X hX (k + (m - n))
 rwa [show k + (m - n) + n = k + m by omega] at this
theorem Kq.pair (h1 : Kq lo d n (fun G => Ar.tr G x) G c1 F1) (h2 : Kq lo d n (fun G => Ar.tr G y) G c2 F2) (hd : ∀ b ∈ F2, b ∉ F1) : Kq lo d n (fun G => Ar.tr G (x, y)) G (c1 ++ c2) (F1 ++ F2) := by
 obtain ⟨A, a1, a2, a3⟩ := h1
 obtain ⟨B, b1, b2, b3⟩ := h2
 refine ⟨A ++ B, ?_, fun b hb => ?_, fun X hX k => ?_⟩
 ·rw [cn]
  exact ⟨a1, b1, fun p hp q hq e => by subst e; exact hd p (b2 p hq) (a2 p hp)⟩
 ·rcases au.1 hb with h | h
  ·exact cq _ (a2 b h)
  ·exact cw _ (b2 b h)
 ·refine GW.pair (t1 := fun G => Ar.tr G x) (t2 := fun G => Ar.tr G y) (fun h hg => Ar.frame h hg) (a3 X (fun b hb => hX b (cq _ hb)) k) fun Y hY => b3 Y (fun b hb => ?_) k
  rw [hY b fun h => hd b (b2 b hb) (a2 b h)]
  exact hX b (cw _ hb)
theorem Jd [Cj α] {dd : Nat} (x : α) : MW (Ar.dep α) H dd rs (AG.BO 0 x) x rs := fun X hO k => by
 obtain ⟨cs', X1, L, F', e, s1, n1, b1, r1⟩ := Ar.res (Cj.fl X.1 x) .nil H.length dd (fun b hb => by cases hb) k X (fun _ _ => rfl)
 have : X1 = X.1 := ib fun b => s1 b (by simp)
 subst this
 exact ⟨cs', X.1, L, F', e, hO, n1, b1, r1⟩
theorem Zg {P : bg} {T : Nat → V} {S : List Nat} {t b sz a : Nat} {lr : List dv} {vs : List V} (hO : A8 H G rs) (jb j : Nat) (ha : D6 P t = some true) (hz : Aw P t = some (AG.sz α)) (h : Av P G T lr = some vs) (h1 : T a = .ptr b 0 := by rfl) (hjb : rs[jb]? = some (.B6 b (.cells sz cs)) := by rfl) (hj : rs[j]? = some (Ck S F x cs) := by rfl) :
  Av P G T (.cell a t :: lr) = some (.agg cs :: vs) := by
 obtain ⟨e1, e2⟩ := Kj hO hj
 simp only [Av, h1, Ep, (hO.get hjb).1, BH, ha, hz, ab]
 rw [if_pos (by omega), ga, ← e1, gf]
 simp only [ab, h, ai]
end
section
variable {α : Type} [AG α] {H : A4}
theorem EM {c : Cx} (kd : fc) (x : Int) : FL c H (.int kd x) = some (.int kd x, H) := by
 cases h : c.hints.IA c.fn with
 | false => exact Xj h kd x
 | true => unfold FL; rw [h]; rfl
theorem D8 {c : Cx} (x : α) : FL c H (.agg ((AG.BO 0) x)) = some (.agg ((AG.BO 0) x), H) := by
 cases h : c.hints.IA c.fn with
 | false => exact Xi h x
 | true => unfold FL; rw [h]; rfl
end
section calls
variable {P : bg} {h : BI} {fk n base : Nat} {lk : Lk} {ops : Array bq} {s kk : Bool} {d : Nat} {ty : ao} {pos : String} {aft : Array Edge} {l : List (Bool × Bool × bq)} {Q : St → Prop} {T : Nat → V} {G G' H : A4} {rs : List Bf}
variable {α : Type} [AG α] [Ar α]
end calls
section
variable {α : Type} [AG α] {G G' H : A4} {F : List Nat} {xs : List α} {v : V} {rs : List Bf}
def UT (lo d : Nat) (G : A4) (xs : List α) (v : V) (F : List Nat) : Prop := (v = .tl xs.length ((A9 0) xs)) ∨ (∃ b, v = .snap b xs.length ((A9 0) xs) ∧ b ∈ F ∧ G[b]? = some (.BT d xs.length (AG.sz α))) ∨ ∃ b, v = .sl b 0 xs.length ∧ b ∈ F ∧ G[b]? = some (.cells (AG.sz α) ((A9 0) xs))
abbrev An (H : A4) (d : Nat) (F : List Nat) (xs : List α) (v : V) : Bf := .tree [] F fun G => UT H.length d G xs v F
theorem UT.mono {lo d : Nat} (h : UT lo d G xs v F) (hg : ∀ b ∈ F, G'[b]? = G[b]?) : UT lo d G' xs v F := by
 rcases h with h | ⟨b, h1, h2, h3⟩ | ⟨b, h1, h2, h3⟩
 ·exact .inl h
 ·exact .inr (.inl ⟨b, h1, h2, by rw [hg b h2]; exact h3⟩)
 ·exact .inr (.inr ⟨b, h1, h2, by rw [hg b h2]; exact h3⟩)
theorem A8.swapT {j : Nat} {r : Bf} {p : A4 → Prop} (hO : A8 H G rs) (hj : rs[j]? = some r) (ho : r.U1 = true) (hp : ∀ G', (∀ b ∈ r.DC, G'[b]? = G[b]?) → p G') : A8 H G (rs.set j (.tree [] r.DC p)) where
 pre := hO.pre
 len := hO.len
 ok := fun r2 hr => by
  obtain ⟨i, hi, e⟩ := dh.1 hr
  rw [cp] at hi
  rw [ef] at e
  have h0 := hO.ok _ (bh hj)
  split at e
  ·subst e
   refine ⟨fun b hb => ⟨Bf.H9 h0 hb, fun hlt => ?_⟩, hp⟩
   have := Bf.KY h0 ho hb
   omega
  ·subst e
   exact hO.ok _ (dc hi)
 apart := E9 hO.apart hj fun x hx => hx
theorem A8.jG {d sz : Nat} (hO : A8 H G rs) (j : Nat) (hj : rs[j]? = some (.own v d sz xs.length ((A9 0) xs)) := by rfl) (hsz : sz = AG.sz α := by rfl) : A8 H G (rs.set j (An H d (Bf.own v d sz xs.length ((A9 0) xs)).DC xs v)) := by
 subst hsz
 refine hO.swapT hj rfl fun G' hg => ?_
 rcases (hO.own hj).2 with rfl | ⟨b, rfl, hb, hgb⟩
 ·exact .inl rfl
 ·exact .inr (.inl ⟨b, rfl, by simp [Bf.DC], by rw [hg b (by simp [Bf.DC])]; exact hgb⟩)
theorem WY {d j : Nat} (hO : A8 H G rs) (hj : rs[j]? = some (An H d F xs v)) (lv n : Nat) (hn : fj 2 n = true := by rfl) : ∃ l M, AY lv G n v = some (.lit l xs.length ((A9 0) xs), M) := by
 obtain ⟨k, rfl⟩ : ∃ k, n = k + 2 := ⟨n - 2, by have := bp hn; omega⟩
 rcases (hO.tree hj).1 with rfl | ⟨b, rfl, _, _⟩ | ⟨b, rfl, _, hg⟩
 ·exact ⟨lv, [], by rw [AY, En _ (DA xs) (D1 xs)]; rfl⟩
 ·exact ⟨lv, [], by rw [AY, En _ (DA xs) (D1 xs)]; rfl⟩
 ·have e0 : ¬ (((A9 0) xs).length < 0 + xs.length * AG.sz α) := by rw [CB]; omega
  have e1 : (kf 0 ((A9 0) xs)).take (xs.length * AG.sz α) = (A9 0) xs := by rw [ga]; exact eh (by rw [CB]; exact ak _)
  refine ⟨lv, [b], ?_⟩
  rw [AY]
  simp only [hg]
  rw [if_neg e0, e1, En _ (DA xs) (D1 xs)]; rfl
end
section steps
variable {P : bg} {h : BI} {fk n base : Nat} {lk : Lk} {c : Cx} {ops : Array bq} {s kk : Bool} {d : Nat} {ty : ao} {pos : String} {aft : Array Edge} {l : List (Bool × Bool × bq)} {Q : St → Prop} {T : Nat → V} {G G' H H0 : A4} {rs : List Bf} {op : Op} {S F : List Nat}
variable {α : Type} [AG α]
end steps
class FT (α : Type) [AG α] [Ar α] : Prop where
 inv : ∀ {G : A4} {x : α} {cs F}, Ar.tr G x cs F → cs = AG.BO 0 x ∧ F = []
instance : FT Int := ⟨fun h => h⟩
instance : FT Bool := ⟨fun h => h⟩
instance : FT ByteArray := ⟨fun h => h⟩
instance {α β : Type} [AG α] [Ar α] [FT α] [AG β] [Ar β] [FT β] : FT (α × β) := ⟨fun h => by
 obtain ⟨c1, c2, F1, F2, rfl, rfl, h1, h2⟩ := h
 obtain ⟨rfl, rfl⟩ := FT.inv h1
 obtain ⟨rfl, rfl⟩ := FT.inv h2
 exact ⟨rfl, rfl⟩⟩
section
variable {α β : Type} [AG α] [Ar α] [AG β] [Ar β] {G G1 G' H H0 H' : A4} {rs rs0 rs0' rest : List Bf} {S F : List Nat} {x : α} {y : β} {cs : List V}
theorem A8.bW (hO : A8 H G (Ck [] F (x, y) cs :: rs)) : ∃ c1 c2 F1 F2, cs = c1 ++ c2 ∧ Ar.tr G x c1 F1 ∧ A8 H G (Ck [] F2 y c2 :: Ck [] F1 x c1 :: rs) := by
 obtain ⟨⟨F', n, hF, c1, c2, F1, F2, rfl, rfl, h1, h2⟩, hb⟩ := hO.tree (j := 0) (F := F) (S := []) rfl
 obtain ⟨n1, n2, n3⟩ := LI n
 have hap := ec.1 hO.apart
 refine ⟨c1, c2, F1, F2, rfl, h1, hO.pre, hO.len, fun r hr => ?_, ?_⟩
 ·rcases bw.1 hr with rfl | hr
  ·exact Kl ⟨F2, n2, fun _ h => h, h2⟩ fun b hb' => hb b (hF b (cw _ hb'))
  ·rcases bw.1 hr with rfl | hr
   ·exact Kl ⟨F1, n1, fun _ h => h, h1⟩ fun b hb' => hb b (hF b (cq _ hb'))
   ·exact hO.ok r (ca _ hr)
 ·refine ec.2 ⟨fun r hr c hc hc' => ?_, ec.2 ⟨fun r hr c hc hc' => ?_, hap.2⟩⟩
  ·rcases bw.1 hr with rfl | hr
   ·exact n3 c hc' hc
   ·exact hap.1 r hr c (hF c (cw _ hc)) hc'
  ·exact hap.1 r hr c (hF c (cq _ hc)) hc'
theorem A8.LV [FT α] (hO : A8 H G (Ck [] F (x, y) cs :: rs)) : ∃ c2 F2, cs = AG.BO 0 x ++ c2 ∧ A8 H G (Ck [] F2 y c2 :: rs) := by
 obtain ⟨c1, c2, F1, F2, rfl, h1, hO2⟩ := hO.bW
 obtain ⟨rfl, rfl⟩ := FT.inv h1
 exact ⟨c2, F2, rfl, hO2.drop (List.Sublist.cons_cons _ (List.sublist_cons_self _ _))⟩
theorem A8.WW {xs : List α} (hO : A8 H G (Ck [] F xs cs :: rs)) : ∃ v, cs = [v] := ie.1 (show cs.length = 1 from (Kj hO (j := 0) rfl).1)
end
section calls
variable {P : bg} {h : BI} {fk n base : Nat} {lk : Lk} {ops : Array bq} {s kk : Bool} {d : Nat} {ty : ao} {pos : String} {aft : Array Edge} {l : List (Bool × Bool × bq)} {Q : St → Prop} {T : Nat → V} {G G' H : A4} {rs0 rs0' rest : List Bf} {S : List Nat}
end calls
section
def Bf.lC : Bf → Bool
 | .B6 .. => true
 | .own .. => true
 | .tree [] _ _ => true
 | _ => false
theorem A8.lo {H G : A4} {rs0 rest : List Bf} (hO : A8 H G (rs0 ++ rest)) (h : rs0.all Bf.lC = true := by rfl) : ∀ r ∈ rs0, ∀ b ∈ r.DC, H.length ≤ b := fun r hr b hb => by
 have h1 := hO.ok r (cq _ hr)
 have h2 := cb.1 h r hr
 cases r with
 | B6 n x => exact Bf.KY h1 rfl hb
 | own v d sz n cells => exact Bf.KY h1 rfl hb
 | SQ S n x => cases h2
 | QC S v d d1 sz n cells => cases h2
 | tree S F p =>
  cases S with
  | nil => exact dt.1 fun hlt => by cases (h1.1 b hb).2 hlt
  | cons a S => cases h2
theorem DO {α : Type} {xs : List α} {i : Int} {x : α} (h : Aa xs i = some x) (y : α) : Aa (xs.set i.toNat y) i = some y := by
 have := Fl h
 unfold Aa
 rw [if_pos this.1, jj, if_pos rfl, if_pos (by omega)]
theorem FD {α : Type} {xs : List α} {v : V} {b j : Nat} {y : α} (h : v = .sl b 0 xs.length) : v = .sl b 0 (xs.set j y).length := by rw [cp]; exact h
section steps
variable {P : bg} {h : BI} {fk n base : Nat} {lk : Lk} {c : Cx} {ops : Array bq} {s kk : Bool} {d : Nat} {ty : ao} {pos : String} {aft : Array Edge} {l : List (Bool × Bool × bq)} {Q : St → Prop} {T : Nat → V} {G G' H H0 : A4} {rs : List Bf} {op : Op} {S F : List Nat}
theorem LN {x : aw} {v : V} (k : BW (B0 P h fk n base lk) ops l ⟨D4 T d v, G⟩ Q) (h1 : ev T x = some v := by rfl) (h2 : SE v = some v := by rfl) (hd : cg d n = true := by rfl) :
  BW (B0 P h fk n base lk) ops ((s, kk, ⟨some d, .nilCheck x, ty, pos, aft, none⟩) :: l) ⟨T, G⟩ Q := by
 refine pV ?_ hd k
 rw [QV]
 simp only [h1, h2, ab, ai]
section
variable {α β : Type} [AG α] [Ar α] [AG β] [Ar β] [FT β]
end
section
variable {α β : Type} [AG α] [Ar α] [AG β] [Ar β]
end
variable {α : Type} [AG α] [Ar α] [Cj α]
end steps
end
section
class UU (α : Type) [AG α] [Ar α] : Prop where
 cl : ∀ {G : A4} {x : α} {cs F}, Ar.tr G x cs F → ∀ d, cs.all (Bk d) = true ∧ ∀ b ∈ F, ∃ sz cells, G[b]? = some (.cells sz cells) ∧ cells.all (Bk d) = true
instance : UU Int := ⟨fun h d => by obtain ⟨rfl, rfl⟩ := h; exact ⟨rfl, fun b hb => by cases hb⟩⟩
instance : UU Bool := ⟨fun h d => by obtain ⟨rfl, rfl⟩ := h; exact ⟨rfl, fun b hb => by cases hb⟩⟩
instance : UU ByteArray := ⟨fun h d => by obtain ⟨rfl, rfl⟩ := h; exact ⟨rfl, fun b hb => by cases hb⟩⟩
section
variable {α β : Type} [AG α] [Ar α] [UU α] [AG β] [Ar β] [UU β] {G : A4}
instance : UU (α × β) := ⟨fun h d => by
 obtain ⟨c1, c2, F1, F2, rfl, rfl, h1, h2⟩ := h
 refine ⟨by rw [dk, (UU.cl h1 d).1, (UU.cl h2 d).1]; rfl, fun b hb => ?_⟩
 rcases au.1 hb with hb | hb
 ·exact (UU.cl h1 d).2 b hb
 ·exact (UU.cl h2 d).2 b hb⟩
theorem UO (d : Nat) : ∀ {xs : List α} {cs F}, Oe Ar.tr G xs cs F → cs.all (Bk d) = true ∧ ∀ b ∈ F, ∃ sz cells, G[b]? = some (.cells sz cells) ∧ cells.all (Bk d) = true
 | [], cs, F, h => by obtain ⟨rfl, rfl⟩ := h; exact ⟨rfl, fun b hb => by cases hb⟩
 | x :: xs, cs, F, h => by
  obtain ⟨c1, c2, F1, F2, rfl, rfl, h1, h2⟩ := h
  have h3 := UO d h2
  refine ⟨by rw [dk, (UU.cl h1 d).1, h3.1]; rfl, fun b hb => ?_⟩
  rcases au.1 hb with hb | hb
  ·exact (UU.cl h1 d).2 b hb
  ·exact h3.2 b hb
instance : UU (List α) := ⟨fun h d => by
 rcases h with ⟨rfl, rfl, rfl⟩ | ⟨b, cells, F', rfl, h1, h2, rfl⟩
 ·exact ⟨rfl, fun b hb => by cases hb⟩
 ·have h3 := UO d h2
  refine ⟨rfl, fun c hc => ?_⟩
  rcases bw.1 hc with rfl | hc
  ·exact ⟨_, _, h1, h3.1⟩
  ·exact h3.2 c hc⟩
end
section
variable {α β : Type} [AG α] [Ar α] [AG β] [Ar β] {G G1 G' H H0 Hm : A4} {rs rs0 rs1 rest : List Bf} {S Sc F F2 : List Nat}
theorem EK.trans {Ha Hb Hc : A4} (h1 : EK Ha Hb S) (h2 : EK Hb Hc Sc) (hs : ∀ b ∈ Sc, b < Hb.length → b ∈ S) : EK Ha Hc S := ⟨h2.1.trans h1.1, fun b hb => by
 rcases bz b Hb.length with hl | hl
 ·rw [h2.2 b fun h => hb (hs b h hl)]; exact h1.2 b hb
 ·rw [← h1.2 b hb, bf hl, bf (by have := h2.1; omega)]⟩
end
section steps
variable {P : bg} {h : BI} {fk n base : Nat} {lk : Lk} {c : Cx} {ops : Array bq} {s kk : Bool} {d : Nat} {ty : ao} {pos : String} {aft : Array Edge} {l : List (Bool × Bool × bq)} {Q : St → Prop} {T : Nat → V} {G G' H H0 : A4} {rs : List Bf} {op : Op} {S F F2 : List Nat}
section
variable {α β : Type} [AG α] [Ar α] [AG β] [Ar β]
theorem gR {R : A4 → List α → Prop} {Fs : List Nat} {xs : List α} {x : aw} {t : ao} {u : V} (hs : TW G R F [u] Fs xs) (ht : IX P t = some false) (k : BW (B0 P h fk n base lk) ops l ⟨D4 T d (.int .i64 xs.length), G⟩ Q) (h1 : ev T x = some u := by rfl) (hd : cg d n = true := by rfl) :
  BW (B0 P h fk n base lk) ops ((s, kk, ⟨some d, .call ⟨.builtin .len, #[x], #[t]⟩, ty, pos, aft, none⟩) :: l) ⟨T, G⟩ Q := by
 refine BC (b := false) (a := u) ht k h1 ?_ hd
 have := Wc hs.tr
 cases u <;> first | exact this | simp [Cd] at this
end
variable {rs0 rest : List Bf} {ι : Type} {rs1 : ι → List Bf}
end steps
end
section
variable {α β : Type} [AG α] [Ar α] [AG β] [Ar β] {G G' H : A4} {F F2 : List Nat} {xs : List α} {x : α} {y : β} {v : V} {rs : List Bf} {cs c1 c2 : List V}
variable {m : Nat}
def Vb (m : Nat) (G : A4) (xs : List α) (v : V) (F : List Nat) (k : Nat) : Prop := ∃ F', F'.Nodup ∧ (∀ b ∈ F', b ∈ F) ∧ ((xs = [] ∧ v = .tl 0 [] ∧ F' = []) ∨
 ∃ b c1 F2, v = .sl b 0 xs.length ∧ G[b]? = some (.cells (AG.sz α) (c1 ++ A9 m (xs.drop k))) ∧ Oe Ar.tr G (xs.take k) c1 F2 ∧ F' = b :: F2)
theorem Vb.mono {k : Nat} (h : Vb m G xs v F k) (hg : ∀ b ∈ F, G'[b]? = G[b]?) : Vb m G' xs v F k := by
 obtain ⟨F', h1, h2, h3⟩ := h
 refine ⟨F', h1, h2, ?_⟩
 rcases h3 with h3 | ⟨b, c1, F2, e1, e2, e3, rfl⟩
 ·exact .inl h3
 ·exact .inr ⟨b, c1, F2, e1, by rw [hg b (h2 b (by simp))]; exact e2, Ht e3 fun c hc => hg c (h2 c (by simp [hc])), rfl⟩
end
section steps
variable {m : Nat}
variable {P : bg} {h : BI} {fk n base : Nat} {lk : Lk} {c : Cx} {ops : Array bq} {s kk : Bool} {d : Nat} {ty : ao} {pos : String} {aft : Array Edge} {l : List (Bool × Bool × bq)} {Q : St → Prop} {T : Nat → V} {G G' H H0 : A4} {rs : List Bf} {op : Op} {S F F2 : List Nat}
variable {α β : Type} [AG α] [Ar α] [AG β] [Ar β]
end steps
def IP (i : Nat) : List Nat → Bool
 | [] => false
 | d :: l => bif ed i d then true else IP i l
def Ag (ds : List Nat) (T T1 : Nat → V) : Prop := ∀ i, IP i ds = false → T1 i = T i
def kp (ds : List Nat) (T J : Nat → V) : Nat → V := fun i => bif IP i ds then J i else T i
section
variable {ds ds2 : List Nat} {T T1 J : Nat → V} {d : Nat} {v : V}
theorem Ag.same : Ag ds T T := fun _ _ => rfl
theorem Ag.up (h : Ag ds T T1) (hd : IP d ds = true) : Ag ds T (D4 T1 d v) := fun i hi => by
 unfold D4
 split
 ·rename_i e; subst e; rw [hd] at hi; cases hi
 ·exact h i hi
theorem Ag.kp (h : Ag ds T T1) (hs : (ds2.all fun i => IP i ds) = true) : Ag ds T (kp ds2 T1 J) := fun i hi => by
 have : IP i ds2 = false := by
  cases hm : IP i ds2 with
  | false => rfl
  | true =>
   have key : ∀ l : List Nat, IP i l = true → (l.all fun i => IP i ds) = true → IP i ds = true := by
    intro l
    induction l with
    | nil => intro h; cases h
    | cons x l ih =>
     intro h1 h2
     rw [fg, av] at h2
     unfold IP at h1
     cases hb : ed i x with
     | true => rw [Nat.eq_of_beq_eq_true hb]; exact h2.1
     | false => rw [hb] at h1; exact ih h1 h2.2
   rw [key ds2 hm hs] at hi
   cases hi
 show (bif IP i ds2 then J i else T1 i) = T i
 rw [this]
 exact h i hi
end
section
variable {P : bg} {h : BI} {fk n base : Nat} {lk : Lk} {c : Cx} {ops : Array bq} {T T1 : Nat → V} {G : A4} {Q : St → Prop} {d : Nat} {v : V} {ds : List Nat}
theorem ek {T1 : Nat → V} (hd : T1 d = v := by rfl) (ha : Ag ds T T1 := by repeat (first | refine Ag.up ?_ (by rfl) | refine Ag.kp ?_ (by rfl) | exact Ag.same)) : ∃ T2, Ag ds T T2 ∧ T2 d = v ∧ (⟨T1, G⟩ : St) = ⟨T2, G⟩ := ⟨T1, ha, hd, rfl⟩
end
section
variable {P : bg} {h : BI} {fk n base : Nat} {lk : Lk} {c : Cx} {ops : Array bq} {s kk : Bool} {d : Nat} {ty : ao} {pos : String} {aft : Array Edge} {l : List (Bool × Bool × bq)} {Q : St → Prop} {T : Nat → V} {G G' H : A4} {rs : List Bf} {op : Op}
variable {α : Type} [AG α]
end
section
variable {P : bg} {h : BI} {G H : A4} {rs rs1 rs2 rs3 : List Bf} {T : Nat → V} {dd : Nat}
variable {α β γ : Type} [AG α] [Ar α] [AG β] [Ar β] [AG γ] [Ar γ]
end
section calls
variable {P : bg} {h : BI} {fk n base : Nat} {lk : Lk} {ops : Array bq} {s kk : Bool} {d : Nat} {ty : ao} {pos : String} {aft : Array Edge} {l : List (Bool × Bool × bq)} {Q : St → Prop} {T : Nat → V} {G G' H : A4} {rs : List Bf}
variable {α β γ : Type} [AG α] [Ar α] [AG β] [Ar β] [AG γ] [Ar γ]
end calls
def dT (l : List Nat) : List (Nat × Bool) := l.map fun n => (n / 2, n % 2 == 1)
theorem Hz {P : bg} {hs : BI} {fk n base : Nat} {lk : Lk} {ops : Array bq} {S : St} {Q : X → St → Prop} {id : Nat} (l : List Nat) (l' : List (Bool × Bool × bq)) (hq : BW (B0 P hs fk n base lk) ops l' S (Q .normal)) (h : Vm (hs.lits fk) ops (dT l) = true := by decide +kernel) (hl : Kt ops (dT l) = l' := by rfl) : G5 (B0 P hs fk n base lk) (.region id ops true) S Q := ZP _ l' h hl hq
section
variable {P : bg} {h : BI} {fk n base : Nat} {lk : Lk} {c : Cx} {ops : Array bq} {S : St} {Q : X → St → Prop} {T : Nat → V} {G : A4}
theorem pg {k : St → Prop} (h1 : k ⟨T, G⟩) : BW c ops [] ⟨T, G⟩ (Nf k Q .normal) := pE (gn h1)
theorem sr {id : Nat} {l : List bq} {q : Code} (h1 : BW (B0 P h fk n base lk) l.toArray (l.map fun o => (false, false, o)) S (Nf (fun S' => G5 (B0 P h fk n base lk) q S' Q) Q .normal)) : G5 (B0 P h fk n base lk) (.seq (.region id l.toArray false) q) S Q := AX (Da h1)
end
section
variable {α : Type} [AG α] {H G : A4} {rs rs1 : List Bf} {F : List Nat} {xs : List α} {w : V} {d : Nat}
def Qr (G : A4) (F : List Nat) (xs : List α) (w : V) : Prop := (w = .tl 0 [] ∧ xs = []) ∨ ∃ b m l, b ∈ F ∧ w = .pre b m xs.length (A9 0 xs) ∧ G[b]? = some (.BT l m (AG.sz α))
abbrev S9 (H : A4) (F : List Nat) (xs : List α) (w : V) : Bf := .tree [] [] fun _ => Qr H F xs w
def jE (d : Nat) (G : A4) (F : List Nat) (xs : List α) (w : V) : Prop := (w = .tl 0 [] ∧ xs = []) ∨ (∃ b m, b ∈ F ∧ w = .pre b m xs.length (A9 0 xs) ∧ G[b]? = some (.BT d m (AG.sz α))) ∨ ∃ b, b ∈ F ∧ w = .snap b xs.length (A9 0 xs) ∧ G[b]? = some (.BT d xs.length (AG.sz α))
abbrev S8 (d : Nat) (F : List Nat) (xs : List α) (w : V) : Bf := .tree [] F fun G => jE d G F xs w
def MU (xs : List α) (w : V) : Prop := (w = .tl 0 [] ∧ xs = []) ∨ (∃ b m, w = .pre b m xs.length (A9 0 xs)) ∨ ∃ b, w = .snap b xs.length (A9 0 xs)
theorem OA {H0 : A4} {j : Nat} (hO : A8 H G rs) (hj : rs[j]? = some (S9 H0 F xs w)) : MU xs w := by
 rcases (hO.tree hj).1 with h | ⟨b, m, l, _, h, _⟩
 ·exact .inl h
 ·exact .inr (.inl ⟨b, m, h⟩)
theorem HB {j : Nat} (hO : A8 H G rs) (hj : rs[j]? = some (S8 d F xs w)) : MU xs w := by
 rcases (hO.tree hj).1 with h | ⟨b, m, _, h, _⟩ | ⟨b, _, h, _⟩
 ·exact .inl h
 ·exact .inr (.inl ⟨b, m, h⟩)
 ·exact .inr (.inr ⟨b, h⟩)
theorem Md (h : MU xs w) : K5 G w xs := by
 rcases h with ⟨rfl, rfl⟩ | ⟨b, m, rfl⟩ | ⟨b, rfl⟩ <;> exact ⟨rfl, rfl⟩
theorem FC (h : MU xs w) : w.cellsOf = [w] ∧ w.Ba = true := by
 rcases h with ⟨rfl, rfl⟩ | ⟨b, m, rfl⟩ | ⟨b, rfl⟩ <;> exact ⟨rfl, rfl⟩
theorem VA (hw : Qr H F xs w) : A8 H H [S9 H F xs w] where
 pre := fun _ _ => rfl
 len := ak _
 ok := fun r hr => by
  simp only [bl] at hr
  subst hr
  exact ⟨fun b hb => (by cases hb), fun _ _ => hw⟩
 apart := by simp
theorem Ul (xs : List α) (m : Nat) : (A9 0 xs).take (m * AG.sz α) = A9 0 (xs.take m) := by
 have := WL (lm := 0) xs 0 m
 simpa using this
theorem A8.gC {r : Bf} {j b : Nat} {x : Bb} (hO : A8 H G rs) (hj : rs[j]? = some r) (hb : b ∈ r.DC) (hlo : H.length ≤ b) : A8 H (G.set b x) (rs.eraseIdx j) where
 pre := fun c hc => by rw [Ab, if_neg (by omega)]; exact hO.pre c hc
 len := by rw [cp]; exact hO.len
 ok := fun r' hr' => by
  obtain ⟨hj1, hj2⟩ := al.1 hj
  obtain ⟨i, hi, rfl⟩ := dh.1 hr'
  have hp := cr.1 hO.apart
  have key : ∀ q (hq : q < rs.length), q ≠ j → Bf.ok H (G.set b x) rs[q] := fun q hq hne => by
   refine Bf.FA (hO.ok _ (dc hq)) fun c hc => ?_
   rw [Ab, if_neg]
   rintro ⟨rfl, _⟩
   rcases bz q j with h | h
   ·exact hp q j hq hj1 h _ hc (by rw [hj2]; exact hb)
   ·exact hp j q hj1 hq (by omega) _ (by rw [hj2]; exact hb) hc
  rw [jo]
  split
  ·exact key _ _ (by omega)
  ·exact key _ _ (by omega)
 apart := hO.apart.sublist (fw _ _)
theorem TM [Ar α] [Cj α] {dd : Nat} (hd : 0 < dd) (j : Nat) (hj : rs[j]? = some (S8 dd F xs w) := by rfl) : MW 2 H dd rs [w] xs (rs.eraseIdx j) := fun X hO k => by
 obtain ⟨hp, hb⟩ := hO.tree hj
 rcases hp with ⟨rfl, rfl⟩ | ⟨b, m, hbF, rfl, hg⟩ | ⟨b, hbF, rfl, hg⟩
 ·exact ⟨[.tl 0 []], X.1, [], [], by rw [cu]; rfl, hO.drop (fw _ _), .nil, fun b hb => (by cases hb), fun _ _ => .inl ⟨rfl, rfl, rfl⟩⟩
 all_goals
  have hlo : H.length ≤ b := Nat.le_of_not_lt fun h => by cases (hb b hbF).2 h
  refine TL (hO.gC hj hbF hlo (x := .dead)) ?_
  have hcl := Gi (th := true) (lo := H.length) (d := dd) (k := k) (X := (X.1.set b .dead, X.2)) (A9 0 xs) (FW hd fa _ (DA xs)) (D1 xs)
  rw [Au]
  simp only [hg]
 ·rw [if_neg (by simp), if_neg (by omega), if_neg (by omega), hcl]
  simp only [ab, if_true]
  rw [if_pos (CB xs)]
 ·rw [if_neg (by omega), hcl]
  simp only [ab, if_true]
  rw [if_pos (CB xs)]
def bJ : V → Bool
 | .int .. | .bool _ | .str _ => true
 | _ => false
theorem UG {th : Bool} {lo d k : Nat} {X : A4 × List Bb} : ∀ (cs : List V), cs.all bJ = true → Au.resL (Au th lo d (k + 1)) X cs = some (cs, X)
 | [], _ => rfl
 | c :: cs, h => by
  simp only [fg, av] at h
  have : Au th lo d (k + 1) X c = some (c, X) := by cases c <;> first | rfl | (exfalso; simp [bJ] at h)
  simp only [Au.resL, this, ab, UG cs h.2, ai]
theorem bG {P : bg} {h : BI} {k : Nat} {lr : List dv} {T : Nat → V} {vs cs : List V} {x : X} (hO : A8 H G rs) (j : Nat) (hd : 0 < d) (h1 : Av P G T lr = some vs) (hj : rs[j]? = some (S9 H F xs w) := by rfl) (h2 : Et vs = .agg (cs ++ [w]) := by rfl) (hcs : cs.all bJ = true := by rfl)
  (hg : h.grow k = false := by rfl) (ht : h.Qj k = true := by rfl) (hx : x = .normal ∨ x = .ret := by first | exact Or.inl rfl | exact Or.inr rfl) : VZ P h k H.length d lr (fun v H1 => H1 = H ∧ ∃ w, v = .agg (cs ++ [w]) ∧ Qr H F xs w) x ⟨T, G⟩ := by
 have hw := (hO.tree hj).1
 have ew : Au true H.length d 7 (G, []) w = some (w, G, []) := by
  rcases hw with ⟨rfl, rfl⟩ | ⟨b, m, l, hb, rfl, hl⟩
  ·rfl
  ·have hlt := (al.1 hl).1
   rw [Au]
   simp only [hO.pre b hlt, hl]
   rw [if_neg (by simp), if_pos hlt, if_pos (FW hd fa _ (DA xs))]
 have e' : Au true H.length d CA (G, []) (.agg (cs ++ [w])) = some (.agg (cs ++ [w]), G, []) := by
  show (Au.resL (Au true H.length d 7) (G, []) (cs ++ [w])).map _ = _
  rw [HE (UG (k := 6) cs hcs) (show Au.resL (Au true H.length d 7) (G, []) [w] = some ([w], G, []) by simp only [Au.resL, ew, ab, ai])]
  rfl
 refine ⟨hx, .agg (cs ++ [w]), H ++ [], ?_, cu _, w, rfl, hw⟩
 simp only [h1, ab, h2, EE, hg, ba, if_false, ht, e', if_true, ai, hO.out]
end
section
variable {c : Cx} {G : A4} {v v' : V} {vs vs' : List V} {M1 M2 : List Nat} {ms : List Qq}
theorem gD (h1 : AY (c.d + 1) G CA v = some (v', M1)) (h2 : Ah c ms G vs = some (vs', M2, G)) : Ah c (.M8 :: ms) G (v :: vs) = some (v' :: vs', M1 ++ M2, G) := by
 simp only [Ah, mI, mP, Fo, h1, ai, ab, h2]
theorem gF (h2 : Ah c ms G vs = some (vs', M2, G)) : Ah c (.part :: ms) G (v :: vs) = some (UA v :: vs', [] ++ M2, G) := by
 simp only [Ah, mI, mP, Fo, ab, h2, ai]
theorem gE : Ah c ms G [] = some ([], [], G) := rfl
end
section steps
variable {P : bg} {h : BI} {fk n base : Nat} {lk : Lk} {ops : Array bq} {s kk : Bool} {d : Nat} {ty : ao} {pos : String} {aft : Array Edge} {l : List (Bool × Bool × bq)} {Q : St → Prop} {T : Nat → V} {G G' H : A4} {rs : List Bf}
variable {α : Type} [AG α]
theorem lK {xs : List α} {i : Int} {x : α} {t e : ao} {y z : aw} {kd : fc} {v : V} (hs : MU xs v) (hc : Aa xs i = some x) (he : B4 P t = some e) (hz : Aw P e = some (AG.sz α)) (k : ∀ lv, BW (B0 P h fk n base lk) ops l ⟨D4 T d (.lp lv (A9 0 xs) (i.toNat * AG.sz α)), G⟩ Q)
  (h1 : ev T y = some v := by rfl) (h2 : ev T z = some (.int kd i) := by rfl) (hd : cg d n = true := by rfl) :
  BW (B0 P h fk n base lk) ops ((s, kk, ⟨some d, .indexAddr t y z, ty, pos, aft, none⟩) :: l) ⟨T, G⟩ Q := by
 rcases hs with ⟨rfl, rfl⟩ | ⟨b, m, rfl⟩ | ⟨b, rfl⟩
 ·have := Fl hc; simp at this; omega
 all_goals
  refine pV (v := .lp lk.length (A9 0 xs) (i.toNat * AG.sz α)) ?_ hd (k _)
  rw [ER]
  show (B4 P t).bind _ = _
  rw [he, ab]
  show (Aw P e).bind _ = _
  simp only [hz, h1, h2, ab, asInt, Sd, Cd]
  rw [if_pos (Fl hc)]
  rfl
theorem k8 {t e : ao} {x hi : aw} {xs ys : List α} {i b : Int} {x0 : α} {k2 : fc} {v : V} {H0 : A4} {F : List Nat} (hO : A8 H G rs) (j : Nat) (hc : Aa xs i = some x0) (hs : TH xs 0 b = some ys) (he : B4 P t = some e) (hz : Aw P e = some (AG.sz α))
  (k : ∀ w, A8 H G (S9 H0 F ys w :: rs) → BW (B0 P h fk n base lk) ops l ⟨D4 T d w, G⟩ Q) (h1 : ev T x = some v := by rfl) (h3 : ev T hi = some (.int k2 b) := by rfl) (hj : rs[j]? = some (S9 H0 F xs v) := by rfl) (hd : cg d n = true := by rfl) :
  BW (B0 P h fk n base lk) ops ((s, kk, ⟨some d, .slice t x none (some hi) none, ty, pos, aft, none⟩) :: l) ⟨T, G⟩ Q := by
 obtain ⟨q0, q1, q2⟩ := ZA hs
 have hy : ys = xs.take b.toNat := by
  unfold TH at hs
  rw [if_pos ⟨q0, q1, q2⟩] at hs
  simpa using hs.symm
 rcases (hO.tree hj).1 with ⟨rfl, rfl⟩ | ⟨bb, m, lv, hbF, rfl, hl⟩
 ·have := Fl hc; simp at this; omega
 have hyl : ys.length = b.toNat := by rw [hy, dq]; omega
 refine pV (v := .pre bb m b.toNat ((A9 0 xs).take (b.toNat * AG.sz α))) (G' := G) ?_ hd (k _ ⟨hO.pre, hO.len, fun r hr => ?_, ec.2 ⟨fun r hr c hc => (by cases hc), hO.apart⟩⟩)
 ·unfold HX C5
  simp only []
  rw [h1]
  simp only [ab, Cd, Cl]
  rw [h3]
  simp only [if_pos q1, ab]
  show (B4 P t).bind _ = _
  rw [he]
  show (Aw P e).bind _ = _
  rw [hz]
  simp only [ab]
  rw [if_pos ⟨db _, by omega⟩]
  rfl
 ·rcases bw.1 hr with rfl | hr
  ·exact ⟨fun b hb => (by cases hb), fun _ _ => .inr ⟨bb, m, lv, hbF, by rw [Ul, hy, dq]; congr 1; omega, hl⟩⟩
  ·exact hO.ok r hr
theorem Ze {f : aw} {args : Array aw} {ats : Array ao} {g : fh} {caps vs vs' cs : List V} {M F0 : List Nat} {xs ys : List α} {o : V} (hO : A8 H G rs) (j : Nat) (hr : ∀ L F, Qr G F xs (O8 o) → ∃ v H1, Ai P h g vs' G (lk ++ [L]) = some (v, H1) ∧ H1 = G ∧ ∃ w, v = .agg (cs ++ [w]) ∧ Qr G F ys w)
  (k : ∀ w F, A8 H G (rs.set j (S8 lk.length F ys w)) → BW (B0 P h fk n base lk) ops l ⟨D4 T d (.agg (cs ++ [w])), G⟩ Q)
  (h3 : Ah ((B0 P h fk n base lk).BQ s kk) (h.Es g) G (vs ++ caps) = some (vs', M, G)) (h1 : ev T f = some (.fn g caps) := by rfl) (h2 : Oq T args.toList = some vs := by rfl) (hj : rs[j]? = some (S8 lk.length F0 xs o) := by rfl) (hd : cg d n = true := by rfl) :
  BW (B0 P h fk n base lk) ops ((s, kk, ⟨some d, .call ⟨.value f, args, ats⟩, ty, pos, aft, none⟩) :: l) ⟨T, G⟩ Q := by
 have key : ∃ F m, Qr G F xs (O8 o) ∧ (∀ b ∈ F, b ∈ F0) ∧ ∀ b ∈ F, G[b]? = some (.BT lk.length m (AG.sz α)) := by
  rcases (hO.tree hj).1 with ⟨rfl, rfl⟩ | ⟨b, m, hb, rfl, hgb⟩ | ⟨b, hb, rfl, hgb⟩
  ·exact ⟨[], 0, .inl ⟨rfl, rfl⟩, fun b hb => (by cases hb), fun b hb => (by cases hb)⟩
  ·refine ⟨[b], m, .inr ⟨b, _, _, by simp, rfl, hgb⟩, fun c hc => ?_, fun c hc => ?_⟩ <;> simp only [bl] at hc <;> subst hc
   ·exact hb
   ·exact hgb
  ·refine ⟨[b], xs.length, .inr ⟨b, _, _, by simp, rfl, hgb⟩, fun c hc => ?_, fun c hc => ?_⟩ <;> simp only [bl] at hc <;> subst hc
   ·exact hb
   ·exact hgb
 obtain ⟨F, m, hF, hn, hg⟩ := key
 have hbd := (hO.tree hj).2
 obtain ⟨v, H1, e, rfl, w, rfl, hw⟩ := hr (((B0 P h fk n base lk).BQ s kk).DB g M G) F hF
 refine pV ?_ hd (k w F ⟨hO.pre, hO.len, fun r hr => ?_, E9 hO.apart hj hn⟩)
 ·rw [J1]
  simp only [h1, h2, ab, SR]
  show (Ah ((B0 P h fk n base lk).BQ s kk) (h.Es g) H1 (vs ++ caps)).bind _ = _
  rw [h3]
  exact e
 ·obtain ⟨i, hi, e⟩ := dh.1 hr
  rw [cp] at hi
  rw [ef] at e
  split at e
  ·subst e
   refine ⟨fun b hb => hbd b (hn b hb), fun G' hG' => ?_⟩
   rcases hw with hw | ⟨b, m, lv, hb, e1, e2⟩
   ·exact .inl hw
   ·rw [hg b hb] at e2
    simp only [aa, Bb.BT.injEq] at e2
    obtain ⟨rfl, rfl, _⟩ := e2
    exact .inr (.inl ⟨b, _, hb, e1, by rw [hG' b hb]; exact hg b hb⟩)
  ·subst e
   exact hO.ok _ (dc hi)
theorem A8.gU {d sz : Nat} {xs : List α} {o : V} (hO : A8 H G rs) (j : Nat) (hnz : Nz o) (hj : rs[j]? = some (.own o d sz xs.length (A9 0 xs)) := by rfl) (hsz : sz = AG.sz α := by rfl) : A8 H G (rs.set j (S8 d (Bf.own o d sz xs.length (A9 0 xs)).DC xs o)) := by
 subst hsz
 refine ⟨hO.pre, hO.len, fun r hr => ?_, E9 hO.apart hj fun y hy => hy⟩
 obtain ⟨i, hi, e⟩ := dh.1 hr
 rw [cp] at hi
 rw [ef] at e
 split at e
 ·subst e
  rcases (hO.own hj).2 with rfl | ⟨b, rfl, hbb, hgb⟩
  ·have h0 := hnz _ _ rfl
   have : xs = [] := bx h0
   subst this
   exact ⟨fun b hb => (by simp [Bf.DC] at hb), fun _ _ => .inl ⟨rfl, rfl⟩⟩
  ·refine ⟨fun c hc => ?_, fun G' hG' => .inr (.inr ⟨b, by simp [Bf.DC], rfl, by rw [hG' b (by simp [Bf.DC])]; exact hgb⟩)⟩
   simp only [Bf.DC, bl] at hc
   subst hc
   exact ⟨(al.1 hgb).1, fun h => absurd hbb (by omega)⟩
 ·subst e
  exact hO.ok _ (dc hi)
theorem gO {t e : ao} {m : Nat} {parts : Array (Nat × aw)} {ps : List (Nat × V)} {z : List V} (hO : A8 H G rs) (ys : List α) (he : B4 P t = some e) (hz : Aw P e = some (AG.sz α)) (hz0 : BG P e = some z) (hem : CH ((B0 P h fk n base lk).BQ s kk) G ps = some (ps, G)) (hb : base = H.length)
  (k : ∀ v G', Nz v → A8 H G' (.own v lk.length (AG.sz α) ys.length (A9 0 ys) :: rs) → BW (B0 P h fk n base lk) ops l ⟨D4 T d v, G'⟩ Q)
  (hlt : h.lits fk = true := by rfl) (hm0 : cg 0 m = true := by rfl) (hzl : z.length = AG.sz α := by rfl) (hm : fj (m * AG.sz α) 1048576 = true := by rfl) (hlen : m = ys.length := by rfl) (h1 : Qp T parts.toList = some ps := by rfl) (h2 : DS (fun i => some (i * AG.sz α, AG.sz α)) (ch m z).flatten ps = some (A9 0 ys) := by rfl) (hd : cg d n = true := by rfl) :
  BW (B0 P h fk n base lk) ops ((s, kk, ⟨some d, .buildSlice t m parts, ty, pos, aft, none⟩) :: l) ⟨T, G⟩ Q := by
 subst hb
 have hA := A8.FK hO lk.length ([] : List α)
 have hB : A8 H (G ++ [.BT lk.length ys.length (AG.sz α)]) (.own (.snap G.length ys.length (A9 0 ys)) lk.length (AG.sz α) ys.length (A9 0 ys) :: rs) :=
  hA.swap (k := 0) (r' := .own (.snap G.length ys.length (A9 0 ys)) lk.length (AG.sz α) ys.length (A9 0 ys)) (x := .BT lk.length ys.length (AG.sz α)) rfl rfl rfl ⟨CB ys, .inr ⟨G.length, rfl, hO.len, J4 _ _⟩⟩
 rw [← hlen] at hB
 refine pV (v := .snap G.length m (A9 0 ys)) (G' := G ++ [.BT lk.length m (AG.sz α)]) ?_ hd (k _ _ Nz.snap (by rw [← hlen]; exact hB))
 unfold HX C5
 simp only []
 rw [h1]
 simp only [ab, hem]
 show (B4 P t).bind _ = _
 rw [he]
 show (Aw P e).bind _ = _
 rw [hz]
 show (BG P e).bind _ = _
 rw [hz0]
 simp only [ab]
 have hown : ((B0 P h fk n H.length lk).BQ s kk).own m = true := by
  show (m != 0 && h.lits fk) = true
  rw [hlt]
  simp only [ke, bne_iff_ne]
  intro h0; rw [h0] at hm0; cases hm0
 simp only [hown, if_true]
 rw [if_pos ⟨hzl, eu.1 AG.pos, bp hm⟩, h2]
 rfl
end steps
section
variable {α : Type} [AG α] [Ar α] [FT α] {G H : A4} {rs : List Bf} {F : List Nat} {v : V} {xs : List α}
theorem XL : ∀ {xs : List α} {cs : List V} {F : List Nat}, Oe Ar.tr G xs cs F → cs = A9 0 xs ∧ F = []
 | [], _, _, ⟨h1, h2⟩ => ⟨h1, h2⟩
 | x :: xs, _, _, ⟨c1, c2, F1, F2, e1, e2, h1, h2⟩ => by
  obtain ⟨rfl, rfl⟩ := FT.inv h1
  obtain ⟨rfl, rfl⟩ := XL h2
  subst e1 e2
  exact ⟨rfl, rfl⟩
theorem cM {lo d : Nat} (h : D5 G xs [v] F) : UT lo d G xs v F := by
 obtain ⟨F', _, h2, h3⟩ := h
 rcases h3 with ⟨rfl, e, _⟩ | ⟨b, cells, F2, e, hb, ht, rfl⟩
 ·simp only [ei, and_true] at e
  subst e
  exact .inl rfl
 ·simp only [ei, and_true] at e
  obtain ⟨rfl, _⟩ := XL ht
  exact .inr (.inr ⟨b, e, h2 b (bu ..), hb⟩)
theorem UX {β : Type} [AG β] {lo d : Nat} {xs : List β} (h : UT lo d G xs v F) : K5 G v xs := by
 rcases h with rfl | ⟨b, rfl, _⟩ | ⟨b, rfl, _, hg⟩
 ·exact ⟨rfl, rfl⟩
 ·exact ⟨rfl, rfl⟩
 ·refine ⟨rfl, ?_⟩
  have e1 : (kf 0 (A9 0 xs)).take (xs.length * AG.sz β) = A9 0 xs := by rw [ga]; exact eh (by rw [CB]; exact ak _)
  simp only [Fu, hg, e1, CB, fy, ak, and_self, if_true]
theorem Vh {β : Type} [AG β] {d j : Nat} {xs : List β} (hO : A8 H G rs) (hj : rs[j]? = some (An H d F xs v)) : K5 G v xs := UX (hO.tree hj).1
theorem Vf {β : Type} [AG β] {d j : Nat} {xs : List β} (hO : A8 H G rs) (hj : rs[j]? = some (An H d F xs v)) : v.cellsOf = [v] ∧ v.Ba = true := by
 rcases (hO.tree hj).1 with rfl | ⟨b, rfl, _⟩ | ⟨b, rfl, _, _⟩ <;> exact ⟨rfl, rfl⟩
theorem A8.dO {d : Nat} (hO : A8 H G rs) (j : Nat) (hj : rs[j]? = some (Ck [] F xs [v]) := by rfl) : A8 H G (rs.set j (An H d F xs v)) := by
 refine ⟨hO.pre, hO.len, fun r hr => ?_, E9 hO.apart hj fun y hy => hy⟩
 obtain ⟨i, hi, e⟩ := dh.1 hr
 rw [cp] at hi
 rw [ef] at e
 split at e
 ·subst e
  obtain ⟨h1, h2⟩ := hO.tree hj
  exact ⟨h2, fun G' hg => cM (h1.mono hg)⟩
 ·subst e
  exact hO.ok _ (dc hi)
end
end Go.Proofs.YtblodpbcinkehaaGreat.K
