/-
 Part of a proof. No conditions.
-/
import Derived.Calls
import Derived.Orders
import Derived.Deep.Draws
import Derived.Laws.BytesString
import Derived.RowKit3
import Derived.Laws.Rows
import Derived.Laws.StructEq
import Derived.Laws.Append
import Derived.Laws.CopyRow
import Derived.Laws.Cells
import Derived.WideLaws
import Derived.Lib.MinMax
import Derived.Laws.Alloc2
import Derived.Laws.MakeOwn
import Derived.Laws.AppendOwn
import Derived.Great.BuildSlice
import Derived.MapKept
set_option linter.unusedVariables false
set_option linter.unusedSimpArgs false
namespace Go.Proofs.YtjklepgidjimfaaGreat.K
theorem rp {α : Sort _} {a b : α} : cond false a b = b := rfl
theorem rq {α : Sort _} {a b : α} : cond true a b = a := rfl
theorem rr {c : Prop} {h : Decidable c} (hc : ¬c) {α : Sort _} {t e : α} : ite c t e = e := if_neg hc
theorem ru {c : Prop} {h : Decidable c} (hc : c) {α : Sort _} {t e : α} : ite c t e = t := if_pos hc
theorem rv {p : Prop} {h : Decidable p} : decide p = false ↔ ¬p := decide_eq_false_iff_not
theorem ry {p : Prop} [Decidable p] : (decide p = true) = p := decide_eq_true_eq
theorem rz {α : Type _} [BEq α] [LawfulBEq α] (a : α) : (a != a) = false := bne_self_eq_false a
theorem sa {α : Type _} [BEq α] [ReflBEq α] (a : α) : (a == a) = true := beq_self_eq_true a
open Go renaming IntKind → jo, FuncId → jc, Value → eu, Operand → ed, Program → ep, TypeId → ea, Oper → fc, ResultVar → ir, World → je
open List renaming range → gj, replicate → gf, all_eq_true → gb, mem_of_mem_take → pn, map_nil → jx, map_cons → gq, getElem?_cons_zero → iz, tail → rn, eq_nil_of_length_eq_zero → ff, getElem?_map → ic, getElem?_eq_getElem → dr, getElem?_eq_none → en, length_take → gh, getElem?_take → gm, getElem?_drop → jd, getElem?_range → jl, map_toArray → lz, getElem?_toArray → ly, foldlM_cons → qg, foldlM_nil → qk, getElem?_set → mb, length_map → ja, length_range → lh, length_append → dw, length_singleton → jm, take_of_length_le → jy, all_cons → jr, cons_append → ie, getElem?_append_left → eh, append_assoc → eo, getElem?_take_of_lt → jg, getElem?_append_right → fe, getElem?_of_mem → po, getElem?_eq_some_iff → du, getElem_mem → gl, size_toArray → mu, length_drop → ko, replicate_succ → ny, flatten_cons → qc, take_left → oe, mem_cons_self → fh, mem_cons_of_mem → fm, mem_of_getElem? → ee, mem_or_eq_of_mem_set → mq, length_set → fa, mem_append → eb, mem_singleton → dt
open Nat renaming le_refl → dz, le_trans → fg, not_lt → ib, lt_of_lt_of_le → fw, zero_le → ga, add_assoc → la, lt_or_ge → fp, zero_add → kb, mul_le_mul_right → jz, le_of_lt → kf, ne_of_lt → rh, add_zero → nr, add_mul → kq, one_mul → rj, zero_mul → pd, mul_eq_zero → qp, lt_irrefl → lq, mul_add → rk, mul_one → rl
open Option.some renaming injEq → an
open Option renaming bind_eq_some_iff → dj, map_eq_some_iff → dn, map_some → dq, getD_some → ji, map_none → kl
open Bool renaming false_eq_true → ei, and_eq_true → ec, not_eq_true' → jj, or_eq_true → gg, not_eq_false → qb
open _root_.Array renaming ext' → mf, getElem?_eq_some_iff → ef, getElem?_push → lb, size_push → mz, getElem?_toList → jf, length_toList → ld, getElem?_eq_getElem → lf, eq_empty_of_size_eq_zero → nz, range_zero' → mo, size_append → py, toList_append → pq, ext_getElem? → pt
open Prod.mk renaming injEq → dk
inductive V where
 | int (k : jo) (n : Int)
 | bool (b : Bool)
 | str (s : ByteArray)
 | HV
 | ptr (b off : Nat)
 | lp (lv : Nat) (cells : List V) (off : Nat)
 | lit (lv len : Nat) (cells : List V)
 | tl (len : Nat) (cells : List V)
 | snap (b len : Nat) (cells : List V)
 | pre (b n len : Nat) (cells : List V)
 | sl (b off len : Nat)
 | agg (cells : List V)
 | Ei (vs : List V)
 | fn (f : jc) (caps : List V)
 | EI
 | Cm (b : Nat)
 deriving Inhabited
inductive Bv where
 | cells (sz : Nat) (cs : List V)
 | Bt (lv n sz : Nat)
 | dead
 | mp (BC : List (V × V))
 deriving Inhabited
abbrev A5 := List Bv
abbrev Lk := List (List Nat)
inductive SZ where | J1 | exact | share | part | O2 (k : Nat) (sh : Bool)
 deriving DecidableEq
structure BX where
 Df : jc → List SZ
 Ti : jc → Bool
 grow : jc → Bool
 Ih : jc → Bool
 lits : jc → Bool := fun _ => false
 XE : jc → Bool := fun _ => false
 iO : jc → Bool := fun _ => false
def V.cellsOf : V → List V
 | .agg cs => cs
 | v => [v]
def V.Bm : V → Bool
 | .agg _ | .Ei _ => false
 | _ => true
def CT : V := .Ei []
def DW : eu → Option V
 | .int k n => some (.int k n)
 | .bool b => some (.bool b)
 | .string s => some (.str s)
 | .pointer none => some .HV
 | .slice none 0 0 => some (.tl 0 [])
 | .nilFunc => some .EI
 | .map none => some .EI
 | _ => none
def Mc : List eu → Option (List V)
 | [] => some []
 | v :: vs => (DW v).bind fun x => (Mc vs).map (x :: ·)
def Es : eu → Option V
 | .agg cs => (Mc cs.toList).map .agg
 | v => DW v
structure St where
 T : Nat → V
 H : A5
def St.set (S : St) (d : Nat) (v : V) : St := { S with T := fun i => if i = d then v else S.T i }
def St.put (S : St) (d : Option Nat) (v : V) : St := match d with | some d => S.set d v | none => S
def ev (T : Nat → V) : ed → Option V
 | .tmp t => some (T t)
 | .const v => Es v
 | .func f => some (.fn f [])
 | .global _ => none
section types
variable (P : ep)
def B3 (t : ea) : Option Nat := (P.info? t).map (·.size)
def C3 (t : ea) : Option Nat := (P.info? t).map (·.bytes)
def D7 (t : ea) : Option Bool :=
 match P.underlying t with
 | some (.struct _) | some (.array _ _) => some true
 | some _ => some false
 | none => none
def BH (t : ea) : Option (List V) := ((P.info? t).bind (·.zero)).bind fun z => (Es z).map V.cellsOf
def B0 (t : ea) : Option ea := match P.underlying t with | some (.slice e) => some e | _ => none
def AL (s : ea) (f : Nat) : Option Nat :=
 match P.underlying s with
 | some (.struct fs) => match fs[f]? with
  | some g => match B3 P g.type with
   | some (_ + 1) => some g.offset
   | _ => none
  | none => none
 | _ => none
def Dy (t : ea) : Option (List (Nat × Nat)) :=
 match P.underlying t with
 | some (.struct fs) => fs.toList.mapM fun f => (P.info? f.type).map fun i => (f.offset, i.size)
 | _ => none
def tI (e : ea) : Bool := match P.underlying e with | some (.int .u8) => true | _ => false
inductive Sc where | b | i | s
 deriving DecidableEq
def FQ (t : ea) : Option Sc :=
 match P.underlying t with
 | some .bool => some .b
 | some (.int _) => some .i
 | some .string => some .s
 | _ => none
def FE (n : Nat) : List Field → Option (List Sc)
 | [] => some []
 | f :: fs => if f.name ≠ "_" ∧ f.offset = n ∧ B3 P f.type = some 1 then (FQ P f.type).bind fun k => (FE (n + 1) fs).map (k :: ·) else none
def II (t : ea) : Option (List Sc) :=
 match P.underlying t with
 | some (.struct fs) => if !P.stoodInHeld t && !P.eqGuardType P.depth t then FE P 0 fs.toList else none
 | _ => none
end types
def Jp (acc : ByteArray) : List V → Option ByteArray
 | [] => some acc
 | .int .u8 n :: cs => Jp (acc.push (UInt8.ofNat n.toNat)) cs
 | _ => none
def CA (cs : List V) (off : Nat) (xs : List V) : List V := cs.take off ++ xs ++ cs.drop (off + xs.length)
def Fw : Sc → V → V → Option Bool
 | .i, .int k a, .int k' b => if k = k' then some (a == b) else none
 | .b, .bool a, .bool b => some (a == b)
 | .s, .str a, .str b => some (a.toList == b.toList)
 | _, _, _ => none
def DC : List Sc → List V → List V → Option Bool
 | [], _, _ => some true
 | k :: ks, x :: xs, y :: ys => (Fw k x y).bind fun b => if b then DC ks xs ys else some false
 | _, _, _ => none
def XJ (op : BinOp) (k : jo) (a b : Int) : Option V :=
 match op with
 | .add => some (.int k (k.wrap (a + b)))
 | .sub => some (.int k (k.wrap (a - b)))
 | .mul => some (.int k (k.wrap (a * b)))
 | .quo => if b = 0 then none else some (.int k (k.wrap (a.tdiv b)))
 | .rem => if b = 0 then none else some (.int k (a.tmod b))
 | .xor => some (.int k (k.wrap (BitVec.ofInt k.bits a ^^^ BitVec.ofInt k.bits b).toNat))
 | .eql => some (.bool (a == b))
 | .neq => some (.bool (a != b))
 | .lss => some (.bool (decide (a < b)))
 | .leq => some (.bool (decide (a ≤ b)))
 | .gtr => some (.bool (decide (a > b)))
 | .geq => some (.bool (decide (a ≥ b)))
 | _ => none
def Tz (P : ep) (op : BinOp) (t : ea) (x y : V) : Option V :=
 match x, y with
 | .int k a, .int k' b => if k = k' then XJ op k a b else none
 | .bool a, .bool b =>
  match op, P.underlying t with
  | .eql, some .bool => some (.bool (a == b))
  | .neq, some .bool => some (.bool (!(a == b)))
  | _, _ => none
 | .str a, .str b =>
  match op with
  | .eql => some (.bool (a.toList == b.toList))
  | .neq => some (.bool !(a.toList == b.toList))
  | .add => if a.size + b.size ≤ 1099511627776 then some (.str (a ++ b)) else none
  | _ => none
 | .agg xs, .agg ys =>
  (II P t).bind fun ks =>
   match op with
   | .eql => (DC ks xs ys).map .bool
   | .neq => (DC ks xs ys).map fun b => .bool !b
   | _ => none
 | _, _ => none
def sQ (op : UnOp) (x : V) : Option V :=
 match op, x with
 | .not, .bool b => some (.bool !b)
 | .neg, .int k n => some (.int k (k.wrap (0 - n)))
 | _, _ => none
def D4 : V → Option Nat
 | .lit _ n _ | .tl n _ | .snap _ n _ | .pre _ _ n _ | .sl _ _ n => some n
 | _ => none
def Hl (H : A5) (sz : Nat) : V → Option (List V)
 | .lit _ _ cs | .tl _ cs | .snap _ _ cs | .pre _ _ _ cs => some cs
 | .sl b off len => match H[b]? with
  | some (.cells z cs) => if z = sz ∧ off + len * sz ≤ cs.length then some ((cs.drop off).take (len * sz)) else none
  | _ => none
 | _ => none
def BN (P : ep) (t : ea) (cs : List V) (off : Nat) : Option V :=
 match D7 P t with
 | some true => (B3 P t).bind fun n => if off + n ≤ cs.length then some (.agg ((cs.drop off).take n)) else none
 | some false => cs[off]?
 | none => none
def Fg (P : ep) (t : ea) (H : A5) : V → Option V
 | .ptr b off => match H[b]? with
  | some (.cells _ cs) => BN P t cs off
  | _ => none
 | .lp _ cs off => BN P t cs off
 | _ => none
def clean (d : Nat) : V → Bool
 | .int .. | .bool _ | .str _ | .HV | .EI => true
 | .lit lv _ cs => (lv == 0 || decide (lv < d)) && cleanL cs
 | .agg cs => cleanL cs
 | .Ei cs => cleanL cs
 | _ => false
where
 cleanL : List V → Bool
  | [] => true
  | v :: vs => clean d v && cleanL vs
def AV (lo : Nat) : Nat → A5 → V → Option (V × A5)
 | 0, _, _ => none
 | k + 1, H, v =>
  match v with
  | .int .. | .bool _ | .str _ | .HV | .EI => some (v, H)
  | .lit .. => if clean 1 v then some (v, H) else none
  | .tl n cs => (giveL (AV lo k) H cs).map fun r => (.lit 0 n r.1, r.2)
  | .snap b n cs => match H[b]? with
   | some (.Bt _ m _) => if b < lo ∨ m ≠ n then none else (giveL (AV lo k) (H.set b .dead) cs).map fun r => (.lit 0 n r.1, r.2)
   | _ => none
  | .sl b off n => match H[b]? with
   | some (.cells sz cs) => if b < lo ∨ cs.length < off + n * sz then none else
     (giveL (AV lo k) (H.set b .dead) ((cs.drop off).take (n * sz))).map fun r => (.lit 0 n r.1, r.2)
   | _ => none
  | .agg cs => (giveL (AV lo k) H cs).map fun r => (.agg r.1, r.2)
  | _ => none
where
 giveL (f : A5 → V → Option (V × A5)) : A5 → List V → Option (List V × A5)
  | H, [] => some ([], H)
  | H, v :: vs => (f H v).bind fun r => (giveL f r.2 vs).map fun q => (r.1 :: q.1, q.2)
def BS (d : Nat) : V → Bool
 | .int .. | .bool _ | .str _ | .HV | .EI | .ptr .. | .sl .. | .Cm _ => true
 | .lit lv _ cs => (lv == 0 || decide (lv < d)) && cleanGL cs
 | .agg cs => cleanGL cs
 | .Ei cs => cleanGL cs
 | .tl _ cs => cleanGL cs
 | .snap _ _ cs => cleanGL cs
 | .fn _ cs => cleanGL cs
 | _ => false
where
 cleanGL : List V → Bool
  | [] => true
  | v :: vs => BS d v && cleanGL vs
def Al (lv : Nat) (H : A5) : Nat → V → Option (V × List Nat)
 | 0, _ => none
 | k + 1, v =>
  match v with
  | .int .. | .bool _ | .str _ | .HV | .EI | .ptr .. | .Cm .. | .lp .. | .lit .. | .fn .. => some (v, [])
  | .tl n cs => (lendL (Al lv H k) cs).map fun r => (.lit lv n r.1, r.2)
  | .snap _ n cs => (lendL (Al lv H k) cs).map fun r => (.lit lv n r.1, r.2)
  | .pre _ _ n cs => (lendL (Al lv H k) cs).map fun r => (.lit lv n r.1, r.2)
  | .sl b off n => match H[b]? with
   | some (.cells sz cs) => if cs.length < off + n * sz then none else
     (lendL (Al lv H k) ((cs.drop off).take (n * sz))).map fun r => (.lit lv n r.1, b :: r.2)
   | _ => none
  | .agg cs => (lendL (Al lv H k) cs).map fun r => (.agg r.1, r.2)
  | .Ei _ => none
where
 lendL (f : V → Option (V × List Nat)) : List V → Option (List V × List Nat)
  | [] => some ([], [])
  | v :: vs => (f v).bind fun r => (lendL f vs).map fun q => (r.1 :: q.1, r.2 ++ q.2)
def BO (th : Bool) (lo d : Nat) : Nat → A5 × List Bv → V → Option (V × A5 × List Bv)
 | 0, _, _ => none
 | k + 1, X, v =>
  match v with
  | .int .. | .bool _ | .str _ | .HV | .EI => some (v, X)
  | .ptr b _ => if b < lo then some (v, X) else none
  | .Cm b => if b < lo then some (v, X) else none
  | .lit .. => if clean d v then some (v, X) else none
  | .tl n cs => if n = 0 then some (if th then .tl 0 [] else .lit 0 0 [], X) else (resL (BO th lo d k) X cs).map fun r => (.lit 0 n r.1, r.2)
  | .snap b n cs => match X.1[b]? with
   | some (.Bt l m sz) => if b < lo ∨ m ≠ n ∨ l < d then none else
     (resL (BO th lo d k) (X.1.set b .dead, X.2) cs).bind fun r =>
      if th then if cs.length = n * sz then some (.sl (lo + r.2.2.length) 0 n, r.2.1, r.2.2 ++ [.cells sz r.1]) else none else some (.lit 0 n r.1, r.2)
   | _ => none
  | .pre b m0 n cs => match X.1[b]? with
   | some (.Bt l m sz) => if m ≠ m0 then none else if b < lo then (if clean.cleanL d cs then some (v, X) else none) else if l < d then none else
     (resL (BO th lo d k) (X.1.set b .dead, X.2) cs).bind fun r =>
      if th then if cs.length = n * sz then some (.sl (lo + r.2.2.length) 0 n, r.2.1, r.2.2 ++ [.cells sz r.1]) else none else some (.lit 0 n r.1, r.2)
   | _ => none
  | .sl b off n => if b < lo then some (v, X) else match X.1[b]? with
   | some (.cells sz cs) => if cs.length < off + n * sz then none else
     (resL (BO th lo d k) (X.1.set b .dead, X.2) ((cs.drop off).take (n * sz))).bind fun r =>
      if th then if off = 0 ∧ n * sz = cs.length then some (.sl (lo + r.2.2.length) 0 n, r.2.1, r.2.2 ++ [.cells sz r.1]) else none else some (.lit 0 n r.1, r.2)
   | _ => none
  | .agg cs => (resL (BO th lo d k) X cs).map fun r => (.agg r.1, r.2)
  | .Ei cs => (resL (BO th lo d k) X cs).map fun r => (.Ei r.1, r.2)
  | _ => none
where
 resL (f : A5 × List Bv → V → Option (V × A5 × List Bv)) : A5 × List Bv → List V → Option (List V × A5 × List Bv)
  | X, [] => some ([], X)
  | X, v :: vs => (f X v).bind fun r => (resL f r.2 vs).map fun q => (r.1 :: q.1, q.2)
def Ba : Nat := 8
structure Cx where
 P : ep
 hints : BX
 fn : jc
 ntmps : Nat
 base : Nat
 lk : Lk
 still : Bool := false
 calm : Bool := false
 Γ : jc → List V → A5 → Lk → Option (V × A5)
def Cx.d (c : Cx) : Nat := c.lk.length
def Cx.lits (c : Cx) : Bool := c.hints.lits c.fn || c.hints.iO c.fn
def Cx.own (c : Cx) (n : Nat) : Bool := n != 0 && c.hints.lits c.fn
def AT (lk : Lk) (b : Nat) : Bool := lk.all fun l => !l.contains b
def Cx.Bi (c : Cx) (b : Nat) : Bool := decide (c.base ≤ b) || AT c.lk b
def Ld (T : Nat → V) : List ed → Option (List V)
 | [] => some []
 | o :: os => (ev T o).bind fun v => (Ld T os).map (v :: ·)
def V1 : V → V
 | .snap b n cs => .pre b n n cs
 | v => v
def dY : V → V
 | .agg cs => .agg (cs.map V1)
 | v => V1 v
def QT : V → Bool
 | .tl 0 [] => true
 | _ => false
def E8 (c : Cx) (m : SZ) (H : A5) (v : V) : Option (V × List Nat × A5) :=
 match m with
 | .J1 => (Al (c.d + 1) H Ba v).map fun r => (r.1, r.2, H)
 | .exact => some (v, [], H)
 | .part => some (dY v, [], H)
 | .share => if c.calm then none else (AV c.base Ba H v).map fun r => (r.1, [], r.2)
 | .O2 k sh => match v with
  | .agg cs => if (cs.drop k).all QT = true then
    (if sh then if c.calm then none else (AV c.base Ba H (.agg (cs.take k))).map fun r => (r.1, [], r.2) else (Al (c.d + 1) H Ba (.agg (cs.take k))).map fun r => (r.1, r.2, H)).bind fun q => match q.1 with
     | .agg xs => some (.agg (xs ++ cs.drop k), q.2)
     | _ => none
   else none
  | _ => none
def Cx.C6 (c : Cx) (g : jc) (L : List Nat) (H : A5) : List Nat :=
 if c.calm then L ++ gj H.length else if c.hints.grow g && !c.hints.grow c.fn then L ++ gj c.base else L
def AW (c : Cx) : List SZ → A5 → List V → Option (List V × List Nat × A5)
 | _, H, [] => some ([], [], H)
 | ms, H, v :: vs =>
  (E8 c (ms.headD .J1) H v).bind fun r => (AW c ms.tail r.2.2 vs).map fun q => (r.1 :: q.1, r.2.1 ++ q.2.1, q.2.2)
def WB : V → Bool
 | .snap _ _ cs | .tl _ cs => clean.cleanL 1 cs && cs.all V.Bm
 | .agg _ | .Ei _ => false
 | v => clean 1 v
def sX : V → Bool
 | .agg cs => cs.all WB
 | v => WB v
def Fb (c : Cx) (H : A5) (v : V) : Option (V × A5) := if c.hints.Ih c.fn then some (v, H) else if c.still then (if clean 1 v then some (v, H) else if (c.hints.iO c.fn && sX v) = true then AV c.base Ba H v else none) else AV c.base Ba H v
def G0 (c : Cx) (t : ea) (H : A5) (a x : V) : Option A5 :=
 match a with
 | .ptr b off =>
  if c.Bi b then
   (if b < c.base then (if c.hints.grow c.fn then if BS 1 x then some (x, H) else none else AV c.base Ba H x) else some (x, H)).bind fun r =>
   match r.2[b]? with
   | some (.cells sz cs) =>
    if B3 c.P t = some r.1.cellsOf.length ∧ off + r.1.cellsOf.length ≤ cs.length ∧ r.1.cellsOf.all V.Bm = true then
     some (r.2.set b (.cells sz (CA cs off r.1.cellsOf)))
    else none
   | _ => none
  else none
 | _ => none
def ER (c : Cx) (st xt : ea) (H : A5) (s x : V) : Option (V × A5) :=
 (B0 c.P st).bind fun e => (B3 c.P e).bind fun sz => (C3 c.P e).bind fun by_ => (BH c.P e).bind fun z =>
 if (B0 c.P xt).isSome ∧ sz ≠ 0 ∧ z.length = sz then
  (D4 x).bind fun n => (Hl H sz x).bind fun xs =>
  if xs.length = n * sz ∧ xs.all V.Bm = true then
   match s with
   | .tl m cs =>
    if n = 0 then some (s, H) else
    if cs.length = m * sz ∧ (m + n) * (by_ + 1) ≤ 70368744177664 then some (.snap H.length (m + n) (cs ++ xs), H ++ [.Bt c.d (m + n) sz]) else none
   | .snap b m cs =>
    if n = 0 then some (s, H) else
    match H[b]? with
    | some (.Bt l m' wg) =>
     if cs.length = m * sz ∧ (m + n) * (by_ + 1) ≤ 70368744177664 ∧ m' = m ∧ wg = sz ∧ c.Bi b = true then
      some (.snap b (m + n) (cs ++ xs), H.set b (.Bt l (m + n) sz)) else none
    | _ => none
   | _ => none
  else none
 else none
def MM (c : Cx) (r : V × A5) : Option (V × A5) :=
 if c.hints.XE c.fn then match r.1 with
  | .snap b n cs => if clean.cleanL 1 cs && cs.all V.Bm then match r.2[b]? with
    | some (.Bt _ _ _) => AV c.base Ba r.2 (.snap b n cs)
    | _ => none
   else none
  | .tl n cs => if clean.cleanL 1 cs && cs.all V.Bm then AV c.base Ba r.2 (.tl n cs) else none
  | _ => none
 else some r
def WR : V → V
 | .tl 0 [] => .lit 0 0 []
 | v => v
def IQ (kp : Bool) (v : V) : V := if kp then v else WR v
def K5 (P : ep) (kp : Bool) (t : ea) (H : A5) (n m : V) : Option (V × A5) :=
 match n, m with
 | .int .i64 a, .int .i64 b =>
  (B0 P t).bind fun e => (B3 P e).bind fun sz => (C3 P e).bind fun by_ => (BH P e).bind fun z =>
  if a = b ∧ 0 ≤ a ∧ a * (by_ + 1) ≤ 70368744177664 ∧ z.length = sz ∧ sz ≠ 0 then
   some (.sl H.length 0 a.toNat, H ++ [.cells sz (gf a.toNat (z.map (IQ kp))).flatten])
  else none
 | _, _ => none
def Eo (place : Nat → Option (Nat × Nat)) (cells : List V) : List (Nat × V) → Option (List V)
 | [] => some cells
 | (i, v) :: rest => match place i with
  | none => none
  | some (off, sz) => if v.cellsOf.length ≠ sz ∨ cells.length < off + sz ∨ v.cellsOf.all V.Bm = false then none else Eo place (CA cells off v.cellsOf) rest
def Cd (c : Cx) : A5 → List (Nat × V) → Option (List (Nat × V) × A5)
 | H, [] => some ([], H)
 | H, (i, v) :: r => (Fb c H v).bind fun x => (Cd c x.2 r).map fun q => ((i, x.1) :: q.1, q.2)
def Sp (T : Nat → V) : List (Nat × ed) → Option (List (Nat × V))
 | [] => some []
 | (i, o) :: os => (ev T o).bind fun v => (Sp T os).map ((i, v) :: ·)
def Be : V → Bool
 | .int .. | .bool _ | .str _ => true
 | .agg cs => cs.all fun | .int .. | .bool _ | .str _ => true | _ => false
 | _ => false
def DI : V → eu
 | .int k n => .int k n
 | .bool b => .bool b
 | .str s => .string s
 | _ => .pointer none
def B6 : V → eu
 | .agg cs => .agg (cs.map DI).toArray
 | v => DI v
def GK (BC : List (V × V)) : Array MapEntry := (BC.zipIdx.map fun x => { key := B6 x.1.1, val := B6 x.1.2, born := x.2 }).toArray
inductive KT where | one (q : Sc) | many (ks : List Sc)
 deriving DecidableEq
def RP (P : ep) (k : ea) : Option KT := match FQ P k with
 | some q => some (.one q)
 | none => (II P k).bind fun ks => if ks.all (fun q => decide (q ≠ .s)) then some (.many ks) else none
def EM : KT → V → V → Option Bool
 | .one .s, .str a, .str b => some (a == b)
 | .one .s, _, _ => none
 | .one q, x, y => Fw q x y
 | .many ks, .agg xs, .agg ys => if xs.length = ks.length ∧ ys.length = ks.length then DC ks xs ys else none
 | _, _, _ => none
def Fc (kt : KT) (k : V) : List (V × V) → Nat → Option (Option (Nat × V))
 | [], _ => some none
 | e :: es, i => (EM kt k e.1).bind fun b => if b then some (some (i, e.2)) else Fc kt k es (i + 1)
def Kk (P : ep) (t : ea) : Option (KT × ea) := match P.underlying t with
 | some (.map k e) => (RP P k).map fun kt => (kt, e)
 | _ => none
def L0 (P : ep) (e : ea) : Option V := ((P.info? e).bind (·.zero)).bind Es
def Jf (P : ep) (t : ea) (H : A5) (x k : V) (ok : Bool) : Option V :=
 match x with
 | .Cm b => match H[b]? with
  | some (.mp BC) => (Kk P t).bind fun q => if Be k ∧ EM q.1 k k = some true then (Fc q.1 k BC 0).bind fun
    | some (_, v) => some (if ok then .Ei [v, .bool true] else v)
    | none => (L0 P q.2).map fun z => if ok then .Ei [z, .bool false] else z
   else none
  | _ => none
 | _ => none
def Tl (c : Cx) (t : ea) (H : A5) (x k v : V) : Option A5 :=
 match x with
 | .Cm b => match H[b]? with
  | some (.mp BC) => (Kk c.P t).bind fun q => if Be k ∧ Be v ∧ EM q.1 k k = some true ∧ c.Bi b = true then (Fc q.1 k BC 0).map fun
    | some (i, _) => H.set b (.mp (BC.set i (k, v)))
    | none => H.set b (.mp (BC ++ [(k, v)]))
   else none
  | _ => none
 | _ => none
def IZ (c : Cx) (t : ea) (H : A5) (x k : V) : Option (V × A5) :=
 match x with
 | .Cm b => match H[b]? with
  | some (.mp BC) => (Kk c.P t).bind fun q => if Be k ∧ EM q.1 k k = some true ∧ c.Bi b = true then (Fc q.1 k BC 0).bind fun
    | some (i, v) => some (.Ei [v, .int .i64 i], H.set b (.mp (BC.set i (k, v))))
    | none => (L0 c.P q.2).bind fun z => if Be z then some (.Ei [z, .int .i64 BC.length], H.set b (.mp (BC ++ [(k, z)]))) else none
   else none
  | _ => none
 | _ => none
def L7 (c : Cx) (H : A5) (x stamp v : V) : Option A5 :=
 match x, stamp with
 | .Cm b, .int _ i => match H[b]? with
  | some (.mp BC) => if 0 ≤ i ∧ Be v ∧ c.Bi b = true then (BC[i.toNat]?).map fun e => H.set b (.mp (BC.set i.toNat (e.1, v))) else none
  | _ => none
 | _, _ => none
def Cy (T : Nat → V) (n : Nat) : Option ed → Option Nat
 | none => some n
 | some o => match ev T o with
  | some (.int _ i) => if 0 ≤ i then some i.toNat else none
  | _ => none
def Cn (c : Cx) (o : fc) (S : St) : Option (V × A5) :=
 let q (x : Option V) : Option (V × A5) := x.map fun v => (v, S.H)
 match o.op with
 | .move x | .assign x => q (ev S.T x)
 | .pick cnd a b => match ev S.T cnd with
  | some (.bool true) => q (ev S.T a)
  | some (.bool false) => q (ev S.T b)
  | _ => none
 | .alloc t => (B3 c.P t).bind fun sz => (BH c.P t).bind fun z => some (.ptr S.H.length 0, S.H ++ [.cells sz z])
 | .box t x => (B3 c.P t).bind fun sz => (ev S.T x).bind fun v => if v.cellsOf.all V.Bm then some (.ptr S.H.length 0, S.H ++ [.cells sz v.cellsOf]) else none
 | .build t parts => (Sp S.T parts.toList).bind fun ps => (BH c.P t).bind fun z => (Dy c.P t).bind fun pl =>
   q ((Eo (fun i => pl[i]?) z ps).map .agg)
 | .buildSlice t n parts => (Sp S.T parts.toList).bind fun ps => (Cd c S.H ps).bind fun r =>
   (B0 c.P t).bind fun e => (B3 c.P e).bind fun sz => (BH c.P e).bind fun z =>
   if z.length = sz ∧ sz ≠ 0 ∧ n * sz ≤ 1048576 then
    (Eo (fun i => some (i * sz, sz)) (gf n z).flatten r.1).map fun cs => if c.own n = true then (.snap r.2.length n cs, r.2 ++ [.Bt c.d n sz]) else (.tl n cs, r.2)
   else none
 | .load t a => (ev S.T a).bind fun v => q (Fg c.P t S.H v)
 | .store t a x => (ev S.T a).bind fun p => (ev S.T x).bind fun v => (G0 c t S.H p v).map fun H => (CT, H)
 | .nilCheck x => match ev S.T x with
  | some (.ptr b off) => q (some (.ptr b off))
  | some (.lp lv cs off) => q (some (.lp lv cs off))
  | _ => none
 | .binOp op t x y _ => (ev S.T x).bind fun a => (ev S.T y).bind fun b => q (Tz c.P op t a b)
 | .unOp op _ x => (ev S.T x).bind fun a => q (sQ op a)
 | .convert src dst x => match c.P.underlying src, c.P.underlying dst, ev S.T x with
  | some (.int _), some (.int k), some (.int _ n) => q (some (.int k (k.wrap n)))
  | some (.slice e), some .string, some (.tl n cs) => if n = cs.length ∧ tI c.P e = true then q ((Jp .empty cs).map .str) else none
  | _, _, _ => none
 | .makeFunc fn first caps => match fn, first.toList with
  | .func f, [] => (Ld S.T caps.toList).bind fun vs => q (some (.fn f vs))
  | _, _ => none
 | .makeSlice t n m => (ev S.T n).bind fun a => (ev S.T m).bind fun b => K5 c.P (c.hints.Ih c.fn) t S.H a b
 | .slice t x lo hi mx => match mx with
  | none => (ev S.T x).bind fun v => (D4 v).bind fun n => (Cy S.T 0 lo).bind fun l => (Cy S.T n hi).bind fun h =>
   (B0 c.P t).bind fun e => (B3 c.P e).bind fun sz =>
   if l ≤ h ∧ h ≤ n then
    match v with
    | .lit lv _ cs => q (some (.lit lv (h - l) ((cs.drop (l * sz)).take ((h - l) * sz))))
    | .tl _ cs => q (some (.lit 0 (h - l) ((cs.drop (l * sz)).take ((h - l) * sz))))
    | .snap _ _ cs => q (some (.lit c.d (h - l) ((cs.drop (l * sz)).take ((h - l) * sz))))
    | .pre b m0 _ cs => q (if l = 0 then some (.pre b m0 h (cs.take (h * sz))) else none)
    | .sl b off _ => q (some (if l = h then .lit 0 0 [] else .sl b (off + l * sz) (h - l)))
    | _ => none
   else none
  | some mx => match lo, hi with
   | none, some hi => (ev S.T x).bind fun v => (D4 v).bind fun _ => (B0 c.P t).bind fun e => (B3 c.P e).bind fun _ =>
    match ev S.T hi, ev S.T mx with
    | some (.int _ i), some (.int _ j) => if i = 0 ∧ j = 0 then q (some (.tl 0 [])) else none
    | _, _ => none
   | _, _ => none
 | .fieldAddr s x f => (AL c.P s f).bind fun off => match ev S.T x with
  | some (.ptr b o) => q (some (.ptr b (o + off)))
  | some (.lp lv cs o) => q (some (.lp lv cs (o + off)))
  | _ => none
 | .field s x f => (AL c.P s f).bind fun off => match c.P.underlying s with
  | some (.struct fs) => match fs[f]?, ev S.T x with
   | some g, some (.agg cs) => q (BN c.P g.type cs off)
   | _, _ => none
  | _ => none
 | .indexAddr t x i => (B0 c.P t).bind fun e => (B3 c.P e).bind fun sz => (ev S.T x).bind fun v => match ev S.T i with
  | some (.int _ n) => (D4 v).bind fun len => if 0 ≤ n ∧ n < len then
    match v with
    | .lit lv _ cs => q (some (.lp lv cs (n.toNat * sz)))
    | .tl _ cs => q (some (.lp 0 cs (n.toNat * sz)))
    | .snap _ _ cs => q (some (.lp c.d cs (n.toNat * sz)))
    | .pre _ _ _ cs => q (some (.lp c.d cs (n.toNat * sz)))
    | .sl b off _ => q (some (.ptr b (off + n.toNat * sz)))
    | _ => none
   else none
  | _ => none
 | .index t x i => match c.P.underlying t, ev S.T x, ev S.T i with
  | some .string, some (.str s), some (.int _ n) => if 0 ≤ n then q ((s[n.toNat]?).map fun b => .int .u8 b.toNat) else none
  | _, _, _ => none
 | .extract x i => match ev S.T x with
  | some (.Ei vs) => q vs[i]?
  | _ => none
 | .makeMap _ none => some (.Cm S.H.length, S.H ++ [.mp []])
 | .lookup t x k ok => (ev S.T x).bind fun m => (ev S.T k).bind fun kv => q (Jf c.P t S.H m kv ok)
 | .mapUpdate t x k v => (ev S.T x).bind fun m => (ev S.T k).bind fun kv => (ev S.T v).bind fun w => (Tl c t S.H m kv w).map fun H => (CT, H)
 | .mapEntry t x k => (ev S.T x).bind fun m => (ev S.T k).bind fun kv => IZ c t S.H m kv
 | .entryStore _ x st v => (ev S.T x).bind fun m => (ev S.T st).bind fun s => (ev S.T v).bind fun w => (L7 c S.H m s w).map fun H => (CT, H)
 | .call k => match k.callee with
  | .builtin .len => match k.args.toList, k.argTypes[0]? with
   | [x], some t => match c.P.underlying t, ev S.T x with
    | some .string, some (.str s) => q (some (.int .i64 s.size))
    | some (.slice _), some v => (D4 v).bind fun n => q (some (.int .i64 n))
    | _, _ => none
   | _, _ => none
  | .builtin .append => match k.args.toList, k.argTypes.toList with
   | [s, x], [st, xt] => (ev S.T s).bind fun a => (ev S.T x).bind fun b => (ER c st xt S.H a b).bind (MM c)
   | _, _ => none
  | .builtin .min => match k.args.toList with
   | [x, y] => match ev S.T x, ev S.T y with
    | some (.int k a), some (.int _ b) => q (some (.int k (if b < a then b else a)))
    | _, _ => none
   | _ => none
  | .builtin .max => match k.args.toList with
   | [x, y] => match ev S.T x, ev S.T y with
    | some (.int k a), some (.int _ b) => q (some (.int k (if b > a then b else a)))
    | _, _ => none
   | _ => none
  | .value f => match ev S.T f with
   | some (.fn g caps) => (Ld S.T k.args.toList).bind fun vs =>
    (AW c (c.hints.Df g) S.H (vs ++ caps)).bind fun r =>
     c.Γ g r.1 r.2.2 (c.lk ++ [c.C6 g r.2.1 r.2.2])
   | _ => none
  | _ => none
 | _ => none
def Jg (c : Cx) (o : fc) (S : St) : Option St :=
 match o.dst with
 | none => (Cn c o S).map fun r => { S with H := r.2 }
 | some d => if d < c.ntmps then (Cn c o S).map fun r => { S with H := r.2 }.set d r.1 else none
def DF (ops : Array fc) (T : Nat → V) (o : fc) : Option Bool :=
 match o.guard with
 | none => some true
 | some (j, want) => match (ops[j]?).bind (·.dst) with
  | some t => match T t with
   | .bool b => some (b == want)
   | .Ei [] => some false
   | _ => none
  | none => none
def C1 (c : Cx) (ops : Array fc) (o : fc) (S : St) : Option St :=
 (DF ops S.T o).bind fun b =>
  if b then Jg c o S else match o.dst with | some d => if d < c.ntmps then some (S.set d CT) else none | none => some S
def Dr (cf : Nat → Cx) (ops : Array fc) : List Nat → St → Option St
 | [], S => some S
 | i :: rest, S => match ops[i]? with
  | none => none
  | some o => (C1 (cf i) ops o S).bind fun S' => Dr cf ops rest S'
def Ht (ow : Bool) (o : fc) : Bool :=
 match o.op with
 | .buildSlice .. => !ow
 | .move _ | .assign _ | .pick .. | .build .. | .nilCheck _ | .binOp .. | .unOp .. | .convert .. | .makeFunc .. | .slice .. | .fieldAddr .. | .field .. | .indexAddr .. | .index .. | .extract .. => true
 | .call k => match k.callee with
  | .builtin .len | .builtin .min | .builtin .max => true
  | _ => false
 | _ => false
def Hs (o : fc) : Bool := match o.op with | .load .. | .lookup .. => true | _ => false
def ET (o : fc) : Bool :=
 match o.op with
 | .alloc _ | .box .. | .makeSlice .. | .makeMap .. | .buildSlice .. => true
 | .call k => match k.callee with
  | .builtin .append | .value _ => true
  | _ => false
 | _ => false
def IY (ops : Array fc) (i : Nat) : List Nat := match ops[i]? with | some o => (o.after.toList.filter (Region.binds .any)).map (·.on) | none => []
def G7 (ops : Array fc) : List (List Nat) :=
 (gj ops.size).foldl (fun tab i => tab ++ [((IY ops i) ++ (IY ops i).flatMap fun e => tab.getD e []).eraseDups]) []
def dZ (ow : Bool) (ops : Array fc) (tab : List (List Nat)) (done : List Nat) (left : List Nat) : Option Nat :=
 let ready := left.filter fun i => (IY ops i).all fun e => done.contains e
 match ready.find? (fun i => match ops[i]? with | some o => Ht ow o || Hs o | none => false) with
 | some i => some i
 | none => ready.head?
def kN (ow : Bool) (ops : Array fc) (tab : List (List Nat)) : Nat → List Nat → List Nat → List Nat
 | 0, done, _ => done.reverse
 | n + 1, done, left => match dZ ow ops tab done left with
  | some i => kN ow ops tab n (i :: done) (left.filter (· != i))
  | none => done.reverse
def RV (ow : Bool) (ops : Array fc) : List Nat := kN ow ops (G7 ops) ops.size [] (gj ops.size)
def QS (x y : fc) : Bool :=
 match x.op, y.op with
 | .lookup t (.tmp a) (.tmp k) false, .mapEntry t' (.tmp a') (.tmp k') => t == t' && a == a' && k == k'
 | _, _ => false
def Ig {α : Type} (x : Option α) : Bool := match x with | none => true | some _ => false
def JW (ow : Bool) (ops : Array fc) (x y : fc) : Bool :=
 Oper.apart ops x y && Oper.apart ops y x && (Ht ow x || Ht ow y || (Hs x && (Hs y || ET y)) || (QS x y && Ig x.guard && Ig y.guard))
def MP (o : fc) : Bool := match o.op with | .alloc _ | .makeSlice .. => true | _ => false
def NH (ops : Array fc) (tab : List (List Nat)) (j m : Nat) : Bool :=
 match ops[j]?, ops[m]? with
 | some x, some y => MP y && Ig y.guard && !Ig y.dst && Oper.apart ops x y && Oper.apart ops y x && (gj ops.size).all fun k => !(tab.getD k []).contains m || (tab.getD k []).contains j
 | _, _ => false
def L4 (ops : Array fc) (tab : List (List Nat)) (i : Nat) : Bool :=
 (gj ops.size).any fun j => (match ops[j]? with | some o => Hs o | none => false) && !(tab.getD i []).contains j && !(tab.getD j []).contains i
def FF (o : fc) : Bool :=
 match o.op with
 | .call ⟨.value _, _, _⟩ => true
 | _ => false
def N1 (ops : Array fc) (tab : List (List Nat)) (j a : Nat) : Bool := (gj ops.size).all fun k => (tab.getD j []).contains k || match ops[k]? with | some o => o.dst != some a | none => true
def LK (ops : Array fc) (tab : List (List Nat)) (j i : Nat) : Option (Nat × Nat) :=
 match ops[j]?, ops[i]? with
 | some x, some y => match x.op, y.op with
  | .load _ (.tmp a), .store _ (.tmp b) _ => if Ig x.guard && Ig y.guard && Oper.apart ops x y && Oper.apart ops y x && N1 ops tab j a && N1 ops tab i b && x.dst != some a && Ig y.dst then some (a, b) else none
  | _, _ => none
 | _, _ => none
def H6 (base : Nat) : V → V → Bool
 | .ptr p _, .ptr q _ => p != q && decide (base ≤ q)
 | .lp .., .ptr q _ => decide (base ≤ q)
 | _, _ => false
def dL (ops : Array fc) (tab : List (List Nat)) : List (Nat × Nat) :=
 (gj ops.size).flatMap fun i => (gj ops.size).filterMap fun j => if (tab.getD i []).contains j || (tab.getD j []).contains i then none else LK ops tab j i
def LN (ops : Array fc) (base : Nat) (T : Nat → V) : Bool := (dL ops (G7 ops)).all fun p => H6 base (T p.1) (T p.2)
def D9 (ow : Bool) (ops : Array fc) (tab : List (List Nat)) : List Nat → Bool
 | [] => true
 | j :: l => (l.all fun i => i != j && !(tab.getD j []).contains i && ((tab.getD i []).contains j || NH ops tab j i || (LK ops tab j i).isSome || match ops[j]?, ops[i]? with | some x, some y => JW ow ops x y && (!Hs x || !FF y || L4 ops tab i) | _, _ => false)) && D9 ow ops tab l
def Js (ow : Bool) (ops : Array fc) : Bool :=
 let tab := G7 ops
 let ord := RV ow ops
 (gj ops.size).all (ord.contains ·) && ord.all (· < ops.size) &&
  (gj ops.size).all (fun i => (IY ops i).all (· < i) && (tab.getD i []).all fun j => (IY ops i).any fun e => e == j || (tab.getD e []).contains j) && D9 ow ops tab ord
def Fv (c : Cx) (ops : Array fc) (i : Nat) : Cx := { c with still := true, calm := L4 ops (G7 ops) i }
inductive X where | normal | exit (id : Nat) | ret
 deriving DecidableEq
def FR (f : St → Option (X × St)) : Nat → St → Option (X × St)
 | 0, _ => none
 | n + 1, S => match f S with
  | some (.normal, S') => FR f n S'
  | r => r
def Aq (c : Cx) (n : Nat) : Code → St → Option (X × St)
 | .skip, S => some (.normal, S)
 | .region _ ops draw, S => (if draw then (if Js c.lits ops then (Dr (Fv c ops) ops (RV c.lits ops) S).bind fun S' => if LN ops c.base S'.T then some S' else none else none) else Dr (fun _ => c) ops (gj ops.size) S).map fun S' => (.normal, S')
 | .seq a b, S => match Aq c n a S with
  | some (.normal, S') => Aq c n b S'
  | r => r
 | .cond x t e, S => match ev S.T x with
  | some (.bool true) => Aq c n t S
  | some (.bool false) => Aq c n e S
  | _ => none
 | .block id a, S => match Aq c n a S with
  | some (.exit i, S') => if i = id then some (.normal, S') else some (.exit i, S')
  | r => r
 | .loop a, S => FR (Aq c n a) n S
 | .exit id, S => some (.exit id, S)
 | .ret, S => some (.ret, S)
 | _, _ => none
def BP (P : ep) (H : A5) (T : Nat → V) : List ir → Option (List V)
 | [] => some []
 | .tmp t :: r => (BP P H T r).map (T t :: ·)
 | .cell a t :: r => (Fg P t H (T a)).bind fun v => (BP P H T r).map (v :: ·)
def FT : List V → V
 | [v] => v
 | vs => .Ei vs
def Ko (vs : List V) : Nat → V := fun i => vs.getD i CT
def NI (d : Nat) : Bv → Bv
 | .Bt l n sz => .Bt (min l (d - 1)) n sz
 | .cells sz cs => if cs.all (BS d) then .cells sz cs else .dead
 | x => x
def En (h : BX) (k : jc) (base d : Nat) (v : V) (H : A5) : Option (V × A5) :=
 if h.grow k then
  if BS d v then some (v, H.take base ++ (H.drop base).map (NI d)) else none
 else (BO (h.Ti k) base d Ba (H, []) v).map fun r => (r.1, r.2.1.take base ++ r.2.2)
structure Ms where
 R0 : Code
 i : Nat
 o1 : fc
 o2 : fc
 p : Nat
 z : Nat
 q : Nat
 t : ea
 t2 : ea
 A : Code
 B : Code
def WT (i : Nat) (R0 A B : Code) (q' : Nat) : List fc → Option Ms
 | [o1, o2] => match o1.dst, o1.op, o1.guard, o2.dst, o2.op, o2.guard with
  | some p, .move (.tmp z), none, some q, .binOp .eql t (.tmp p') (.const (.slice none 0 0)) t2, none => if p = p' ∧ q = q' then some ⟨R0, i, o1, o2, p, z, q, t, t2, A, B⟩ else none
  | _, _, _, _, _, _ => none
 | _ => none
def Fh : Code → Option Ms
 | .seq R0 (.seq (.seq (.region i ops false) (.cond (.tmp q') A .skip)) B) => WT i R0 A B q' ops.toList
 | _ => none
def L8 (P : ep) (rs : List ir) : Option (X × St) → Option (List V × A5)
 | some (.normal, S) | some (.ret, S) => (BP P S.H S.T rs).map fun vs => (vs, S.H)
 | _ => none
def O7 (c : Cx) (n : Nat) (rs : List ir) (N : Ms) (S : St) (b : Bool) : Option (List V × A5) :=
 L8 c.P rs (Aq c n (if b then .seq N.A N.B else N.B) ((S.set N.p (S.T N.z)).set N.q (.bool b)))
open Classical in
noncomputable def Jv (c : Cx) (n : Nat) (rs : List ir) (body : Code) (S : St) : Option (List V × A5) :=
 match Fh body with
 | none => L8 c.P rs (Aq c n body S)
 | some N => match Aq c n N.R0 S with
  | some (.normal, S0) => if N.p < c.ntmps ∧ N.q < c.ntmps ∧ N.p ≠ N.q ∧ (B0 c.P N.t).isSome = true then
    match D4 (S0.T N.z) with
    | some (_ + 1) => O7 c n rs N S0 false
    | some 0 => if O7 c n rs N S0 true = O7 c n rs N S0 false then O7 c n rs N S0 false else none
    | none => none
   else none
  | _ => none
noncomputable def EL (P : ep) (h : BX) : Nat → jc → List V → A5 → Lk → Option (V × A5)
  | 0, _, _, _, _ => none
  | n + 1, k, args, H, lk => match P.funcs[k]? with
    | some fn => match fn.body with
      | some body =>
        if args.length ≤ fn.ntmps ∧ (fn.name == "runtime.NumGoroutine") = false then
          let c : Cx := { P, hints := h, fn := k, ntmps := fn.ntmps, base := H.length, lk, Γ := EL P h n }
          (Jv c n fn.results.toList body { T := Ko args, H }).bind fun r => En h k H.length lk.length (FT r.1) r.2
        else none
      | none => none
    | none => none
def Wr (φ : Nat → Nat) (H : A5) (lk : Lk) (lv g i : Nat) : Prop :=
 ∃ b, φ b = g ∧ AT lk b = true ∧ match H[b]? with
  | some (.cells _ _) | some (.mp _) => True
  | some (.Bt l n sz) => lv < l ∨ n * sz ≤ i
  | _ => False
def Sr (φ : Nat → Nat) (H : A5) (g i : Nat) : Prop :=
 ∃ b, φ b = g ∧ match H[b]? with
  | some (.cells _ _) | some (.mp _) => True
  | some (.Bt _ n sz) => n * sz ≤ i
  | _ => False
structure Ab where
 w : je
 φ : Nat → Nat
 H : A5
 lk : Lk
 n : Nat
 m : Nat
 Bl : List Nat
def Ab.U (E : Ab) (lv : Option Nat) (g i : Nat) : Prop :=
 g ∈ E.Bl ∨ match lv with
 | some lv => Wr E.φ E.H (E.lk.take lv) lv g i
 | none => Sr E.φ E.H g i
def Qf (m : Nat) : Option Nat → Prop
 | some lv => lv ≤ m
 | none => True
def KA (H : A5) (b : Nat) : Prop := ∀ l n sz, H[b]? ≠ some (.Bt l n sz)
def J2 (H : A5) (b : Nat) : Prop := ∀ sz cs, H[b]? ≠ some (.cells sz cs)
def live : Option Bv → Prop
 | some (.cells _ _) | some (.Bt _ _ _) | some (.mp _) => True
 | _ => False
def Ab.P2 (E : Ab) (g : Nat) : Prop := ∀ b, E.n ≤ b → live E.H[b]? → E.φ b ≠ g
mutual
def AA (E : Ab) : V → eu → Prop
 | .int k n, v => v = .int k n
 | .bool b, v => v = .bool b
 | .str s, v => v = .string s
 | .HV, v => v = .pointer none
 | .EI, v => v = .nilFunc ∨ v = .map none
 | .ptr b off, v => b < E.n ∧ v = .pointer (some ⟨E.φ b, off, none⟩) ∧ KA E.H b
 | .Cm b, v => b < E.n ∧ v = .map (some (E.φ b)) ∧ KA E.H b
 | .lp lv cs off, v => lv ≤ E.m ∧ ∃ g o, v = .pointer (some ⟨g, o + off, none⟩) ∧ CR E (some lv) g o cs
 | .lit lv len cs, v => lv ≤ E.m ∧ ∃ A cap, v = .slice A len cap ∧ len ≤ cap ∧ (len = 0 ∨ ∃ g o, A = some ⟨g, o, none⟩ ∧ CR E (some lv) g o cs)
 | .tl len cs, v => ∃ A, v = .slice A len len ∧ (len = 0 ∨ ∃ g o, A = some ⟨g, o, none⟩ ∧ CR E (some 0) g o cs)
 | .snap b len cs, v => b < E.n ∧ (∃ A cap, v = .slice A len cap ∧ len ≤ cap ∧ (∃ g o, A = some ⟨g, o, none⟩ ∧ (0 < cs.length → E.P2 g) ∧ CR E none g o cs) ∧
   (∀ l n sz, E.H[b]? = some (.Bt l n sz) → len ≤ n ∧ (len = n → A = some ⟨E.φ b, 0, none⟩ ∧ ∃ c t, E.w.heap[E.φ b]? = some (.cells c t (0, 0)) ∧ cap * sz = c.size))) ∧ J2 E.H b
 | .pre b m0 len cs, v => b < E.n ∧ (∃ A cap, v = .slice A len cap ∧ len ≤ cap ∧ (∃ g o, A = some ⟨g, o, none⟩ ∧ (0 < cs.length → E.P2 g) ∧ CR E none g o cs) ∧
   (∀ l n sz, E.H[b]? = some (.Bt l n sz) → m0 ≤ n ∧ (m0 = n → A = some ⟨E.φ b, 0, none⟩ ∧ ∃ c t, E.w.heap[E.φ b]? = some (.cells c t (0, 0))))) ∧ J2 E.H b
 | .sl b off len, v => b < E.n ∧ (∃ cap, v = .slice (some ⟨E.φ b, off, none⟩) len cap ∧ len ≤ cap) ∧ KA E.H b
 | .agg cs, v => ∃ vs : Array eu, v = .agg vs ∧ AM E cs vs.toList
 | .Ei cs, v => ∃ vs : Array eu, v = .tuple vs ∧ AM E cs vs.toList
 | .fn f cs, v => ∃ vs : Array eu, v = .func (.func f) #[] vs ∧ AM E cs vs.toList
def CR (E : Ab) (lv : Option Nat) (g o : Nat) : List V → Prop
 | [] => True
 | c :: cs => (∃ u, E.w.cell? ⟨g, o, none⟩ = some u ∧ AA E c u) ∧ ¬ E.U lv g o ∧ CR E lv g (o + 1) cs
def AM (E : Ab) : List V → List eu → Prop
 | [], vs => vs = []
 | c :: cs, vs => ∃ u us, vs = u :: us ∧ AA E c u ∧ AM E cs us
end
structure Ch (E : Ab) : Prop where
 cells : ∀ b sz cs, E.H[b]? = some (.cells sz cs) → ∃ c t, E.w.heap[E.φ b]? = some (.cells c t (0, 0)) ∧ cs.length ≤ c.size ∧ ∀ (i : Nat) v, cs[i]? = some v → ∃ u, c[i]? = some u ∧ AA E v u
 Bt : ∀ (b l n sz : Nat), E.H[b]? = some (Bv.Bt l n sz) → ∃ c t, E.w.heap[E.φ b]? = some (.cells c t (0, 0)) ∧ n * sz ≤ c.size
 lvl : ∀ (b l n sz : Nat), E.H[b]? = some (Bv.Bt l n sz) → l ≤ E.lk.length
 dm : E.m ≤ E.lk.length
 inj : ∀ b b', live E.H[b]? → live E.H[b']? → E.φ b = E.φ b' → b = b'
 maps : ∀ b BC, E.H[b]? = some (.mp BC) → E.w.heap[E.φ b]? = some (.map (GK BC) BC.length) ∧ ∀ x ∈ BC, Be x.1 = true ∧ Be x.2 = true
 Bl : ∀ g ∈ E.Bl, g < E.w.heap.size ∧ ∀ b, live E.H[b]? → E.φ b ≠ g
structure GJ (E E' : Ab) : Prop where
 lk : E'.lk = E.lk
 os : E'.w.os = E.w.os
 tape : E'.w.tape = E.w.tape
 output : E'.w.output = E.w.output
 size : E.w.heap.size ≤ E'.w.heap.size
 len : E.n ≤ E'.n
 mm : E'.m = E.m
 cell : ∀ g i u, E.w.cell? ⟨g, i, none⟩ = some u → ¬ E.U (some E.lk.length) g i → E'.w.cell? ⟨g, i, none⟩ = some u
 block : ∀ g, g < E.w.heap.size → (∀ i, ¬ E.U (some E.lk.length) g i) → E'.w.heap[g]? = E.w.heap[g]?
 mono : ∀ lv g i, Qf E.lk.length lv → E'.U lv g i → E.U lv g i ∨ E.w.heap.size ≤ g
 Ce : ∀ b, b < E.n → KA E.H b → E'.φ b = E.φ b ∧ KA E'.H b
 cells : ∀ b, b < E.n → J2 E.H b → J2 E'.H b
 Bt : ∀ (b l n' wg : Nat), b < E.n → E'.H[b]? = some (Bv.Bt l n' wg) → ∃ n, E.H[b]? = some (.Bt l n wg) ∧ n ≤ n' ∧
  (n = n' → E'.φ b = E.φ b ∧ ∀ c t, E.w.heap[E.φ b]? = some (.cells c t (0, 0)) → ∃ c', E'.w.heap[E.φ b]? = some (.cells c' t (0, 0)) ∧ c'.size = c.size)
 fresh : ∀ b, live E'.H[b]? → (E'.φ b = E.φ b ∧ live E.H[b]?) ∨ E.w.heap.size ≤ E'.φ b
 Bl : ∀ g, g ∈ E.Bl → g ∈ E'.Bl
 Ix : ∀ g, g ∈ E'.Bl → g ∈ E.Bl ∨ E.w.heap.size ≤ g
 I8 : ∀ g, g ∈ E.Bl → g < E.w.heap.size → E'.w.heap[g]? = E.w.heap[g]?
theorem Fi {lk : Lk} {b : Nat} (n : Nat) (h : AT lk b = true) : AT (lk.take n) b = true := by
 unfold AT at *
 rw [gb] at *
 exact fun x hx => h x (pn hx)
theorem NR {lk : Lk} {b n m : Nat} (yg : n ≤ m) (h : AT (lk.take m) b = true) : AT (lk.take n) b = true := by
 unfold AT at *
 rw [gb] at *
 intro x hx
 refine h x ?_
 rw [show lk.take n = (lk.take m).take n by rw [List.take_take, Nat.min_eq_left yg]] at hx
 exact pn hx
theorem Ab.Sa {E : Ab} {lv lv' g i : Nat} (hl : lv ≤ lv') (h : E.U (some lv') g i) : E.U (some lv) g i := by
 rcases h with h | h
 ·exact .inl h
 obtain ⟨b, h1, h2, h3⟩ := h
 refine .inr ⟨b, h1, NR hl h2, ?_⟩
 split at h3
 ·trivial
 ·trivial
 ·rcases h3 with h3 | h3
  ·exact .inl (Nat.lt_of_le_of_lt hl h3)
  ·exact .inr h3
 ·exact h3.elim
theorem Ch.sub {E : Ab} (h : Ch E) {lv g i : Nat} (hl : E.lk.length ≤ lv) (hu : E.U (some lv) g i) : E.U none g i := by
 rcases hu with hu | hu
 ·exact .inl hu
 obtain ⟨b, h1, h2, h3⟩ := hu
 refine .inr ⟨b, h1, ?_⟩
 split at h3
 ·trivial
 ·trivial
 ·rename_i he
  rcases h3 with h3 | h3
  ·have := h.lvl _ _ _ _ he; omega
  ·exact h3
 ·exact h3.elim
theorem HO {w : je} {a : Addr} {v : eu} (h : w.cell? a = some v) : a.block < w.heap.size := block_lt_of_cell h
theorem GJ.refl (E : Ab) : GJ E E where
 lk := rfl
 os := rfl
 tape := rfl
 output := rfl
 size := dz _
 len := dz _
 mm := rfl
 cell := fun _ _ _ h _ => h
 block := fun _ _ _ => rfl
 mono := fun _ _ _ _ h => .inl h
 Ce := fun _ _ h => ⟨rfl, h⟩
 cells := fun _ _ h => h
 Bt := fun _ _ n _ _ h => ⟨n, h, dz _, fun _ => ⟨rfl, fun c _ hc => ⟨c, hc, rfl⟩⟩⟩
 fresh := fun _ h => .inl ⟨rfl, h⟩
 Bl := fun _ h => h
 Ix := fun _ h => .inl h
 I8 := fun _ _ _ => rfl
theorem GJ.trans {A B C : Ab} (h : GJ A B) (k : GJ B C) : GJ A C where
 lk := k.lk.trans h.lk
 os := k.os.trans h.os
 tape := k.tape.trans h.tape
 output := k.output.trans h.output
 size := fg h.size k.size
 len := fg h.len k.len
 mm := k.mm.trans h.mm
 cell := by
  intro g i u hc hu
  refine k.cell g i u (h.cell g i u hc hu) ?_
  rw [h.lk]
  intro hB
  rcases h.mono (some _) _ _ (dz _) hB with h' | h'
  ·exact hu h'
  ·exact absurd (HO hc) (ib.2 h')
 block := by
  intro g hg hu
  rw [k.block g (fw hg h.size), h.block g hg hu]
  intro i
  rw [h.lk]
  intro hB
  rcases h.mono (some _) _ _ (dz _) hB with h' | h'
  ·exact hu i h'
  ·exact absurd hg (ib.2 h')
 mono := by
  intro lv g i hl hC
  rcases k.mono _ _ _ (by rw [h.lk]; exact hl) hC with h' | h'
  ·exact h.mono _ _ _ hl h'
  ·exact .inr (fg h.size h')
 Ce := by
  intro b hb hn
  obtain ⟨h1, h2⟩ := h.Ce b hb hn
  obtain ⟨k1, k2⟩ := k.Ce b (fw hb h.len) h2
  exact ⟨k1.trans h1, k2⟩
 cells := fun b hb hn => k.cells b (fw hb h.len) (h.cells b hb hn)
 Bt := by
  intro b l n' wg hb hC
  obtain ⟨m, hm, hle, hk⟩ := k.Bt b l n' wg (fw hb h.len) hC
  obtain ⟨n, hn, hle', hk'⟩ := h.Bt b l m wg hb hm
  refine ⟨n, hn, fg hle' hle, fun e => ?_⟩
  have e1 : n = m := by omega
  have e2 : m = n' := by omega
  obtain ⟨p1, p2⟩ := hk' e1
  obtain ⟨q1, q2⟩ := hk e2
  refine ⟨q1.trans p1, fun c t hc => ?_⟩
  obtain ⟨c1, hc1, wx⟩ := p2 c t hc
  rw [p1] at q2
  obtain ⟨c2, tv, hs2⟩ := q2 c1 t hc1
  exact ⟨c2, tv, hs2.trans wx⟩
 fresh := by
  intro b hC
  rcases k.fresh b hC with ⟨h1, h2⟩ | h1
  ·rcases h.fresh b h2 with ⟨h3, h4⟩ | h3
   ·exact .inl ⟨h1.trans h3, h4⟩
   ·rw [← h1] at h3; exact .inr h3
  ·exact .inr (fg h.size h1)
 Bl := fun g hg => k.Bl g (h.Bl g hg)
 Ix := by
  intro g hg
  rcases k.Ix g hg with h1 | h1
  ·exact h.Ix g h1
  ·exact .inr (fg h.size h1)
 I8 := fun g hg hl => (k.I8 g (h.Bl g hg) (fw hl h.size)).trans (h.I8 g hg hl)
structure Ca (E E' : Ab) : Prop where
 len : E.n ≤ E'.n
 lvl : E.m ≤ E'.m
 cell : ∀ lv g i u, Qf E.m lv → (lv = none → E.P2 g) → E.w.cell? ⟨g, i, none⟩ = some u → ¬ E.U lv g i → E'.w.cell? ⟨g, i, none⟩ = some u ∧ ¬ E'.U lv g i
 Ce : ∀ b, b < E.n → KA E.H b → E'.φ b = E.φ b ∧ KA E'.H b
 cells : ∀ b, b < E.n → J2 E.H b → J2 E'.H b
 Bt : ∀ (b l n' wg : Nat), b < E.n → E'.H[b]? = some (Bv.Bt l n' wg) → ∃ l0 n, E.H[b]? = some (.Bt l0 n wg) ∧ n ≤ n' ∧
  (n = n' → E'.φ b = E.φ b ∧ ∀ c t, E.w.heap[E.φ b]? = some (.cells c t (0, 0)) → ∃ c', E'.w.heap[E.φ b]? = some (.cells c' t (0, 0)) ∧ c'.size = c.size)
 fresh : ∀ b g i u, E.w.cell? ⟨g, i, none⟩ = some u → ¬ E.U none g i → E'.n ≤ b → live E'.H[b]? → E'.φ b = g → ∃ b', E.n ≤ b' ∧ live E.H[b']? ∧ E.φ b' = g
theorem Qf.up {m m' : Nat} {lv : Option Nat} (h : Qf m lv) (hm : m ≤ m') : Qf m' lv := by
 cases lv with
 | none => trivial
 | some l => exact fg h hm
theorem GJ.keeps {E E' : Ab} (h : GJ E E') (hh : Ch E) : Ca E E' where
 len := h.len
 lvl := by rw [h.mm]; exact dz _
 Ce := h.Ce
 cells := h.cells
 Bt := fun b l n' wg hb hB => let ⟨n, h1, h2, h3⟩ := h.Bt b l n' wg hb hB; ⟨l, n, h1, h2, h3⟩
 cell := by
  intro lv g i u sj _ h1 h3
  refine ⟨h.cell g i u h1 (fun hu => h3 ?_), fun hu => ?_⟩
  ·cases lv with
   | none => exact hh.sub (dz _) hu
   | some lv => exact Ab.Sa (fg sj hh.dm) hu
  ·rcases h.mono _ _ _ (sj.up hh.dm) hu with h' | h'
   ·exact h3 h'
   ·exact absurd (HO h1) (ib.2 h')
 fresh := by
  intro b g i u h1 _ hb hl he
  rcases h.fresh b hl with ⟨h2, h3⟩ | h2
  ·exact ⟨b, fg h.len hb, h3, by rw [← h2]; exact he⟩
  ·exact absurd (HO h1) (ib.2 (by rw [← he]; exact h2))
theorem Ca.Dv (E : Ab) (L : List Nat) (hd : E.m ≤ E.lk.length) : Ca E { E with lk := E.lk ++ [L], m := E.m + 1 } where
 len := dz _
 lvl := Nat.le_succ _
 Ce := fun _ _ h => ⟨rfl, h⟩
 cells := fun _ _ h => h
 Bt := fun _ l n _ _ h => ⟨l, n, h, dz _, fun _ => ⟨rfl, fun c _ hc => ⟨c, hc, rfl⟩⟩⟩
 cell := by
  intro lv g i u sj _ h1 h3
  refine ⟨h1, fun hu => h3 ?_⟩
  cases lv with
  | none => exact hu
  | some lv =>
   have hle : lv ≤ E.lk.length := fg sj hd
   rcases hu with hu | hu
   ·exact .inl hu
   obtain ⟨b, p1, p2, p3⟩ := hu
   refine .inr ⟨b, p1, ?_, p3⟩
   have : (E.lk ++ [L]).take lv = E.lk.take lv := List.take_append_of_le_length hle
   rw [← this]
   exact p2
 fresh := fun b _ _ _ _ _ hb hl he => ⟨b, hb, hl, he⟩
theorem Ca.P2 {E E' : Ab} (h : Ca E E') {g i : Nat} {u : eu} (hc : E.w.cell? ⟨g, i, none⟩ = some u) (hu : ¬ E.U none g i) (ha : E.P2 g) : E'.P2 g := by
 intro b hb hl he
 obtain ⟨b', h1, h2, h3⟩ := h.fresh b g i u hc hu hb hl he
 exact ha b' h1 h2 h3
theorem CR.first {E : Ab} {lv : Option Nat} {g o : Nat} {cs : List V} (h : CR E lv g o cs) (hl : 0 < cs.length) : ∃ u, E.w.cell? ⟨g, o, none⟩ = some u ∧ ¬ E.U lv g o := by
 cases cs with
 | nil => simp at hl
 | cons c cs =>
  simp only [CR] at h
  obtain ⟨⟨u, h1, _⟩, h2, _⟩ := h
  exact ⟨u, h1, h2⟩
mutual
theorem Ca.rep {E E' : Ab} (h : Ca E E') : ∀ (v : V) (u : eu), AA E v u → AA E' v u
 | .int .., _, r => by simpa only [AA] using r
 | .bool _, _, r => by simpa only [AA] using r
 | .str _, _, r => by simpa only [AA] using r
 | .HV, _, r => by simpa only [AA] using r
 | .EI, _, r => by simpa only [AA] using r
 | .ptr b off, _, r => by
  simp only [AA] at r ⊢
  obtain ⟨h1, h2, h3⟩ := r
  obtain ⟨p1, p2⟩ := h.Ce b h1 h3
  exact ⟨fw h1 h.len, by rw [p1]; exact h2, p2⟩
 | .Cm b, _, r => by
  simp only [AA] at r ⊢
  obtain ⟨h1, h2, h3⟩ := r
  obtain ⟨p1, p2⟩ := h.Ce b h1 h3
  exact ⟨fw h1 h.len, by rw [p1]; exact h2, p2⟩
 | .lp lv cs off, _, r => by
  simp only [AA] at r ⊢
  obtain ⟨hl, g, o, h1, h2⟩ := r
  exact ⟨fg hl h.lvl, g, o, h1, h.Yp (some lv) g hl o cs (fun e => by cases e) h2⟩
 | .lit lv len cs, _, r => by
  simp only [AA] at r ⊢
  obtain ⟨hl, A, cap, h1, h2, h3⟩ := r
  refine ⟨fg hl h.lvl, A, cap, h1, h2, ?_⟩
  rcases h3 with h3 | ⟨g, o, h3, h4⟩
  ·exact .inl h3
  ·exact .inr ⟨g, o, h3, h.Yp (some lv) g hl o cs (fun e => by cases e) h4⟩
 | .tl len cs, _, r => by
  simp only [AA] at r ⊢
  obtain ⟨A, h1, h3⟩ := r
  refine ⟨A, h1, ?_⟩
  rcases h3 with h3 | ⟨g, o, h3, h4⟩
  ·exact .inl h3
  ·exact .inr ⟨g, o, h3, h.Yp (some 0) g (ga _) o cs (fun e => by cases e) h4⟩
 | .snap b len cs, _, r => by
  simp only [AA] at r ⊢
  obtain ⟨hb, ⟨A, cap, h1, h2, ⟨g, o, h3, ha, h4⟩, h5⟩, h6⟩ := r
  refine ⟨fw hb h.len, ⟨A, cap, h1, h2, ⟨g, o, h3, fun hl => (h4.first hl).elim fun u hu => h.P2 hu.1 hu.2 (ha hl), h.Yp none g trivial o cs (fun _ => ha) h4⟩, fun l n sz hn => ?_⟩, h.cells b hb h6⟩
  obtain ⟨l0, m, hm, hle, hk⟩ := h.Bt b l n sz hb hn
  obtain ⟨q1, q2⟩ := h5 l0 m sz hm
  refine ⟨fg q1 hle, fun e => ?_⟩
  obtain ⟨p1, p2⟩ := hk (by omega)
  obtain ⟨q3, c, t, q4, q5⟩ := q2 (by omega)
  obtain ⟨c', wq, hs⟩ := p2 c t q4
  exact ⟨by rw [p1]; exact q3, c', t, by rw [p1]; exact wq, by rw [hs]; exact q5⟩
 | .pre b m0 len cs, _, r => by
  simp only [AA] at r ⊢
  obtain ⟨hb, ⟨A, cap, h1, h2, ⟨g, o, h3, ha, h4⟩, h5⟩, h6⟩ := r
  refine ⟨fw hb h.len, ⟨A, cap, h1, h2, ⟨g, o, h3, fun hl => (h4.first hl).elim fun u hu => h.P2 hu.1 hu.2 (ha hl), h.Yp none g trivial o cs (fun _ => ha) h4⟩, fun l n sz hn => ?_⟩, h.cells b hb h6⟩
  obtain ⟨l0, m, hm, hle, hk⟩ := h.Bt b l n sz hb hn
  obtain ⟨q1, q2⟩ := h5 l0 m sz hm
  refine ⟨fg q1 hle, fun e => ?_⟩
  obtain ⟨p1, p2⟩ := hk (by omega)
  obtain ⟨q3, c, t, q4⟩ := q2 (by omega)
  obtain ⟨c', wq, hs⟩ := p2 c t q4
  exact ⟨by rw [p1]; exact q3, c', t, by rw [p1]; exact wq⟩
 | .sl b off len, _, r => by
  simp only [AA] at r ⊢
  obtain ⟨h1, h2, h3⟩ := r
  obtain ⟨p1, p2⟩ := h.Ce b h1 h3
  exact ⟨fw h1 h.len, by rw [p1]; exact h2, p2⟩
 | .agg cs, _, r => by
  simp only [AA] at r ⊢
  obtain ⟨vs, h1, h2⟩ := r
  exact ⟨vs, h1, h.Hz cs _ h2⟩
 | .Ei cs, _, r => by
  simp only [AA] at r ⊢
  obtain ⟨vs, h1, h2⟩ := r
  exact ⟨vs, h1, h.Hz cs _ h2⟩
 | .fn f cs, _, r => by
  simp only [AA] at r ⊢
  obtain ⟨vs, h1, h2⟩ := r
  exact ⟨vs, h1, h.Hz cs _ h2⟩
theorem Ca.Yp {E E' : Ab} (h : Ca E E') (lv : Option Nat) (g : Nat) (sj : Qf E.m lv) : ∀ (o : Nat) (cs : List V), (lv = none → 0 < cs.length → E.P2 g) → CR E lv g o cs → CR E' lv g o cs
 | _, [], _, _ => by simp only [CR]
 | o, c :: cs, ha, r => by
  simp only [CR] at r ⊢
  obtain ⟨⟨u, h1, h2⟩, h3, h4⟩ := r
  obtain ⟨k1, k2⟩ := h.cell lv g o u sj (fun e => ha e (by simp)) h1 h3
  exact ⟨⟨u, k1, h.rep c u h2⟩, k2, h.Yp lv g sj (o + 1) cs (fun e _ => ha e (by simp)) h4⟩
theorem Ca.Hz {E E' : Ab} (h : Ca E E') : ∀ (cs : List V) (vs : List eu), AM E cs vs → AM E' cs vs
 | [], _, r => by simpa only [AM] using r
 | c :: cs, _, r => by
  simp only [AM] at r ⊢
  obtain ⟨u, us, h1, h2, h3⟩ := r
  exact ⟨u, us, h1, h.rep c u h2, h.Hz cs us h3⟩
end
def Ab.shrink (E : Ab) (n m : Nat) : Ab := { E with n := n, m := m }
theorem Ca.grow (E : Ab) {n m : Nat} (hn : n ≤ E.n) (hm : m ≤ E.m) : Ca (E.shrink n m) E where
 len := hn
 lvl := hm
 Ce := fun _ _ h => ⟨rfl, h⟩
 cells := fun _ _ h => h
 Bt := fun _ l k _ _ h => ⟨l, k, h, dz _, fun _ => ⟨rfl, fun c _ hc => ⟨c, hc, rfl⟩⟩⟩
 cell := fun _ _ _ _ _ _ h k => ⟨h, k⟩
 fresh := fun b _ _ _ _ _ hb hl he => ⟨b, fg hn hb, hl, he⟩
theorem GJ.shrink {E E' : Ab} (h0 : GJ E E') (hh : Ch E) {n m : Nat} (hn : n ≤ E.n) (hm : m ≤ E.m) : Ca (E.shrink n m) (E'.shrink n m) where
 len := dz _
 lvl := dz _
 Ce := fun b hb => h0.Ce b (fw hb hn)
 cells := fun b hb => h0.cells b (fw hb hn)
 Bt := fun b l n' wg hb => (h0.keeps hh).Bt b l n' wg (fw hb hn)
 cell := fun lv g i u sj _ h1 h3 => by
  have hl : Qf E.m lv := Qf.up sj hm
  refine ⟨h0.cell g i u h1 (fun hu => h3 ?_), fun hu => ?_⟩
  ·cases lv with
   | none => exact hh.sub (dz _) hu
   | some lv => exact Ab.Sa (E := E) (fg hl hh.dm) hu
  ·rcases h0.mono _ _ _ (hl.up hh.dm) hu with h' | h'
   ·exact h3 h'
   ·exact absurd (HO h1) (ib.2 h')
 fresh := by
  intro b g i u h1 _ hb hl he
  rcases h0.fresh b hl with ⟨h2, h3⟩ | h2
  ·exact ⟨b, hb, h3, by show E.φ b = g; rw [← h2]; exact he⟩
  ·exact absurd (HO h1) (ib.2 (by rw [← he]; exact h2))
theorem GJ.rep {E E' : Ab} (h : GJ E E') (hh : Ch E) (v : V) (u : eu) (r : AA E v u) : AA E' v u := (h.keeps hh).rep v u r
theorem GJ.Hz {E E' : Ab} (h : GJ E E') (hh : Ch E) (cs : List V) (vs : List eu) (r : AM E cs vs) : AM E' cs vs := (h.keeps hh).Hz cs vs r
theorem Qy (E : Ab) (x : eu) (v : V) (h : DW x = some v) : AA E v x := by
 cases x with
 | int k n => simp only [DW, an] at h; subst h; simp only [AA]
 | bool b => simp only [DW, an] at h; subst h; simp only [AA]
 | string s => simp only [DW, an] at h; subst h; simp only [AA]
 | pointer p => cases p with
  | none => simp only [DW, an] at h; subst h; simp only [AA]
  | some a => simp [DW] at h
 | slice p n m =>
  simp only [DW] at h
  split at h <;> simp_all
  subst h
  simp only [AA]
  exact ⟨none, rfl, .inl trivial⟩
 | nilFunc => simp only [DW, an] at h; subst h; simp only [AA]; exact .inl trivial
 | map r => cases r with
  | none => simp only [DW, an] at h; subst h; simp only [AA]; exact .inr trivial
  | some r => simp [DW] at h
 | _ => simp [DW] at h
theorem Nn (E : Ab) : ∀ (xs : List eu) (vs : List V), Mc xs = some vs → AM E vs xs
 | [], vs, h => by simp only [Mc, an] at h; subst h; simp only [AM]
 | x :: xs, vs, h => by
  simp only [Mc, dj, dn] at h
  obtain ⟨v, hv, ws, hw, rfl⟩ := h
  simp only [AM]
  exact ⟨x, xs, rfl, Qy E x v hv, Nn E xs ws hw⟩
theorem IU (E : Ab) (x : eu) (v : V) (h : Es x = some v) : AA E v x := by
 cases x with
 | agg cs =>
  simp only [Es, dn] at h
  obtain ⟨vs, hv, rfl⟩ := h
  simp only [AA]
  exact ⟨cs, rfl, Nn E _ _ hv⟩
 | _ => exact Qy E _ v (by simpa only [Es] using h)
structure D1 (c : Cx) (E : Ab) (S : St) (a : Act) : Prop where
 H : E.H = S.H
 lk : E.lk = c.lk
 n : E.n = S.H.length
 m : E.m = c.lk.length
 tmps : ∀ i, AA E (S.T i) (a.tmps.getD i undef)
 size : a.tmps.size = c.ntmps
 heap : Ch E
 base : c.base ≤ S.H.length
 Dv : ∀ l ∈ c.lk, ∀ x ∈ l, x < c.base
 deep : 0 < c.lk.length
theorem BB {c : Cx} {E : Ab} {S : St} {a : Act} (hs : D1 c E S a) (x : ed) (v : V) (h : ev S.T x = some v) : AA E v (a.eval x) := by
 cases x with
 | tmp t => simp only [ev, an] at h; subst h; exact hs.tmps t
 | const c => exact IU E c v h
 | global g => simp [ev] at h
 | func f =>
  simp only [ev, an] at h; subst h
  simp only [AA, Act.eval]
  exact ⟨#[], rfl, by simp only [AM]⟩
theorem TZ {c : Cx} {E : Ab} {S : St} {a : Act} (hs : D1 c E S a) : ∀ (xs : List ed) (vs : List V), Ld S.T xs = some vs → AM E vs (xs.map a.eval)
 | [], vs, h => by simp only [Ld, an] at h; subst h; simp only [AM, jx]
 | x :: xs, vs, h => by
  simp only [Ld, dj, dn] at h
  obtain ⟨v, hv, ws, hw, rfl⟩ := h
  simp only [AM, gq]
  exact ⟨_, _, rfl, BB hs x v hv, TZ hs xs ws hw⟩
def Dp (c : Cx) (E : Ab) (a : Act) (o : fc) (v : V) : Prop :=
 ∃ u, (execOp a.eval o).run c.P E.w = .ok (.value u) E.w ∧ AA E v u
section
variable {c : Cx} {E : Ab} {S : St} {a : Act} {o : fc}
theorem W6 (hs : D1 c E S a) {x : ed} {v : V} (ho : o.op = .move x) (h : ev S.T x = some v) : Dp c E a o v :=
 ⟨a.eval x, by simp [execOp, ho], BB hs x v h⟩
theorem TB (hs : D1 c E S a) {x : ed} {v : V} (ho : o.op = .assign x) (h : ev S.T x = some v) : Dp c E a o v :=
 ⟨a.eval x, by simp [execOp, ho], BB hs x v h⟩
theorem QK (hs : D1 c E S a) {k x y : ed} {b : Bool} {v : V} (ho : o.op = .pick k x y) (hk : ev S.T k = some (.bool b)) (h : ev S.T (if b then x else y) = some v) : Dp c E a o v := by
 have hb := BB hs k _ hk
 simp only [AA] at hb
 refine ⟨_, ?_, BB hs _ v h⟩
 simp only [execOp, ho, hb, asBool]
 cases b <;> simp
theorem LD (hs : D1 c E S a) {x : ed} {b off : Nat} (ho : o.op = .nilCheck x) (h : ev S.T x = some (.ptr b off)) : Dp c E a o (.ptr b off) := by
 have hr := BB hs x _ h
 have hr' := hr
 simp only [AA] at hr'
 refine ⟨a.eval x, ?_, hr⟩
 simp [execOp, ho, hr'.2.1]
theorem MN (hs : D1 c E S a) {x : ed} {lv off : Nat} {cs : List V} (ho : o.op = .nilCheck x) (h : ev S.T x = some (.lp lv cs off)) : Dp c E a o (.lp lv cs off) := by
 have hr := BB hs x _ h
 have hr' := hr
 simp only [AA] at hr'
 obtain ⟨_, g, o', h1, _⟩ := hr'
 refine ⟨a.eval x, ?_, hr⟩
 simp [execOp, ho, h1]
theorem W7 (hs : D1 c E S a) {op : UnOp} {t : ea} {x : ed} {u v : V} (ho : o.op = .unOp op t x) (hx : ev S.T x = some u) (h : sQ op u = some v) : Dp c E a o v := by
 have hr := BB hs x _ hx
 unfold sQ at h
 split at h <;> simp only [an, reduceCtorEq] at h
 ·subst h
  simp only [AA] at hr
  exact ⟨_, by simp only [execOp, ho, hr, Op.unary, Sem.run_bind, Sem.run_pure, Result.andThen_ok]; rfl, by simp only [AA]⟩
 ·subst h
  simp only [AA] at hr
  exact ⟨_, by simp only [execOp, ho, hr, Op.unary, Op.intArith, Sem.run_bind, Sem.run_pure, Result.andThen_ok]; rfl, by simp only [AA]⟩
theorem YS {P : ep} {w : je} {op : BinOp} {t : ea} {k : jo} {a b : Int} {v : V} (h : XJ op k a b = some v) :
  ∃ u, (binOp op t (.int k a) (.int k b)).run P w = .ok u w ∧ ∀ E, AA E v u := by
 unfold XJ at h
 split at h
 case h_6 => simp only [an] at h; subst h; exact ⟨_, by simp only [binOp_xor, Op.intBits, Sem.run_pure]; rfl, fun E => by simp only [AA]⟩
 case h_4 =>
  split at h <;> simp only [an, reduceCtorEq] at h
  rename_i hb
  subst h; exact ⟨_, by simp only [binOp_quo, Op.intDiv, hb, if_false, Sem.run_pure]; rfl, fun E => by simp only [AA]⟩
 case h_5 =>
  split at h <;> simp only [an, reduceCtorEq] at h
  rename_i hb
  subst h; exact ⟨_, by simp only [binOp_rem, Op.intDiv, hb, if_false, Sem.run_pure]; rfl, fun E => by simp only [AA]⟩
 all_goals (try simp only [an, reduceCtorEq] at h)
 all_goals (subst h; exact ⟨_, by simp only [binOp_add, binOp_sub, binOp_mul, binOp_eql, binOp_neq, binOp_lss, binOp_leq, binOp_gtr, binOp_geq, Op.intArith, Sem.run_pure]; rfl, fun E => by simp only [AA]⟩)
theorem Wd {P : ep} {w : je} {t : ea} (a b : Bool) (ht : P.underlying t = some .bool) : (binOp .eql t (.bool a) (.bool b)).run P w = .ok (.bool (a == b)) w := by
 simp only [binOp, Op.equal, Op.maxDepth, Sem.run_bind, run_equalIn_bool' w 9999 t a b ht, Result.andThen_ok, Sem.run_pure]
theorem V7 {P : ep} {w : je} {t : ea} (a b : Bool) (ht : P.underlying t = some .bool) : (binOp .neq t (.bool a) (.bool b)).run P w = .ok (.bool (!(a == b))) w := by
 simp only [binOp, Op.equal, Op.maxDepth, Sem.run_bind, run_equalIn_bool' w 9999 t a b ht, Result.andThen_ok, Sem.run_pure]
theorem Bd {E : Ab} : ∀ (xs : List V) (us : List eu), AM E xs us → xs.length = us.length ∧ ∀ (i : Nat) v, xs[i]? = some v → ∃ u, us[i]? = some u ∧ AA E v u
 | [], us, h => by simp only [AM] at h; subst h; exact ⟨rfl, fun i v h => by simp at h⟩
 | x :: xs, us, h => by
  simp only [AM] at h
  obtain ⟨u, tn, rfl, h1, h2⟩ := h
  obtain ⟨hl, hg⟩ := Bd xs tn h2
  refine ⟨by simp [hl], fun i v hi => ?_⟩
  cases i with
  | zero => simp only [iz, an] at hi; subst hi; exact ⟨u, rfl, h1⟩
  | succ i => simpa using hg i v (by simpa using hi)
theorem HW {P : ep} {w : je} {t : ea} (h : D7 P t = some false) : (isAgg t).run P w = .ok false w := by
 unfold D7 at h
 unfold isAgg
 split at h
 ·simp at h
 ·simp at h
 ·rename_i d h1 h2 hd
  simp only [Sem.run_bind, run_underlying hd, Result.andThen_ok]
  cases d <;> first | (exact absurd rfl (h1 _)) | (exact absurd rfl (h2 _ _)) | simp only [Sem.run_pure]
 ·simp at h
theorem Kv {P : ep} {w : je} {t : ea} (h : D7 P t = some true) : (isAgg t).run P w = .ok true w := by
 unfold D7 at h
 unfold isAgg
 split at h
 ·rename_i d hd; simp only [Sem.run_bind, run_underlying hd, Result.andThen_ok, Sem.run_pure]
 ·rename_i hd; simp only [Sem.run_bind, run_underlying hd, Result.andThen_ok, Sem.run_pure]
 ·simp at h
 ·simp at h
theorem FJ {P : ep} {w : je} {t : ea} {n : Nat} (h : B3 P t = some n) : (sizeOf t).run P w = .ok n w := by
 unfold B3 at h
 simp only [dn] at h
 obtain ⟨i, hi, rfl⟩ := h
 simp [sizeOf, typeInfo, hi]
theorem NU {P : ep} {t : ea} {k : Sc} (h : FQ P t = some k) : D7 P t = some false := by
 unfold FQ at h
 unfold D7
 split at h <;> simp_all
theorem Wf {P : ep} {w : je} {E : Ab} {t : ea} {k : Sc} (hk : FQ P t = some k) (x y : V) (u v : eu) (hx : AA E x u) (hy : AA E y v) (b : Bool) (h : Fw k x y = some b) (d : Nat) :
  (Op.equalIn (d + 1) t u v).run P w = .ok b w := by
 unfold Fw at h
 unfold FQ at hk
 split at h
 ·split at h <;> simp only [an, reduceCtorEq] at h
  rename_i hkk
  subst hkk h
  simp only [AA] at hx hy
  subst hx hy
  split at hk <;> simp only [an, reduceCtorEq] at hk
  rename_i ht
  exact run_equalIn_int w d t _ _ _ _ ht
 ·simp only [an] at h
  subst h
  simp only [AA] at hx hy
  subst hx hy
  split at hk <;> simp only [an, reduceCtorEq] at hk
  rename_i ht
  exact run_equalIn_bool' w d t _ _ ht
 ·simp only [an] at h
  subst h
  simp only [AA] at hx hy
  subst hx hy
  split at hk <;> simp only [an, reduceCtorEq] at hk
  rename_i ht
  exact run_equalIn_string w d t _ _ ht
 ·simp at h
theorem JT {P : ep} {w : je} {E : Ab} (d : Nat) (us vs : Array eu) : ∀ (fs : List Field) (n : Nat) (ks : List Sc) (xs ys : List V) (b : Bool),
  FE P n fs = some ks → AM E xs (us.toList.drop n) → AM E ys (vs.toList.drop n) → DC ks xs ys = some b → (Op.eqFields (d + 1) us vs fs).run P w = .ok b w
 | [], n, ks, xs, ys, b, hf, hx, hy, h => by
  simp only [FE, an] at hf
  subst hf
  simp only [DC, an] at h
  subst h
  simp only [Op.eqFields, Sem.run_pure]
 | f :: fs, n, ks, xs, ys, b, hf, hx, hy, h => by
  simp only [FE] at hf
  split at hf <;> simp only [dj, dn, reduceCtorEq] at hf
  rename_i hc
  obtain ⟨hn, ho, hz⟩ := hc
  obtain ⟨k, hk, ks', hks, rfl⟩ := hf
  cases xs with
  | nil => simp [DC] at h
  | cons x xs =>
   cases ys with
   | nil => simp [DC] at h
   | cons y ys =>
    simp only [DC, dj] at h
    obtain ⟨b1, uw, h⟩ := h
    simp only [AM] at hx hy
    obtain ⟨u, tn, hu, hxu, hxs⟩ := hx
    obtain ⟨v, so, hv, hyv, hys⟩ := hy
    have zz : us[n]? = some u := by
     have := congrArg (fun l => l[0]?) hu
     simpa using this
    have hv0 : vs[n]? = some v := by
     have := congrArg (fun l => l[0]?) hv
     simpa using this
    have hus : us.toList.drop (n + 1) = tn := by
     have := congrArg rn hu
     simpa using this
    have wy : vs.toList.drop (n + 1) = so := by
     have := congrArg rn hv
     simpa using this
    have hag := HW (P := P) (w := w) (NU hk)
    simp only [Op.eqFields, hn, ne_eq, not_false_eq_true, if_true, Sem.run_bind, part, hag, Result.andThen_ok, ei, if_false, ho, zz, hv0, Sem.run_pure, Wf hk x y u v hxu hyv b1 uw d]
    cases b1 with
    | false => simp at h; subst h; simp
    | true =>
     simp only [if_true] at h
     have ih := JT (P := P) (w := w) d us vs fs (n + 1) ks' xs ys b hks (by rw [hus]; exact hxs) (by rw [wy]; exact hys) h
     simpa using ih
theorem UY (hs : D1 c E S a) {op : BinOp} {t t2 : ea} {x y : ed} {p q v : V} (ho : o.op = .binOp op t x y t2) (hx : ev S.T x = some p) (hy : ev S.T y = some q)
  (h : Tz c.P op t p q = some v) : Dp c E a o v := by
 have xj := BB hs x _ hx
 have hry := BB hs y _ hy
 unfold Tz at h
 split at h
 ·split at h
  case isFalse => simp at h
  rename_i hk
  subst hk
  simp only [AA] at xj hry
  obtain ⟨u, hu, hr⟩ := YS (P := c.P) (w := E.w) (t := t) h
  exact ⟨u, by simp only [execOp, ho, xj, hry, eqGuard_at_int, Sem.run_bind, Sem.run_pure, Result.andThen_ok, hu], hr E⟩
 ·simp only [AA] at xj hry
  split at h <;> simp only [an, reduceCtorEq] at h
  ·rename_i ht
   subst h
   exact ⟨_, by simp only [execOp, ho, xj, hry, eqGuard_at_bool, Sem.run_bind, Sem.run_pure, Result.andThen_ok, Wd _ _ ht]; rfl, by simp only [AA]⟩
  ·rename_i ht
   subst h
   exact ⟨_, by simp only [execOp, ho, xj, hry, eqGuard_at_bool, Sem.run_bind, Sem.run_pure, Result.andThen_ok, V7 _ _ ht]; rfl, by simp only [AA]⟩
 ·simp only [AA] at xj hry
  split at h
  ·simp only [an] at h
   subst h
   exact ⟨_, by simp only [execOp, ho, xj, hry, eqGuard_at_string, Sem.run_bind, Sem.run_pure, Result.andThen_ok, binOp, Op.stringOp]; rfl, by simp only [AA]⟩
  ·simp only [an] at h
   subst h
   exact ⟨_, by simp only [execOp, ho, xj, hry, eqGuard_at_string, Sem.run_bind, Sem.run_pure, Result.andThen_ok, binOp, Op.stringOp]; rfl, by simp only [AA]⟩
  ·split at h <;> simp only [an, reduceCtorEq] at h
   rename_i tu
   subst h
   have hn0 : ∀ n : Nat, n ≤ 1099511627776 → ¬ ((n : Int) > IntKind.i64.max) := fun n h => by rw [IntKind.max_i64]; omega
   have hn := hn0 _ tu
   exact ⟨_, by simp only [execOp, ho, xj, hry, eqGuard_at_string, Sem.run_bind, Sem.run_pure, Result.andThen_ok, binOp, Op.stringOp, hn, if_false]; rfl, by simp only [AA]⟩
  ·simp at h
 ·simp only [AA] at xj hry
  obtain ⟨us, hu, hxs⟩ := xj
  obtain ⟨vs, hv, hys⟩ := hry
  simp only [dj] at h
  obtain ⟨ks, hks, h⟩ := h
  unfold II at hks
  split at hks
  case h_2 => simp at hks
  rename_i fs hu'
  split at hks
  case isFalse => simp at hks
  rename_i hg
  simp only [ec, jj] at hg
  obtain ⟨hg1, si⟩ := hg
  have hfo : c.P.fieldsOf t = fs := by simp only [Program.fieldsOf, hu']
  have hu2 : c.P.underlying t = some (.struct (c.P.fieldsOf t)) := by rw [hfo]; exact hu'
  have key : ∀ xs ys b, AM E xs us.toList → AM E ys vs.toList → DC ks xs ys = some b → (Op.equalIn 10000 t (.agg us) (.agg vs)).run c.P E.w = .ok b E.w := by
   intro xs ys b hxs hys hb
   rw [run_equalIn_struct E.w 9999 t us vs hu2 hg1, hfo]
   exact JT 9998 us vs fs.toList 0 ks _ _ b hks (by simpa using hxs) (by simpa using hys) hb
  split at h
  ·simp only [dn] at h
   obtain ⟨b, hb, rfl⟩ := h
   exact ⟨_, by simp only [execOp, ho, hu, hv, run_eqGuard_agg E.w _ _ _ _ _ _ si, Sem.run_bind, Result.andThen_ok, run_eql_struct, key _ _ b hxs hys hb, Sem.run_pure]; rfl, by simp only [AA]⟩
  ·simp only [dn] at h
   obtain ⟨b, hb, rfl⟩ := h
   exact ⟨_, by simp only [execOp, ho, hu, hv, run_eqGuard_agg E.w _ _ _ _ _ _ si, Sem.run_bind, Result.andThen_ok, run_neq_struct, key _ _ b hxs hys hb, Sem.run_pure]; rfl, by simp only [AA]⟩
  ·simp at h
 ·simp at h
end
section
variable {c : Cx} {E : Ab} {S : St} {a : Act} {o : fc}
theorem RM (hs : D1 c E S a) {src dst : ea} {x : ed} {k0 k k' : jo} {n : Int} (ho : o.op = .convert src dst x) (h1 : c.P.underlying src = some (.int k0)) (h2 : c.P.underlying dst = some (.int k)) (hx : ev S.T x = some (.int k' n)) : Dp c E a o (.int k (k.wrap n)) := by
 have hr := BB hs x _ hx
 simp only [AA] at hr
 exact ⟨_, by simp only [execOp, ho, hr, convert, Sem.run_bind, run_underlying h1, run_underlying h2, Result.andThen_ok, Conv.intToInt, Sem.run_pure]; rfl, by simp only [AA]⟩
theorem SB {E : Ab} {lv : Option Nat} {g : Nat} : ∀ (cs : List V) (o : Nat), CR E lv g o cs → ∀ (i : Nat) v, cs[i]? = some v → ∃ u, E.w.cell? ⟨g, o + i, none⟩ = some u ∧ AA E v u ∧ ¬ E.U lv g (o + i)
 | [], o, _, i, v, h => by simp at h
 | x :: cs, o, hr, i, v, h => by
  simp only [CR] at hr
  obtain ⟨⟨u, h1, h2⟩, h3, h4⟩ := hr
  cases i with
  | zero => simp only [iz, an] at h; subst h; exact ⟨u, h1, h2, h3⟩
  | succ i =>
   have := SB cs (o + 1) h4 i v (by simpa using h)
   rw [show o + 1 + i = o + (i + 1) by omega] at this
   exact this
theorem Re : ∀ {cs : List V} {acc s : ByteArray}, Jp acc cs = some s → ∃ ns : List Int, cs = ns.map (V.int .u8) ∧ s = ns.foldl (fun r n => r.push (UInt8.ofNat n.toNat)) acc
 | [], acc, s, h => by
  simp only [Jp, an] at h
  exact ⟨[], rfl, h.symm⟩
 | c :: cs, acc, s, h => by
  unfold Jp at h
  split at h
  ·rename_i e; cases e
  ·rename_i n sk e
   cases e
   obtain ⟨ns, h1, h2⟩ := Re h
   exact ⟨n :: ns, by rw [h1]; rfl, h2⟩
  ·cases h
theorem Ki (hs : D1 c E S a) {src dst e : ea} {x : ed} {cs : List V} {s : ByteArray} (ho : o.op = .convert src dst x) (h1 : c.P.underlying src = some (.slice e)) (h2 : c.P.underlying dst = some .string) (he : c.P.underlying e = some (.int .u8)) (hx : ev S.T x = some (.tl cs.length cs)) (hb : Jp .empty cs = some s) : Dp c E a o (.str s) := by
 have hr := BB hs x _ hx
 simp only [AA] at hr
 obtain ⟨A, hv, hA⟩ := hr
 obtain ⟨ns, rfl, rfl⟩ := Re hb
 refine ⟨.string (ns.foldl (fun r n => r.push (UInt8.ofNat n.toNat)) ByteArray.empty), ?_, by simp only [AA]⟩
 simp only [execOp, ho, hv, Sem.run_bind, run_convert_bytes_string E.w src dst e A _ _ h1 he h2]
 cases A with
 | none =>
  rcases hA with h0 | ⟨g, o', hg, _⟩
  ·have : ns = [] := ff (by simpa using h0)
   subst this
   rfl
  ·cases hg
 | some A =>
  have hl : (loadCells A (ns.map (V.int .u8)).length).run c.P E.w = .ok (ns.map (Value.int .u8)).toArray E.w := by
   have := run_loadCells_list (P := c.P) (w := E.w) A (ns.map (Value.int .u8)) (fun j v hj => by
    rcases hA with h0 | ⟨g, o', hg, hc⟩
    ·have : ns = [] := ff (by simpa using h0)
     subst this
     simp at hj
    ·cases hg
     simp only [ic, dn] at hj
     obtain ⟨n, hn, rfl⟩ := hj
     obtain ⟨u, q1, q2, _⟩ := SB _ _ hc j (.int .u8 n) (by simp [ic, hn])
     simp only [AA] at q2
     subst q2
     exact (show (Addr.add ⟨g, o', none⟩ j) = ⟨g, o' + j, none⟩ by simp [Addr.add]) ▸ q1)
   simpa using this
  rw [run_bytesToString E.w A _ _ ns hl]
  rfl
theorem QJ (hs : D1 c E S a) {f : jc} {caps : Array ed} {vs : List V} (ho : o.op = .makeFunc (.func f) #[] caps) (h : Ld S.T caps.toList = some vs) : Dp c E a o (.fn f vs) := by
 have hr := TZ hs _ _ h
 refine ⟨.func (.func f) #[] (caps.map a.eval), by simp [execOp, ho, Instr.makeFunc], ?_⟩
 simp only [AA]
 exact ⟨_, rfl, by simpa using hr⟩
theorem RN (hs : D1 c E S a) {x : ed} {i : Nat} {vs : List V} {v : V} (ho : o.op = .extract x i) (hx : ev S.T x = some (.Ei vs)) (h : vs[i]? = some v) : Dp c E a o v := by
 have hr := BB hs x _ hx
 simp only [AA] at hr
 obtain ⟨us, hu, hr⟩ := hr
 obtain ⟨u, h1, h2⟩ := (Bd _ _ hr).2 i v h
 exact ⟨u, by simp [execOp, ho, hu, Instr.extract, show us[i]? = some u by simpa using h1], h2⟩
theorem Kq {P : ep} {s : ea} {f off : Nat} (h : AL P s f = some off) :
  ∃ fs g n, P.underlying s = some (.struct fs) ∧ fs[f]? = some g ∧ B3 P g.type = some (n + 1) ∧ g.offset = off := by
 unfold AL at h
 split at h
 ·split at h
  ·split at h
   ·rename_i hfs _ _ hg _ _ hn
    simp only [an] at h
    exact ⟨_, _, _, hfs, hg, hn, h⟩
   ·simp at h
  ·simp at h
 ·simp at h
theorem Np {P : ep} {w : je} {s : ea} {f off g o : Nat} (h : AL P s f = some off) :
  (Instr.fieldAt s (.pointer (some ⟨g, o, none⟩)) f).run P w = .ok (.pointer (some ⟨g, o + off, none⟩)) w := by
 obtain ⟨fs, fd, n, h1, h2, h3, rfl⟩ := Kq h
 simp only [Instr.fieldAt, Sem.run_bind, run_underlying h1, Result.andThen_ok, h2, Instr.sureAddr, Sem.run_pure, fieldPlace, FJ h3, Nat.succ_ne_zero, if_false, Addr.add_lit]
theorem Kj (hs : D1 c E S a) {s : ea} {x : ed} {f off b i : Nat} (ho : o.op = .fieldAddr s x f) (h : AL c.P s f = some off) (hx : ev S.T x = some (.ptr b i)) : Dp c E a o (.ptr b (i + off)) := by
 have hr := BB hs x _ hx
 simp only [AA] at hr
 refine ⟨_, by simp only [execOp, ho, hr.2.1, Np h, Sem.run_bind, Result.andThen_ok, Sem.run_pure]; rfl, ?_⟩
 simp only [AA]
 exact ⟨hr.1, trivial, hr.2.2⟩
theorem LC (hs : D1 c E S a) {s : ea} {x : ed} {f off lv i : Nat} {cs : List V} (ho : o.op = .fieldAddr s x f) (h : AL c.P s f = some off) (hx : ev S.T x = some (.lp lv cs i)) : Dp c E a o (.lp lv cs (i + off)) := by
 have hr := BB hs x _ hx
 simp only [AA] at hr
 obtain ⟨hl, g, q, h1, h2⟩ := hr
 refine ⟨_, by simp only [execOp, ho, h1, Np h, Sem.run_bind, Result.andThen_ok, Sem.run_pure]; rfl, ?_⟩
 simp only [AA]
 exact ⟨hl, g, q, by rw [la], h2⟩
theorem CI {E : Ab} {lv : Option Nat} {g : Nat} : ∀ (cs : List V) (o : Nat), CR E lv g o cs → ∀ (i : Nat) v, cs[i]? = some v → ∃ u, E.w.cell? ⟨g, o + i, none⟩ = some u ∧ AA E v u ∧ ¬ E.U lv g (o + i)
 | [], o, _, i, v, h => by simp at h
 | x :: cs, o, hr, i, v, h => by
  simp only [CR] at hr
  obtain ⟨⟨u, h1, h2⟩, h3, h4⟩ := hr
  cases i with
  | zero => simp only [iz, an] at h; subst h; exact ⟨u, h1, h2, h3⟩
  | succ i =>
   have := CI cs (o + 1) h4 i v (by simpa using h)
   rw [show o + 1 + i = o + (i + 1) by omega] at this
   exact this
theorem G6 {E : Ab} {lv : Option Nat} {g : Nat} : ∀ (cs : List V) (o : Nat), (∀ (i : Nat) v, cs[i]? = some v → ∃ u, E.w.cell? ⟨g, o + i, none⟩ = some u ∧ AA E v u ∧ ¬ E.U lv g (o + i)) → CR E lv g o cs
 | [], o, _ => by simp only [CR]
 | x :: cs, o, h => by
  simp only [CR]
  obtain ⟨u, h1, h2, h3⟩ := h 0 x rfl
  refine ⟨⟨u, h1, h2⟩, h3, G6 cs (o + 1) fun i v hi => ?_⟩
  have := h (i + 1) v (by simpa using hi)
  rwa [show o + (i + 1) = o + 1 + i by omega] at this
theorem EV {E : Ab} : ∀ (cs : List V) (us : List eu), cs.length = us.length → (∀ (i : Nat) v u, cs[i]? = some v → us[i]? = some u → AA E v u) → AM E cs us
 | [], us, hl, _ => by
  simp only [AM]
  cases us with
  | nil => rfl
  | cons => simp at hl
 | x :: cs, us, hl, h => by
  cases us with
  | nil => simp at hl
  | cons u us =>
   simp only [AM]
   exact ⟨u, us, rfl, h 0 x u rfl rfl, EV cs us (by simpa using hl) fun i v w hi hj => h (i + 1) v w (by simpa using hi) (by simpa using hj)⟩
theorem Mg {P : ep} {E : Ab} {t : ea} {cs : List V} {g o off : Nat} {v : V} (hc : ∀ (i : Nat) v, cs[i]? = some v → ∃ u, E.w.cell? ⟨g, o + i, none⟩ = some u ∧ AA E v u)
  (h : BN P t cs off = some v) : ∃ u, (loadVar t ⟨g, o + off, none⟩).run P E.w = .ok u E.w ∧ AA E v u := by
 unfold BN at h
 split at h
 ·rename_i ha
  simp only [dj] at h
  obtain ⟨n, hn, h⟩ := h
  split at h
  case isFalse => simp at h
  simp only [an] at h
  rename_i hl
  subst h
  have hex : ∀ i, i < n → ∃ u, E.w.cell? ⟨g, o + off + i, none⟩ = some u ∧ ∀ v, cs[off + i]? = some v → AA E v u := by
   intro i hi
   obtain ⟨u, h1, h2⟩ := hc (off + i) cs[off + i] (dr (by omega))
   refine ⟨u, by rw [la]; exact h1, fun v hv => ?_⟩
   rw [dr (by omega)] at hv
   simp only [an] at hv
   subst hv
   exact h2
  have hcells := run_loadCells (P := P) E.w ⟨g, o + off, none⟩ n (fun j => (E.w.cell? ⟨g, o + off + j, none⟩).getD undef) (fun j hj => by
   obtain ⟨u, h1, _⟩ := hex j hj
   rw [Addr.add_lit, h1]; rfl)
  refine ⟨.agg ((gj n).map fun j => (E.w.cell? ⟨g, o + off + j, none⟩).getD undef).toArray, ?_, ?_⟩
  ·simp only [loadVar, Sem.run_bind, Kv ha, Result.andThen_ok, if_true, FJ hn, hcells, Sem.run_pure]
  ·simp only [AA]
   refine ⟨_, rfl, EV _ _ (by simp; omega) fun i v u hi hj => ?_⟩
   have hin : i < n := by
    rcases fp i n with h | h
    ·exact h
    ·rw [en (by rw [gh]; omega)] at hi; cases hi
   simp only [gm, hin, if_true, jd] at hi
   simp only [ic, jl hin, dq, an] at hj
   obtain ⟨u', h1, h2⟩ := hex i hin
   rw [h1] at hj
   simp only [ji] at hj
   subst hj
   exact h2 v hi
 ·rename_i ha
  obtain ⟨u, h1, h2⟩ := hc off v h
  refine ⟨u, ?_, h2⟩
  simp only [loadVar, Sem.run_bind, HW ha, Result.andThen_ok, ei, if_false, run_load, h1]
 ·simp at h
theorem U2 {E : Ab} (hh : Ch E) {b sz : Nat} {cs : List V} (hb : E.H[b]? = some (.cells sz cs)) (i : Nat) (v : V) (hv : cs[i]? = some v) : ∃ u, E.w.cell? ⟨E.φ b, 0 + i, none⟩ = some u ∧ AA E v u := by
 obtain ⟨cc, t, h1, h2, h3⟩ := hh.cells b sz cs hb
 obtain ⟨u, h4, h5⟩ := h3 i v hv
 exact ⟨u, by rw [cell_of_row _ _ _ _ _ _ h1, kb]; exact h4, h5⟩
theorem YW {P : ep} {E : Ab} (hh : Ch E) {t : ea} {p v : V} {u : eu} (hp : AA E p u) (h : Fg P t E.H p = some v) :
  ∃ x, (Instr.loadAt t u).run P E.w = .ok x E.w ∧ AA E v x := by
 unfold Fg at h
 split at h
 ·split at h
  case h_2 => simp at h
  rename_i b off _ sz cs hb
  simp only [AA] at hp
  obtain ⟨_, hp, _⟩ := hp
  obtain ⟨x, h1, h2⟩ := Mg (P := P) (o := 0) (U2 hh hb) h
  refine ⟨x, ?_, h2⟩
  rw [kb] at h1
  simp only [Instr.loadAt, hp, Instr.sureAddr, Sem.run_bind, Sem.run_pure, Result.andThen_ok, h1]
 ·simp only [AA] at hp
  obtain ⟨_, g, o, hp, hr⟩ := hp
  obtain ⟨x, h1, h2⟩ := Mg (P := P) (o := o) (fun i v hi => by
   obtain ⟨u, h1, h2, _⟩ := CI _ _ hr i v hi
   exact ⟨u, h1, h2⟩) h
  refine ⟨x, ?_, h2⟩
  simp only [Instr.loadAt, hp, Instr.sureAddr, Sem.run_bind, Sem.run_pure, Result.andThen_ok, h1]
 ·simp at h
theorem W5 (hs : D1 c E S a) {t : ea} {x : ed} {p v : V} (ho : o.op = .load t x) (hx : ev S.T x = some p) (h : Fg c.P t S.H p = some v) : Dp c E a o v := by
 have hr := BB hs x _ hx
 rw [← hs.H] at h
 obtain ⟨u, h1, h2⟩ := YW (P := c.P) hs.heap hr h
 exact ⟨u, by simp only [execOp, ho, h1, Sem.run_bind, Result.andThen_ok, Sem.run_pure], h2⟩
theorem Ua (hs : D1 c E S a) {t : ea} {x : ed} {f off : Nat} {fs : Array Field} {g : Field} {cs : List V} {v : V} (ho : o.op = .field t x f) (h : AL c.P t f = some off) (hf : c.P.underlying t = some (.struct fs)) (hg : fs[f]? = some g)
  (hx : ev S.T x = some (.agg cs)) (hv : BN c.P g.type cs off = some v) : Dp c E a o v := by
 have hr := BB hs x _ hx
 simp only [AA] at hr
 obtain ⟨us, hu, hr⟩ := hr
 obtain ⟨fs', g', n, h1, h2, h3, h4⟩ := Kq h
 rw [hf] at h1
 simp only [an, TypeDesc.struct.injEq] at h1
 subst h1
 rw [hg] at h2
 simp only [an] at h2
 subst h2 h4
 obtain ⟨hl, ux⟩ := Bd _ _ hr
 unfold BN at hv
 split at hv
 ·rename_i ha
  simp only [dj] at hv
  obtain ⟨m, hm, hv⟩ := hv
  split at hv
  case isFalse => simp at hv
  simp only [an] at hv
  subst hv
  refine ⟨.agg (us.extract g.offset (g.offset + m)), ?_, ?_⟩
  ·simp only [execOp, ho, hu, Instr.field, asAgg, part, Sem.run_bind, run_underlying hf, Result.andThen_ok, hg, Sem.run_pure, Kv ha, if_true, FJ hm]
  ·simp only [AA]
   refine ⟨_, rfl, EV _ _ ?_ fun i v u hi hj => ?_⟩
   ·simp [hl]
   ·have zg : us.toList[g.offset + i]? = some u := by
     simp only [Array.toList_extract, List.extract_eq_take_drop, gm] at hj
     split at hj
     ·simpa using hj
     ·cases hj
    have zm : cs[g.offset + i]? = some v := by
     rw [gm] at hi
     split at hi
     ·simpa using hi
     ·cases hi
    obtain ⟨u', k1, k2⟩ := ux _ v zm
    rw [zg] at k1
    simp only [an] at k1
    subst k1
    exact k2
 ·rename_i ha
  obtain ⟨u, k1, k2⟩ := ux _ v hv
  refine ⟨u, ?_, k2⟩
  simp only [execOp, ho, hu, Instr.field, asAgg, part, Sem.run_bind, run_underlying hf, Result.andThen_ok, hg, Sem.run_pure, HW ha, ei, if_false, show us[g.offset]? = some u by simpa using k1]
 ·simp at hv
theorem C4 {P : ep} {t e : ea} (h : B0 P t = some e) : P.underlying t = some (.slice e) := by
 unfold B0 at h
 split at h <;> simp only [an, reduceCtorEq] at h
 subst h; assumption
theorem Nq {P : ep} {w : je} {t e : ea} {sz len cap g o : Nat} {k : jo} {n : Int} (ht : B0 P t = some e) (hz : B3 P e = some sz) (h0 : 0 ≤ n) (h1 : n < len) :
  (Instr.indexAt t (.slice (some ⟨g, o, none⟩) len cap) (.int k n)).run P w = .ok (.pointer (some ⟨g, o + n.toNat * sz, none⟩)) w := by
 simp only [Instr.indexAt, asIntOf, Sem.run_bind, Sem.run_pure, Result.andThen_ok, run_underlying (C4 ht), h0, h1, and_self, if_true, FJ hz, Addr.add_lit]
theorem QI (hs : D1 c E S a) {t e : ea} {x i : ed} {sz b off len : Nat} {k : jo} {n : Int} (ho : o.op = .indexAddr t x i) (ht : B0 c.P t = some e) (hz : B3 c.P e = some sz)
  (hx : ev S.T x = some (.sl b off len)) (hi : ev S.T i = some (.int k n)) (h0 : 0 ≤ n) (h1 : n < len) : Dp c E a o (.ptr b (off + n.toNat * sz)) := by
 have hr := BB hs x _ hx
 have hri := BB hs i _ hi
 simp only [AA] at hr hri
 obtain ⟨hb, ⟨cap, hv, _⟩, hn⟩ := hr
 refine ⟨_, by simp only [execOp, ho, hv, hri, Nq ht hz h0 h1, Sem.run_bind, Result.andThen_ok, Sem.run_pure]; rfl, ?_⟩
 simp only [AA]
 exact ⟨hb, trivial, hn⟩
theorem Fk {x i : ed} {t e : ea} {sz lv len : Nat} {cs : List V} {k : jo} {n : Int} {A : Option Addr} {cap : Nat} (ho : o.op = .indexAddr t x i) (ht : B0 c.P t = some e) (hz : B3 c.P e = some sz)
  (sj : lv ≤ E.m) (hx : a.eval x = .slice A len cap) (hA : ∃ g q, A = some ⟨g, q, none⟩ ∧ CR E (some lv) g q cs) (hi : a.eval i = .int k n) (h0 : 0 ≤ n) (h1 : n < len) : Dp c E a o (.lp lv cs (n.toNat * sz)) := by
 obtain ⟨g, q, rfl, hr⟩ := hA
 refine ⟨_, by simp only [execOp, ho, hx, hi, Nq ht hz h0 h1, Sem.run_bind, Result.andThen_ok, Sem.run_pure]; rfl, ?_⟩
 simp only [AA]
 exact ⟨sj, g, q, rfl, hr⟩
theorem XW {E : Ab} {v : V} {u : eu} {n : Nat} (hr : AA E v u) (h : D4 v = some n) : ∃ A cap, u = .slice A n cap ∧ n ≤ cap := by
 unfold D4 at h
 split at h <;> simp only [an, reduceCtorEq] at h <;> subst h <;> simp only [AA] at hr
 ·obtain ⟨_, A, cap, h1, h2, _⟩ := hr; exact ⟨A, cap, h1, h2⟩
 ·obtain ⟨A, h1, _⟩ := hr; exact ⟨A, _, h1, dz _⟩
 ·obtain ⟨_, ⟨A, cap, h1, h2, _⟩, _⟩ := hr; exact ⟨A, cap, h1, h2⟩
 ·obtain ⟨_, ⟨A, cap, h1, h2, _⟩, _⟩ := hr; exact ⟨A, cap, h1, h2⟩
 ·obtain ⟨_, ⟨cap, h1, h2⟩, _⟩ := hr; exact ⟨_, cap, h1, h2⟩
theorem YN (hs : D1 c E S a) {x : ed} {t : ea} {e : ea} {v : V} {n : Nat} {args : Array ed} {ats : Array ea} (ho : o.op = .call { callee := .builtin .len, args := args, argTypes := ats }) (ha : args.toList = [x]) (hat : ats[0]? = some t)
    (ht : c.P.underlying t = some (.slice e)) (hx : ev S.T x = some v) (hn : D4 v = some n) : Dp c E a o (.int .i64 n) := by
  obtain ⟨A, cap, hu, _⟩ := XW (BB hs x _ hx) hn
  have vu : args = #[x] := by apply mf; simpa using ha
  subst vu
  refine ⟨_, by simp only [execOp, ho, resolve, Sem.run_bind, Sem.run_pure, Result.andThen_ok, invoke, builtin, Builtin.len_, hat, lz, gq, jx, hu, run_underlying ht, ly, iz]; rfl, ?_⟩
  simp only [AA]; rfl
theorem W4 (hs : D1 c E S a) {x : ed} {t : ea} {s : ByteArray} {args : Array ed} {ats : Array ea} (ho : o.op = .call { callee := .builtin .len, args := args, argTypes := ats }) (ha : args.toList = [x]) (hat : ats[0]? = some t)
    (ht : c.P.underlying t = some .string) (hx : ev S.T x = some (.str s)) : Dp c E a o (.int .i64 s.size) := by
  have hu := BB hs x _ hx
  simp only [AA] at hu
  have vu : args = #[x] := by apply mf; simpa using ha
  subst vu
  refine ⟨_, by simp only [execOp, ho, resolve, Sem.run_bind, Sem.run_pure, Result.andThen_ok, invoke, builtin, Builtin.len_, hat, lz, gq, jx, hu, run_underlying ht, ly, iz]; rfl, ?_⟩
  simp only [AA]; rfl
theorem YP (hs : D1 c E S a) {x y : ed} {k k' : jo} {p q : Int} {args : Array ed} {ats : Array ea} (ho : o.op = .call { callee := .builtin .min, args := args, argTypes := ats }) (ha : args.toList = [x, y])
    (hx : ev S.T x = some (.int k p)) (hy : ev S.T y = some (.int k' q)) : Dp c E a o (.int k (if q < p then q else p)) := by
  have hu := BB hs x _ hx
  have hv := BB hs y _ hy
  simp only [AA] at hu hv
  have vu : args = #[x, y] := by apply mf; simpa using ha
  subst vu
  refine ⟨_, by simp only [execOp, ho, resolve, Sem.run_bind, Sem.run_pure, Result.andThen_ok, invoke, builtin, Builtin.min_, Builtin.min2, lz, gq, jx, hu, hv, qg, qk]; rfl, ?_⟩
  simp only [AA]
theorem YO (hs : D1 c E S a) {x y : ed} {k k' : jo} {p q : Int} {args : Array ed} {ats : Array ea} (ho : o.op = .call { callee := .builtin .max, args := args, argTypes := ats }) (ha : args.toList = [x, y])
    (hx : ev S.T x = some (.int k p)) (hy : ev S.T y = some (.int k' q)) : Dp c E a o (.int k (if q > p then q else p)) := by
  have hu := BB hs x _ hx
  have hv := BB hs y _ hy
  simp only [AA] at hu hv
  have vu : args = #[x, y] := by apply mf; simpa using ha
  subst vu
  refine ⟨_, by simp only [execOp, ho, resolve, Sem.run_bind, Sem.run_pure, Result.andThen_ok, invoke, builtin, Builtin.max_, Builtin.max2, lz, gq, jx, hu, hv, qg, qk]; rfl, ?_⟩
  simp only [AA]
theorem TC (hs : D1 c E S a) {x i : ed} {t : ea} {s : ByteArray} {k : jo} {n : Int} {b : UInt8} (ho : o.op = .index t x i) (ht : c.P.underlying t = some .string) (hx : ev S.T x = some (.str s)) (hi : ev S.T i = some (.int k n))
  (h0 : 0 ≤ n) (hb : s[n.toNat]? = some b) : Dp c E a o (.int .u8 b.toNat) := by
 have hu := BB hs x _ hx
 have hv := BB hs i _ hi
 simp only [AA] at hu hv
 refine ⟨_, by simp only [execOp, ho, hu, hv, Instr.index, asIntOf, Sem.run_bind, Sem.run_pure, Result.andThen_ok, run_underlying ht, h0, if_true, hb]; rfl, ?_⟩
 simp only [AA]
theorem SC {E : Ab} {lv : Option Nat} {g : Nat} (cs : List V) (o i n : Nat) (h : CR E lv g o cs) : CR E lv g (o + i) ((cs.drop i).take n) := by
 refine G6 _ _ fun j v hj => ?_
 rw [gm] at hj
 split at hj
 ·rw [jd] at hj
  have := CI _ _ h _ v hj
  rw [la]
  exact this
 ·cases hj
theorem We (hs : D1 c E S a) {len cap l h : Nat} (lo hi : Option ed) (hlo : Cy S.T 0 lo = some l) (hhi : Cy S.T len hi = some h) (hlc : len ≤ cap) (hlh : l ≤ h) (hhl : h ≤ len) :
  (Instr.sliceBounds true len cap (lo.map a.eval) (hi.map a.eval) none).run c.P E.w = .ok (l, h, cap) E.w := by
 have h1 : ∀ (x : ed) (y n : Nat) (z : BoundsCode) m, Cy S.T m (some x) = some n → n ≤ y → (Instr.sliceBound (a.eval x) y z).run c.P E.w = .ok n E.w := by
  intro x y n z m hx hn
  simp only [Cy] at hx
  split at hx
  ·rename_i k i hk
   split at hx
   case isFalse => cases hx
   rename_i hi0
   simp only [an] at hx
   subst hx
   have hr := BB hs x _ hk
   simp only [AA] at hr
   simp only [Instr.sliceBound, hr, asIntOf, Sem.run_bind, Sem.run_pure, Result.andThen_ok]
   rw [ru ⟨hi0, by omega⟩]
   rfl
  ·cases hx
 cases hi with
 | none =>
  simp only [Cy, an] at hhi
  subst hhi
  cases lo with
  | none =>
   simp only [Cy, an] at hlo
   subst hlo
   simp [Instr.sliceBounds]
  | some x =>
   have := h1 x len l .sliceB 0 hlo hlh
   simp [Instr.sliceBounds, this]
 | some y =>
  have hy := h1 y cap h .sliceAcap len hhi (by omega)
  cases lo with
  | none =>
   simp only [Cy, an] at hlo
   subst hlo
   simp [Instr.sliceBounds, hy]
  | some x =>
   have := h1 x h l .sliceB 0 hlo hlh
   simp [Instr.sliceBounds, hy, this]
theorem KE (hs : D1 c E S a) {t e : ea} {A : Option Addr} {len cap l h sz : Nat} (lo hi : Option ed) (ht : B0 c.P t = some e) (hz : B3 c.P e = some sz) (hlo : Cy S.T 0 lo = some l) (hhi : Cy S.T len hi = some h) (hlc : len ≤ cap) (hlh : l ≤ h) (hhl : h ≤ len) :
  (Instr.sliceAt t (.slice A len cap) (lo.map a.eval) (hi.map a.eval) none).run c.P E.w = .ok (.slice (if cap = l then A else A.map (·.add (l * sz))) (h - l) (cap - l)) E.w := by
 have hu := C4 ht
 simp only [Instr.sliceAt, Instr.slice, Sem.run_bind, run_underlying hu, Result.andThen_ok, We hs lo hi hlo hhi hlc hlh hhl, FJ hz, Sem.run_pure]
theorem HE (hs : D1 c E S a) {t e : ea} {x : ed} {lo hi : Option ed} {lv len l h sz cap : Nat} {cs : List V} {A : Option Addr} (ho : o.op = .slice t x lo hi none) (ht : B0 c.P t = some e) (hz : B3 c.P e = some sz)
  (sj : lv ≤ E.m) (hx : a.eval x = .slice A len cap) (hlc : len ≤ cap) (hA : len = 0 ∨ ∃ g q, A = some ⟨g, q, none⟩ ∧ CR E (some lv) g q cs)
  (hlo : Cy S.T 0 lo = some l) (hhi : Cy S.T len hi = some h) (hlh : l ≤ h) (hhl : h ≤ len) : Dp c E a o (.lit lv (h - l) ((cs.drop (l * sz)).take ((h - l) * sz))) := by
 refine ⟨_, by simp only [execOp, ho, hx, KE hs lo hi ht hz hlo hhi hlc hlh hhl, Sem.run_bind, Result.andThen_ok, Sem.run_pure, kl]; rfl, ?_⟩
 simp only [AA]
 refine ⟨sj, _, _, rfl, by omega, ?_⟩
 by_cases h0 : h - l = 0
 ·exact .inl h0
 ·right
  rcases hA with hA | ⟨g, q, rfl, hr⟩
  ·omega
  ·refine ⟨g, q + l * sz, ?_, SC cs q _ _ hr⟩
   rw [rr (by omega)]
   simp only [dq, Addr.add_lit]
theorem QL (hs : D1 c E S a) {t e : ea} {x : ed} {lo hi : Option ed} {b off len l h sz : Nat} (ho : o.op = .slice t x lo hi none) (ht : B0 c.P t = some e) (hz : B3 c.P e = some sz)
  (hx : ev S.T x = some (.sl b off len)) (hlo : Cy S.T 0 lo = some l) (hhi : Cy S.T len hi = some h) (hlh : l ≤ h) (hhl : h ≤ len) : Dp c E a o (if l = h then .lit 0 0 [] else .sl b (off + l * sz) (h - l)) := by
 have hr := BB hs x _ hx
 simp only [AA] at hr
 obtain ⟨hb, ⟨cap, hv, hlc⟩, hn⟩ := hr
 refine ⟨_, by simp only [execOp, ho, hv, KE hs lo hi ht hz hlo hhi hlc hlh hhl, Sem.run_bind, Result.andThen_ok, Sem.run_pure, kl]; rfl, ?_⟩
 split
 ·simp only [AA]
  exact ⟨ga _, _, _, by rw [show h - l = 0 by omega], by omega, .inl trivial⟩
 ·simp only [AA]
  refine ⟨hb, ⟨cap - l, ?_, by omega⟩, hn⟩
  rw [rr (by omega)]
  simp only [dq, Addr.add_lit]
theorem TE (hs : D1 c E S a) {t e : ea} {x y z : ed} {v : V} {n : Nat} {k k' : jo} (ho : o.op = .slice t x none (some y) (some z)) (ht : B0 c.P t = some e) {sz : Nat} (hz : B3 c.P e = some sz)
  (hx : ev S.T x = some v) (hn : D4 v = some n) (hy : ev S.T y = some (.int k 0)) (hzz : ev S.T z = some (.int k' 0)) : Dp c E a o (.tl 0 []) := by
 obtain ⟨A, cap, hu, _⟩ := XW (BB hs x _ hx) hn
 have h1 := BB hs y _ hy
 have h2 := BB hs z _ hzz
 simp only [AA] at h1 h2
 have hu' := C4 ht
 refine ⟨.slice A 0 0, ?_, by simp only [AA]; exact ⟨A, rfl, .inl trivial⟩⟩
 simp [execOp, ho, hu, h1, h2, Instr.sliceAt, Instr.slice, run_underlying hu', Instr.sliceBounds, Instr.sliceBound, asIntOf, FJ hz]
end
def Ab.heap (E : Ab) (H : A5) : Ab := { E with H := H }
@[simp] theorem Ab.GY (E : Ab) (H : A5) : (E.heap H).H = H := rfl
@[simp] theorem Ab.cT (E : Ab) (H : A5) : (E.heap H).w = E.w := rfl
@[simp] theorem Ab.cS (E : Ab) (H : A5) : (E.heap H).φ = E.φ := rfl
@[simp] theorem Ab.tT (E : Ab) (H : A5) : (E.heap H).n = E.n := rfl
@[simp] theorem Ab.tS (E : Ab) (H : A5) : (E.heap H).m = E.m := rfl
@[simp] theorem Ab.qN (E : Ab) (H : A5) : (E.heap H).Bl = E.Bl := rfl
@[simp] theorem Ab.sY (E : Ab) (H : A5) : (E.heap H).lk = E.lk := rfl
@[simp] theorem Ab.KS (E : Ab) (H H' : A5) : (E.heap H).heap H' = E.heap H' := rfl
theorem AX (H : A5) (b c : Nat) (x : Bv) : (H.set b x)[c]? = if b = c ∧ b < H.length then some x else H[c]? := by
 rw [mb]
 by_cases h : b = c
 ·subst h
  by_cases h2 : b < H.length
  ·simp [h2]
  ·simp [h2]
 ·simp [h]
theorem GJ.kill (E : Ab) (b : Nat) : GJ E (E.heap (E.H.set b .dead)) where
 lk := rfl
 os := rfl
 tape := rfl
 output := rfl
 size := dz _
 len := dz _
 mm := rfl
 cell := fun _ _ _ h _ => h
 block := fun _ _ _ => rfl
 mono := by
  intro lv g i _ hu
  refine .inl ?_
  rcases hu with hu | hu
  ·exact .inl hu
  refine .inr ?_
  cases lv with
  | some lv =>
   obtain ⟨b', h1, h2, h3⟩ := hu
   refine ⟨b', h1, h2, ?_⟩
   simp only [Ab.GY, AX] at h3
   by_cases hb : b = b' ∧ b < E.H.length
   ·rw [ru hb] at h3; exact h3.elim
   ·rw [rr hb] at h3; exact h3
  | none =>
   obtain ⟨b', h1, h3⟩ := hu
   refine ⟨b', h1, ?_⟩
   simp only [Ab.GY, AX] at h3
   by_cases hb : b = b' ∧ b < E.H.length
   ·rw [ru hb] at h3; exact h3.elim
   ·rw [rr hb] at h3; exact h3
 Ce := by
  intro b' tp hn
  refine ⟨rfl, fun l n sz => ?_⟩
  simp only [Ab.GY, AX]
  split
  ·simp
  ·exact hn l n sz
 cells := by
  intro b' tp hn sz cs
  simp only [Ab.GY, AX]
  split
  ·simp
  ·exact hn sz cs
 Bt := by
  intro b' l n' wg tp h
  simp only [Ab.GY, AX] at h
  split at h
  ·cases h
  ·exact ⟨n', h, dz _, fun _ => ⟨rfl, fun c t hc => ⟨c, hc, rfl⟩⟩⟩
 fresh := by
  intro b' h
  refine .inl ⟨rfl, ?_⟩
  simp only [Ab.GY, AX] at h
  split at h
  ·exact h.elim
  ·exact h
 Bl := fun _ h => h
 Ix := fun _ h => .inl h
 I8 := fun _ _ _ => rfl
theorem Ch.kill {E : Ab} (h : Ch E) (b : Nat) : Ch (E.heap (E.H.set b .dead)) where
 cells := by
  intro b' sz cs hb
  simp only [Ab.GY, AX] at hb
  split at hb
  ·cases hb
  ·obtain ⟨c, t, h1, h2, h3⟩ := h.cells b' sz cs hb
   exact ⟨c, t, h1, h2, fun i v hv => let ⟨u, h4, h5⟩ := h3 i v hv; ⟨u, h4, (GJ.kill E b).rep h v u h5⟩⟩
 Bt := by
  intro b' l n sz hb
  simp only [Ab.GY, AX] at hb
  split at hb
  ·cases hb
  ·exact h.Bt b' l n sz hb
 lvl := by
  intro b' l n sz hb
  simp only [Ab.GY, AX] at hb
  split at hb
  ·cases hb
  ·exact h.lvl b' l n sz hb
 dm := h.dm
 maps := by
  intro b' BC hb
  simp only [Ab.GY, AX] at hb
  split at hb
  ·cases hb
  ·exact h.maps b' BC hb
 inj := by
  intro b1 b2 h1 h2 he
  simp only [Ab.GY, AX] at h1 h2
  refine h.inj b1 b2 ?_ ?_ he
  ·split at h1
   ·exact h1.elim
   ·exact h1
  ·split at h2
   ·exact h2.elim
   ·exact h2
 Bl := fun g hg => ⟨(h.Bl g hg).1, fun b' hl => (h.Bl g hg).2 b' (by
  simp only [Ab.GY, AX] at hl
  split at hl
  ·exact hl.elim
  ·exact hl)⟩
theorem Sb {E : Ab} {lv : Option Nat} {g i : Nat} (h : E.U lv g i) : g ∈ E.Bl ∨ ∃ b, E.φ b = g ∧ live E.H[b]? := by
 rcases h with h | h
 ·exact .inl h
 refine .inr ?_
 cases lv with
 | some lv =>
  obtain ⟨b, h1, h2, h3⟩ := h
  refine ⟨b, h1, ?_⟩
  split at h3
  ·rename_i he; rw [he]; trivial
  ·rename_i he; rw [he]; trivial
  ·rename_i he; rw [he]; trivial
  ·exact h3.elim
 | none =>
  obtain ⟨b, h1, h3⟩ := h
  refine ⟨b, h1, ?_⟩
  split at h3
  ·rename_i he; rw [he]; trivial
  ·rename_i he; rw [he]; trivial
  ·rename_i he; rw [he]; trivial
  ·exact h3.elim
theorem Qo {E : Ab} (hh : Ch E) {b : Nat} (hl : live E.H[b]?) {E' : Ab} {k : Nat} (hmono : ∀ lv g i, Qf k lv → E'.U lv g i → (E.heap (E.H.set b .dead)).U lv g i ∨ E.w.heap.size ≤ g) (hs : E.φ b < E.w.heap.size) (lv : Option Nat) (sj : Qf k lv) (i : Nat) : ¬ E'.U lv (E.φ b) i := by
 intro hu
 rcases hmono _ _ _ sj hu with h | h
 ·rcases Sb h with h | ⟨b', h1, hl'⟩
  ·exact (hh.Bl _ h).2 b hl rfl
  simp only [Ab.GY, Ab.cS, AX] at h1 hl'
  split at hl'
  ·exact hl'.elim
  ·rename_i sq
   have := hh.inj b' b hl' hl h1
   subst this
   refine sq ⟨rfl, ?_⟩
   rcases fp b' E.H.length with h | h
   ·exact h
   ·rw [en h] at hl; exact hl.elim
 ·exact absurd hs (ib.2 h)
theorem Da {E : Ab} {cs : List V} {g o : Nat} (h : ∀ (i : Nat) v, cs[i]? = some v → ∃ u, E.w.cell? ⟨g, o + i, none⟩ = some u ∧ AA E v u) :
  AM E cs ((gj cs.length).map fun i => (E.w.cell? ⟨g, o + i, none⟩).getD undef) := by
 refine EV _ _ (by simp) fun i v u hi hj => ?_
 obtain ⟨u', h1, h2⟩ := h i v hi
 have hl : i < cs.length := by
  rcases fp i cs.length with h | h
  ·exact h
  ·rw [en h] at hi; cases hi
 simp only [ic, jl hl, dq, an, h1, ji] at hj
 subst hj
 exact h2
theorem Hw {E : Ab} {lv : Option Nat} {g o : Nat} {cs : List V} {us : List eu} (h : AM E cs us) (hc : ∀ (i : Nat) u, us[i]? = some u → E.w.cell? ⟨g, o + i, none⟩ = some u) (hu : ∀ i, i < cs.length → ¬ E.U lv g (o + i)) : CR E lv g o cs := by
 refine G6 _ _ fun i v hi => ?_
 obtain ⟨hl, hg⟩ := Bd _ _ h
 obtain ⟨u, h1, h2⟩ := hg i v hi
 have wz : i < cs.length := by
  rcases fp i cs.length with h | h
  ·exact h
  ·rw [en h] at hi; cases hi
 exact ⟨u, hc i u h1, h2, hu i wz⟩
mutual
theorem Mt {E : Ab} {d n : Nat} : ∀ (v : V) (u : eu), clean (d + 1) v = true → AA E v u → AA (E.shrink n d) v u
 | .int .., _, _, r => by simpa only [AA] using r
 | .bool _, _, _, r => by simpa only [AA] using r
 | .str _, _, _, r => by simpa only [AA] using r
 | .HV, _, _, r => by simpa only [AA] using r
 | .EI, _, _, r => by simpa only [AA] using r
 | .ptr .., _, h, _ => by simp [clean] at h
 | .lp .., _, h, _ => by simp [clean] at h
 | .tl .., _, h, _ => by simp [clean] at h
 | .snap .., _, h, _ => by simp [clean] at h
 | .sl .., _, h, _ => by simp [clean] at h
 | .fn .., _, h, _ => by simp [clean] at h
 | .lit lv len cs, _, h, r => by
  simp only [AA] at r ⊢
  simp only [clean, ec, gg, beq_iff_eq, ry] at h
  obtain ⟨hl, A, cap, h1, h2, h3⟩ := r
  refine ⟨by show lv ≤ d; omega, A, cap, h1, h2, ?_⟩
  rcases h3 with h3 | ⟨g, o, h3, h4⟩
  ·exact .inl h3
  ·exact .inr ⟨g, o, h3, P5 (some lv) g o cs h.2 h4⟩
 | .agg cs, _, h, r => by
  simp only [AA] at r ⊢
  simp only [clean] at h
  obtain ⟨vs, h1, h2⟩ := r
  exact ⟨vs, h1, Jq cs _ h h2⟩
 | .Ei cs, _, h, r => by
  simp only [AA] at r ⊢
  simp only [clean] at h
  obtain ⟨vs, h1, h2⟩ := r
  exact ⟨vs, h1, Jq cs _ h h2⟩
theorem P5 {E : Ab} {d n : Nat} (lv : Option Nat) (g : Nat) : ∀ (o : Nat) (cs : List V), clean.cleanL (d + 1) cs = true → CR E lv g o cs → CR (E.shrink n d) lv g o cs
 | _, [], _, _ => by simp only [CR]
 | o, c :: cs, h, r => by
  simp only [CR] at r ⊢
  simp only [clean.cleanL, ec] at h
  obtain ⟨⟨u, h1, h2⟩, h3, h4⟩ := r
  exact ⟨⟨u, h1, Mt c u h.1 h2⟩, h3, P5 lv g (o + 1) cs h.2 h4⟩
theorem Jq {E : Ab} {d n : Nat} : ∀ (cs : List V) (vs : List eu), clean.cleanL (d + 1) cs = true → AM E cs vs → AM (E.shrink n d) cs vs
 | [], _, _, r => by simpa only [AM] using r
 | c :: cs, _, h, r => by
  simp only [AM] at r ⊢
  simp only [clean.cleanL, ec] at h
  obtain ⟨u, us, h1, h2, h3⟩ := r
  exact ⟨u, us, h1, Mt c u h.1 h2, Jq cs us h.2 h3⟩
end
mutual
theorem Hk {E : Ab} {d : Nat} : ∀ (v : V) (u : eu), BS (d + 1) v = true → AA E v u → AA (E.shrink E.n d) v u
 | .int .., _, _, r => by simpa only [AA] using r
 | .bool _, _, _, r => by simpa only [AA] using r
 | .str _, _, _, r => by simpa only [AA] using r
 | .HV, _, _, r => by simpa only [AA] using r
 | .EI, _, _, r => by simpa only [AA] using r
 | .ptr .., _, _, r => by simp only [AA] at r ⊢; exact r
 | .Cm .., _, _, r => by simp only [AA] at r ⊢; exact r
 | .sl .., _, _, r => by simp only [AA] at r ⊢; exact r
 | .lp .., _, h, _ => by simp [BS] at h
 | .tl len cs, _, h, r => by
  simp only [AA] at r ⊢
  simp only [BS] at h
  obtain ⟨A, h1, h3⟩ := r
  refine ⟨A, h1, ?_⟩
  rcases h3 with h3 | ⟨g, o, h3, h4⟩
  ·exact .inl h3
  ·exact .inr ⟨g, o, h3, ID (some 0) g o cs h h4⟩
 | .snap b len cs, _, h, r => by
  simp only [AA] at r ⊢
  simp only [BS] at h
  obtain ⟨hb, ⟨A, cap, h1, h2, ⟨g, o, h3, ha, h4⟩, h5⟩, h6⟩ := r
  exact ⟨hb, ⟨A, cap, h1, h2, ⟨g, o, h3, ha, ID none g o cs h h4⟩, h5⟩, h6⟩
 | .lit lv len cs, _, h, r => by
  simp only [AA] at r ⊢
  simp only [BS, ec, gg, beq_iff_eq, ry] at h
  obtain ⟨hl, A, cap, h1, h2, h3⟩ := r
  refine ⟨by show lv ≤ d; omega, A, cap, h1, h2, ?_⟩
  rcases h3 with h3 | ⟨g, o, h3, h4⟩
  ·exact .inl h3
  ·exact .inr ⟨g, o, h3, ID (some lv) g o cs h.2 h4⟩
 | .agg cs, _, h, r => by
  simp only [AA] at r ⊢
  simp only [BS] at h
  obtain ⟨vs, h1, h2⟩ := r
  exact ⟨vs, h1, HP cs _ h h2⟩
 | .Ei cs, _, h, r => by
  simp only [AA] at r ⊢
  simp only [BS] at h
  obtain ⟨vs, h1, h2⟩ := r
  exact ⟨vs, h1, HP cs _ h h2⟩
 | .fn f cs, _, h, r => by
  simp only [AA] at r ⊢
  simp only [BS] at h
  obtain ⟨vs, h1, h2⟩ := r
  exact ⟨vs, h1, HP cs _ h h2⟩
theorem ID {E : Ab} {d : Nat} (lv : Option Nat) (g : Nat) : ∀ (o : Nat) (cs : List V), BS.cleanGL (d + 1) cs = true → CR E lv g o cs → CR (E.shrink E.n d) lv g o cs
 | _, [], _, _ => by simp only [CR]
 | o, c :: cs, h, r => by
  simp only [CR] at r ⊢
  simp only [BS.cleanGL, ec] at h
  obtain ⟨⟨u, h1, h2⟩, h3, h4⟩ := r
  exact ⟨⟨u, h1, Hk c u h.1 h2⟩, h3, ID lv g (o + 1) cs h.2 h4⟩
theorem HP {E : Ab} {d : Nat} : ∀ (cs : List V) (vs : List eu), BS.cleanGL (d + 1) cs = true → AM E cs vs → AM (E.shrink E.n d) cs vs
 | [], _, _, r => by simpa only [AM] using r
 | c :: cs, _, h, r => by
  simp only [AM] at r ⊢
  simp only [BS.cleanGL, ec] at h
  obtain ⟨u, us, h1, h2, h3⟩ := r
  exact ⟨u, us, h1, Hk c u h.1 h2, HP cs us h.2 h3⟩
end
def Z8 (E : Ab) (v : V) (H' : A5) (v' : V) : Prop :=
 GJ E (E.heap H') ∧ Ch (E.heap H') ∧ ∀ u, AA E v u → AA ((E.heap H').shrink 0 0) v' u
theorem Rn {f : A5 → V → Option (V × A5)} (hf : ∀ E v v' H', f E.H v = some (v', H') → Ch E → Z8 E v H' v') :
  ∀ (vs : List V) (E : Ab) (so : List V) (H' : A5), AV.giveL f E.H vs = some (so, H') → Ch E →
   GJ E (E.heap H') ∧ Ch (E.heap H') ∧ (∀ us, AM E vs us → AM ((E.heap H').shrink 0 0) so us) ∧ so.length = vs.length
 | [], E, so, H', h, hh => by
  simp only [AV.giveL, an, dk] at h
  obtain ⟨rfl, rfl⟩ := h
  exact ⟨GJ.refl E, hh, fun us hu => by simpa only [AM] using hu, rfl⟩
 | v :: vs, E, so, H', h, hh => by
  simp only [AV.giveL, dj, dn, Prod.exists] at h
  obtain ⟨v1, H1, h1, vs2, H2, h2, h3⟩ := h
  simp only [dk] at h3
  obtain ⟨rfl, rfl⟩ := h3
  obtain ⟨e1, r1, p1⟩ := hf E v v1 H1 h1 hh
  obtain ⟨e2, r2, p2, l2⟩ := Rn hf vs (E.heap H1) vs2 H2 h2 r1
  simp only [Ab.KS] at e2 r2 p2
  refine ⟨e1.trans e2, r2, fun us hu => ?_, by simp [l2]⟩
  simp only [AM] at hu ⊢
  obtain ⟨u, tn, rfl, hu1, hu2⟩ := hu
  exact ⟨u, tn, rfl, (e2.shrink r1 (n := 0) (m := 0) (ga _) (ga _)).rep _ _ (p1 u hu1), p2 tn (e1.Hz hh _ _ hu2)⟩
theorem Hp (lo : Nat) : ∀ (k : Nat) (E : Ab) (v v' : V) (H' : A5), AV lo k E.H v = some (v', H') → Ch E → Z8 E v H' v'
 | 0, E, v, v', H', h, _ => by simp [AV] at h
 | k + 1, E, v, v', H', h, hh => by
  have same : (v', H') = (v, E.H) → (∀ u, AA E v u → AA (E.shrink 0 0) v u) → Z8 E v H' v' := by
   intro e hr
   simp only [dk] at e
   obtain ⟨rfl, rfl⟩ := e
   exact ⟨GJ.refl E, hh, hr⟩
  have ihf := fun (E : Ab) (v v' : V) (H' : A5) (h : AV lo k E.H v = some (v', H')) hh => Hp lo k E v v' H' h hh
  have ih := Rn ihf
  cases v with
  | int _ _ => simp only [AV, an] at h; exact same h.symm fun u r => by simpa only [AA] using r
  | bool _ => simp only [AV, an] at h; exact same h.symm fun u r => by simpa only [AA] using r
  | str _ => simp only [AV, an] at h; exact same h.symm fun u r => by simpa only [AA] using r
  | HV => simp only [AV, an] at h; exact same h.symm fun u r => by simpa only [AA] using r
  | EI => simp only [AV, an] at h; exact same h.symm fun u r => by simpa only [AA] using r
  | ptr _ _ => simp [AV] at h
  | Cm _ => simp [AV] at h
  | lp _ _ _ => simp [AV] at h
  | fn _ _ => simp [AV] at h
  | pre _ _ _ _ => simp [AV] at h
  | Ei _ => simp [AV] at h
  | lit lv n cs =>
   simp only [AV] at h
   split at h
   ·rename_i hc
    simp only [an] at h
    exact same h.symm fun u r => Mt _ u hc r
   ·cases h
  | tl n cs =>
   simp only [AV, dn, Prod.exists, dk] at h
   obtain ⟨sk, H1, h1, rfl, rfl⟩ := h
   obtain ⟨e, r, p, l⟩ := ih cs E sk H1 h1 hh
   refine ⟨e, r, fun u hu => ?_⟩
   simp only [AA] at hu ⊢
   obtain ⟨A, rfl, hA⟩ := hu
   refine ⟨dz _, A, n, rfl, dz _, ?_⟩
   rcases hA with hA | ⟨g, o, hA, hr⟩
   ·exact .inl hA
   ·refine .inr ⟨g, o, hA, ?_⟩
    have hg := CI _ _ hr
    have wy := Da (E := E) (cs := cs) (g := g) (o := o) fun i v hi => let ⟨u, a1, a2, _⟩ := hg i v hi; ⟨u, a1, a2⟩
    refine Hw (p _ wy) (fun i u hi => ?_) (fun i hi => ?_)
    ·have wz : i < cs.length := by
      rcases fp i cs.length with h | h
      ·exact h
      ·rw [en (by simp; omega)] at hi; cases hi
     simp only [ic, jl wz, dq, an] at hi
     obtain ⟨u', a1, _, _⟩ := hg i _ (dr wz)
     rw [a1] at hi
     subst hi
     exact a1
    ·obtain ⟨u', a1, _, a3⟩ := hg i _ (dr (by omega))
     exact ((e.keeps hh).cell (some 0) g (o + i) u' (ga _) (fun e => by cases e) a1 a3).2
  | snap b n cs =>
   simp only [AV] at h
   split at h
   case h_2 => cases h
   rename_i l m sz hb
   split at h
   ·cases h
   rename_i uc
   simp only [not_or, Decidable.not_not] at uc
   obtain ⟨_, rfl⟩ := uc
   simp only [dn, Prod.exists, dk] at h
   obtain ⟨sk, H1, h1, rfl, rfl⟩ := h
   have hk := GJ.kill E b
   obtain ⟨e, r, p, l⟩ := ih cs (E.heap (E.H.set b .dead)) sk H1 h1 (hh.kill b)
   simp only [Ab.KS] at e r p
   refine ⟨hk.trans e, r, fun u hu => ?_⟩
   simp only [AA] at hu ⊢
   obtain ⟨_, ⟨A, cap, rfl, hc, ⟨g, o, hA, _, hr⟩, xa⟩, _⟩ := hu
   obtain ⟨hA', c0, t0, uy, _⟩ := (xa _ _ _ hb).2 rfl
   rw [hA] at hA'
   simp only [an, Addr.mk.injEq, and_true] at hA'
   obtain ⟨rfl, rfl⟩ := hA'
   refine ⟨dz _, A, cap, rfl, hc, .inr ⟨E.φ b, 0, hA, ?_⟩⟩
   have hg := CI _ _ hr
   have hex : ∀ (i : Nat) v, cs[i]? = some v → ∃ u, E.w.cell? ⟨E.φ b, 0 + i, none⟩ = some u ∧ AA (E.heap (E.H.set b .dead)) v u := fun i v hi => let ⟨u, a1, a2, _⟩ := hg i v hi; ⟨u, a1, hk.rep hh _ _ a2⟩
   have wy := Da (E := E.heap (E.H.set b .dead)) hex
   refine Hw (p _ wy) (fun i u hi => ?_) (fun i hi => ?_)
   ·have wz : i < cs.length := by
     rcases fp i cs.length with h | h
     ·exact h
     ·rw [en (by simp only [ja, lh]; exact h)] at hi; cases hi
    simp only [ic, jl wz, dq, an] at hi
    obtain ⟨u', a1, _⟩ := hex i _ (dr wz)
    simp only [Ab.cT] at hi ⊢
    rw [a1] at hi
    simp only [ji] at hi
    subst hi
    exact a1
   ·show ¬ (E.heap H1).U (some 0) (E.φ b) _
    refine Qo (E' := E.heap H1) hh (b := b) (by rw [hb]; trivial) e.mono ?_ _ (ga _) _
    exact ef.1 uy |>.1
  | sl b off n =>
   simp only [AV] at h
   split at h
   case h_2 => cases h
   rename_i sz cs hb
   split at h
   ·cases h
   rename_i hlen
   simp only [dn, Prod.exists, dk] at h
   obtain ⟨sk, H1, h1, rfl, rfl⟩ := h
   have hk := GJ.kill E b
   obtain ⟨e, r, p, l⟩ := ih _ (E.heap (E.H.set b .dead)) sk H1 h1 (hh.kill b)
   simp only [Ab.KS] at e r p
   refine ⟨hk.trans e, r, fun u hu => ?_⟩
   simp only [AA] at hu ⊢
   obtain ⟨_, ⟨cap, rfl, hc⟩, _⟩ := hu
   refine ⟨dz _, _, cap, rfl, hc, .inr ⟨E.φ b, off, rfl, ?_⟩⟩
   obtain ⟨cc, t, q1, q2, q3⟩ := hh.cells b sz cs hb
   have hex : ∀ (i : Nat) v, ((cs.drop off).take (n * sz))[i]? = some v → ∃ u, E.w.cell? ⟨E.φ b, off + i, none⟩ = some u ∧ AA (E.heap (E.H.set b .dead)) v u := by
    intro i v hi
    rw [gm] at hi
    split at hi
    ·rw [jd] at hi
     obtain ⟨u, k1, k2⟩ := q3 _ v hi
     exact ⟨u, by rw [cell_of_row _ _ _ _ _ _ q1]; exact k1, hk.rep hh _ _ k2⟩
    ·cases hi
   have wy := Da (E := E.heap (E.H.set b .dead)) hex
   refine Hw (p _ wy) (fun i u hi => ?_) (fun i hi => ?_)
   ·have wz : i < ((cs.drop off).take (n * sz)).length := by
     rcases fp i ((cs.drop off).take (n * sz)).length with h | h
     ·exact h
     ·rw [en (by simp only [ja, lh]; exact h)] at hi; cases hi
    simp only [ic, jl wz, dq, an] at hi
    obtain ⟨u', a1, _⟩ := hex i _ (dr wz)
    simp only [Ab.cT] at hi ⊢
    rw [a1] at hi
    simp only [ji] at hi
    subst hi
    exact a1
   ·show ¬ (E.heap H1).U (some 0) (E.φ b) _
    refine Qo (E' := E.heap H1) hh (b := b) (by rw [hb]; trivial) e.mono ?_ _ (ga _) _
    exact ef.1 q1 |>.1
  | agg cs =>
   simp only [AV, dn, Prod.exists, dk] at h
   obtain ⟨sk, H1, h1, rfl, rfl⟩ := h
   obtain ⟨e, r, p, l⟩ := ih cs E sk H1 h1 hh
   refine ⟨e, r, fun u hu => ?_⟩
   simp only [AA] at hu ⊢
   obtain ⟨vs, hv, hr⟩ := hu
   exact ⟨vs, hv, p _ hr⟩
theorem Je {f : A5 → V → Option (V × A5)} (hf : ∀ H v v' H', f H v = some (v', H') → H'.length = H.length ∧ ∀ (b sz : Nat) (cs : List V), H'[b]? = some (Bv.cells sz cs) → H[b]? = some (Bv.cells sz cs)) :
  ∀ (vs : List V) (H : A5) (so : List V) (H' : A5), AV.giveL f H vs = some (so, H') → H'.length = H.length ∧ ∀ (b sz : Nat) (cs : List V), H'[b]? = some (Bv.cells sz cs) → H[b]? = some (Bv.cells sz cs)
 | [], H, so, H', h => by
  simp only [AV.giveL, an, dk] at h
  obtain ⟨_, rfl⟩ := h
  exact ⟨rfl, fun _ _ _ h => h⟩
 | v :: vs, H, so, H', h => by
  simp only [AV.giveL, dj, dn, Prod.exists, dk] at h
  obtain ⟨v1, H1, h1, vs2, H2, h2, _, rfl⟩ := h
  obtain ⟨l1, c1⟩ := hf H v v1 H1 h1
  obtain ⟨l2, c2⟩ := Je hf vs H1 vs2 H2 h2
  exact ⟨l2.trans l1, fun b sz cs h => c1 b sz cs (c2 b sz cs h)⟩
theorem QX (H : A5) (b : Nat) : (H.set b .dead).length = H.length ∧ ∀ (x sz : Nat) (cs : List V), (H.set b .dead)[x]? = some (Bv.cells sz cs) → H[x]? = some (Bv.cells sz cs) := by
 refine ⟨by simp, fun x sz cs h => ?_⟩
 rw [AX] at h
 split at h
 ·cases h
 ·exact h
theorem LB (lo : Nat) : ∀ (k : Nat) (H : A5) (v v' : V) (H' : A5), AV lo k H v = some (v', H') → H'.length = H.length ∧ ∀ (b sz : Nat) (cs : List V), H'[b]? = some (Bv.cells sz cs) → H[b]? = some (Bv.cells sz cs)
 | 0, H, v, v', H', h => by simp [AV] at h
 | k + 1, H, v, v', H', h => by
  have same : (v', H') = (v, H) → H'.length = H.length ∧ ∀ (b sz : Nat) (cs : List V), H'[b]? = some (Bv.cells sz cs) → H[b]? = some (Bv.cells sz cs) := by
   intro e
   simp only [dk] at e
   obtain ⟨_, rfl⟩ := e
   exact ⟨rfl, fun _ _ _ h => h⟩
  have ih := Je fun (H : A5) (v v' : V) (H' : A5) (h : AV lo k H v = some (v', H')) => LB lo k H v v' H' h
  cases v with
  | int _ _ => simp only [AV, an] at h; exact same h.symm
  | bool _ => simp only [AV, an] at h; exact same h.symm
  | str _ => simp only [AV, an] at h; exact same h.symm
  | HV => simp only [AV, an] at h; exact same h.symm
  | EI => simp only [AV, an] at h; exact same h.symm
  | ptr _ _ => simp [AV] at h
  | Cm _ => simp [AV] at h
  | lp _ _ _ => simp [AV] at h
  | fn _ _ => simp [AV] at h
  | pre _ _ _ _ => simp [AV] at h
  | Ei _ => simp [AV] at h
  | lit lv n cs =>
   simp only [AV] at h
   split at h
   ·simp only [an] at h; exact same h.symm
   ·cases h
  | tl n cs =>
   simp only [AV, dn, Prod.exists, dk] at h
   obtain ⟨sk, H1, h1, _, rfl⟩ := h
   exact ih cs H sk H1 h1
  | snap b n cs =>
   simp only [AV] at h
   split at h
   case h_2 => cases h
   split at h
   ·cases h
   simp only [dn, Prod.exists, dk] at h
   obtain ⟨sk, H1, h1, _, rfl⟩ := h
   obtain ⟨l1, c1⟩ := ih cs _ sk H1 h1
   obtain ⟨l2, c2⟩ := QX H b
   exact ⟨l1.trans l2, fun x sz cs h => c2 x sz cs (c1 x sz cs h)⟩
  | sl b off n =>
   simp only [AV] at h
   split at h
   case h_2 => cases h
   split at h
   ·cases h
   simp only [dn, Prod.exists, dk] at h
   obtain ⟨sk, H1, h1, _, rfl⟩ := h
   obtain ⟨l1, c1⟩ := ih _ _ sk H1 h1
   obtain ⟨l2, c2⟩ := QX H b
   exact ⟨l1.trans l2, fun x sz cs h => c2 x sz cs (c1 x sz cs h)⟩
  | agg cs =>
   simp only [AV, dn, Prod.exists, dk] at h
   obtain ⟨sk, H1, h1, _, rfl⟩ := h
   exact ih cs H sk H1 h1
theorem Gx (lo k : Nat) (H : A5) (v v' : V) (H' : A5) (h : AV lo k H v = some (v', H')) : H'.length = H.length := (LB lo k H v v' H' h).1
theorem QH (lo k : Nat) (H : A5) (v v' : V) (H' : A5) (h : AV lo k H v = some (v', H')) (b sz : Nat) (cs : List V) (hb : H'[b]? = some (.cells sz cs)) : H[b]? = some (.cells sz cs) := (LB lo k H v v' H' h).2 b sz cs hb
theorem CR.up {E : Ab} {lv lv' g o : Nat} {cs : List V} (hl : lv ≤ lv') (h : CR E (some lv) g o cs) : CR E (some lv') g o cs :=
 G6 _ _ fun i v hi => let ⟨u, a1, a2, a3⟩ := CI _ _ h i v hi; ⟨u, a1, a2, fun hu => a3 (Ab.Sa hl hu)⟩
theorem CR.all {E : Ab} (hh : Ch E) {lv g o : Nat} {cs : List V} (hl : E.lk.length ≤ lv) (h : CR E none g o cs) : CR E (some lv) g o cs :=
 G6 _ _ fun i v hi => let ⟨u, a1, a2, a3⟩ := CI _ _ h i v hi; ⟨u, a1, a2, fun hu => a3 (hh.sub hl hu)⟩
def Ab.lock (E : Ab) (L : List Nat) : Ab := { E with lk := E.lk ++ [L], m := E.m + 1 }
@[simp] theorem Ab.FG (E : Ab) (L : List Nat) : (E.lock L).H = E.H := rfl
@[simp] theorem Ab.u3 (E : Ab) (L : List Nat) : (E.lock L).w = E.w := rfl
@[simp] theorem Ab.MU (E : Ab) (L : List Nat) : (E.lock L).φ = E.φ := rfl
@[simp] theorem Ab.TK (E : Ab) (L : List Nat) : (E.lock L).lk = E.lk ++ [L] := rfl
theorem Ch.lock {E : Ab} (h : Ch E) (L : List Nat) : Ch (E.lock L) where
 cells := fun b sz cs hb => let ⟨c, t, h1, h2, h3⟩ := h.cells b sz cs hb; ⟨c, t, h1, h2, fun i v hv => let ⟨u, h4, h5⟩ := h3 i v hv; ⟨u, h4, (Ca.Dv E L h.dm).rep v u h5⟩⟩
 Bt := h.Bt
 lvl := fun b l n sz hb => by have := h.lvl b l n sz hb; simp only [Ab.TK, dw, jm]; omega
 dm := by have := h.dm; simp only [Ab.TK, dw, jm]; show E.m + 1 ≤ _; omega
 inj := h.inj
 maps := h.maps
 Bl := h.Bl
theorem Ma {E : Ab} (hh : Ch E) {b sz : Nat} {cs : List V} (hb : E.H[b]? = some (.cells sz cs)) {L : List Nat} (hL : b ∈ L) (i : Nat) : ¬ (E.lock L).U (some (E.lk.length + 1)) (E.φ b) i := by
 intro hu
 have hu' := hu
 rcases hu' with hu' | ⟨b', h1, h2, h3⟩
 ·exact (hh.Bl _ hu').2 b (by rw [hb]; trivial) rfl
 rcases Sb hu with hu2 | ⟨b2, k1, k2⟩
 ·exact (hh.Bl _ hu2).2 b (by rw [hb]; trivial) rfl
 have e1 := hh.inj b2 b k2 (by rw [hb]; trivial) k1
 subst e1
 have hl : live E.H[b']? := by
  simp only [Ab.FG] at h3
  split at h3
  ·rename_i heq; rw [heq]; trivial
  ·rename_i heq; rw [heq]; trivial
  ·rename_i heq; rw [heq]; trivial
  ·exact h3.elim
 have := hh.inj b' b2 hl k2 h1
 subst this
 simp only [Ab.TK] at h2
 rw [jy (by simp)] at h2
 unfold AT at h2
 rw [gb] at h2
 have := h2 L (by simp)
 simp [hL] at this
theorem GG {E E' : Ab} {cs : List V} {g o : Nat} (hex : ∀ (i : Nat) v, cs[i]? = some v → ∃ u, E.w.cell? ⟨g, o + i, none⟩ = some u ∧ AA E v u) {sk : List V}
  (hp : ∀ us, AM E cs us → AM E' sk us) (hl : sk.length = cs.length) (hw : E'.w = E.w) {lv : Option Nat} (hu : ∀ i, i < cs.length → ¬ E'.U lv g (o + i)) : CR E' lv g o sk := by
 refine Hw (hp _ (Da hex)) (fun i u hi => ?_) (fun i hi => hu i (by omega))
 have wz : i < cs.length := by
  rcases fp i cs.length with h | h
  ·exact h
  ·rw [en (by simp only [ja, lh]; exact h)] at hi; cases hi
 simp only [ic, jl wz, dq, an] at hi
 obtain ⟨u', a1, _⟩ := hex i _ (dr wz)
 rw [a1] at hi
 simp only [ji] at hi
 subst hi
 rw [hw]
 exact a1
theorem Rw {E : Ab} {f : V → Option (V × List Nat)} {L : List Nat} (hf : ∀ v v' M, f v = some (v', M) → (∀ x ∈ M, x ∈ L) → ∀ u, AA E v u → AA (E.lock L) v' u) :
  ∀ (vs so : List V) (M : List Nat), Al.lendL f vs = some (so, M) → (∀ x ∈ M, x ∈ L) → (∀ us, AM E vs us → AM (E.lock L) so us) ∧ so.length = vs.length
 | [], so, M, h, _ => by
  simp only [Al.lendL, an, dk] at h
  obtain ⟨rfl, rfl⟩ := h
  exact ⟨fun us hu => by simpa only [AM] using hu, rfl⟩
 | v :: vs, so, M, h, hM => by
  simp only [Al.lendL, dj, dn, Prod.exists, dk] at h
  obtain ⟨v1, M1, h1, vs2, M2, h2, rfl, rfl⟩ := h
  obtain ⟨p, l⟩ := Rw hf vs vs2 M2 h2 (fun x hx => hM x (by simp [hx]))
  refine ⟨fun us hu => ?_, by simp [l]⟩
  simp only [AM] at hu ⊢
  obtain ⟨u, tn, rfl, hu1, hu2⟩ := hu
  exact ⟨u, tn, rfl, hf v v1 M1 h1 (fun x hx => hM x (by simp [hx])) u hu1, p tn hu2⟩
theorem LI {E : Ab} (hm : E.lk.length = E.m) (hh : Ch E) {L : List Nat} : ∀ (k : Nat) (v v' : V) (M : List Nat), Al (E.lk.length + 1) E.H k v = some (v', M) → (∀ x ∈ M, x ∈ L) → ∀ u, AA E v u → AA (E.lock L) v' u
 | 0, v, v', M, h, _ => by simp [Al] at h
 | k + 1, v, v', M, h, hM => by
  intro u hu
  have hup : AA (E.lock L) v u := (Ca.Dv E L hh.dm).rep v u hu
  have ih := Rw (E := E) (L := L) (f := Al (E.lk.length + 1) E.H k) fun v v' M h hM => LI hm hh k v v' M h hM
  cases v with
  | int _ _ => simp only [Al, an, dk] at h; obtain ⟨rfl, rfl⟩ := h; exact hup
  | bool _ => simp only [Al, an, dk] at h; obtain ⟨rfl, rfl⟩ := h; exact hup
  | str _ => simp only [Al, an, dk] at h; obtain ⟨rfl, rfl⟩ := h; exact hup
  | HV => simp only [Al, an, dk] at h; obtain ⟨rfl, rfl⟩ := h; exact hup
  | EI => simp only [Al, an, dk] at h; obtain ⟨rfl, rfl⟩ := h; exact hup
  | ptr _ _ => simp only [Al, an, dk] at h; obtain ⟨rfl, rfl⟩ := h; exact hup
  | Cm _ => simp only [Al, an, dk] at h; obtain ⟨rfl, rfl⟩ := h; exact hup
  | lp _ _ _ => simp only [Al, an, dk] at h; obtain ⟨rfl, rfl⟩ := h; exact hup
  | lit _ _ _ => simp only [Al, an, dk] at h; obtain ⟨rfl, rfl⟩ := h; exact hup
  | fn _ _ => simp only [Al, an, dk] at h; obtain ⟨rfl, rfl⟩ := h; exact hup
  | Ei _ => simp [Al] at h
  | tl n cs =>
   simp only [Al, dn, Prod.exists, dk] at h
   obtain ⟨sk, M1, h1, rfl, rfl⟩ := h
   obtain ⟨p, l⟩ := ih cs sk M1 h1 hM
   simp only [AA] at hu ⊢
   obtain ⟨A, rfl, hA⟩ := hu
   refine ⟨by show _ ≤ E.m + 1; omega, A, n, rfl, dz _, ?_⟩
   rcases hA with hA | ⟨g, o, hA, hr⟩
   ·exact .inl hA
   ·refine .inr ⟨g, o, hA, CR.up (ga _) <| GG (fun i v hi => let ⟨u, a1, a2, _⟩ := CI _ _ hr i v hi; ⟨u, a1, a2⟩) p l rfl fun i hi => ?_⟩
    obtain ⟨u', a1, _, a3⟩ := CI _ _ hr i _ (dr hi)
    exact ((Ca.Dv E L hh.dm).cell (some 0) g (o + i) u' (ga _) (fun e => by cases e) a1 a3).2
  | snap b n cs =>
   simp only [Al, dn, Prod.exists, dk] at h
   obtain ⟨sk, M1, h1, rfl, rfl⟩ := h
   obtain ⟨p, l⟩ := ih cs sk M1 h1 hM
   simp only [AA] at hu ⊢
   obtain ⟨_, ⟨A, cap, rfl, hc, ⟨g, o, hA, haw, hr⟩, _⟩, _⟩ := hu
   refine ⟨by show _ ≤ E.m + 1; omega, A, cap, rfl, hc, .inr ⟨g, o, hA, CR.all (hh.lock L) (by simp) (GG (fun i v hi => let ⟨u, a1, a2, _⟩ := CI _ _ hr i v hi; ⟨u, a1, a2⟩) p l rfl fun i hi => ?_)⟩⟩
   obtain ⟨u', a1, _, a3⟩ := CI _ _ hr i _ (dr hi)
   exact ((Ca.Dv E L hh.dm).cell none g (o + i) u' trivial (fun _ => haw (by omega)) a1 a3).2
  | pre b m0 n cs =>
   simp only [Al, dn, Prod.exists, dk] at h
   obtain ⟨sk, M1, h1, rfl, rfl⟩ := h
   obtain ⟨p, l⟩ := ih cs sk M1 h1 hM
   simp only [AA] at hu ⊢
   obtain ⟨_, ⟨A, cap, rfl, hc, ⟨g, o, hA, haw, hr⟩, _⟩, _⟩ := hu
   refine ⟨by show _ ≤ E.m + 1; omega, A, cap, rfl, hc, .inr ⟨g, o, hA, CR.all (hh.lock L) (by simp) (GG (fun i v hi => let ⟨u, a1, a2, _⟩ := CI _ _ hr i v hi; ⟨u, a1, a2⟩) p l rfl fun i hi => ?_)⟩⟩
   obtain ⟨u', a1, _, a3⟩ := CI _ _ hr i _ (dr hi)
   exact ((Ca.Dv E L hh.dm).cell none g (o + i) u' trivial (fun _ => haw (by omega)) a1 a3).2
  | sl b off n =>
   simp only [Al] at h
   split at h
   case h_2 => cases h
   rename_i sz cs hb
   split at h
   ·cases h
   simp only [dn, Prod.exists, dk] at h
   obtain ⟨sk, M1, h1, rfl, rfl⟩ := h
   obtain ⟨p, l⟩ := ih _ sk M1 h1 (fun x hx => hM x (by simp [hx]))
   simp only [AA] at hu ⊢
   obtain ⟨_, ⟨cap, rfl, hc⟩, _⟩ := hu
   refine ⟨by show _ ≤ E.m + 1; omega, _, cap, rfl, hc, .inr ⟨E.φ b, off, rfl, ?_⟩⟩
   obtain ⟨cc, t, q1, q2, q3⟩ := hh.cells b sz cs hb
   refine GG (fun i v hi => ?_) p l rfl fun i hi => Ma hh hb (hM b (by simp)) _
   rw [gm] at hi
   split at hi
   ·rw [jd] at hi
    obtain ⟨u, k1, k2⟩ := q3 _ v hi
    exact ⟨u, by rw [cell_of_row _ _ _ _ _ _ q1]; exact k1, k2⟩
   ·cases hi
  | agg cs =>
   simp only [Al, dn, Prod.exists, dk] at h
   obtain ⟨sk, M1, h1, rfl, rfl⟩ := h
   obtain ⟨p, l⟩ := ih cs sk M1 h1 hM
   simp only [AA] at hu ⊢
   obtain ⟨vs, hv, hr⟩ := hu
   exact ⟨vs, hv, p _ hr⟩
theorem SA {E : Ab} : ∀ (v : V) (u : eu), AA E v u → AA E (V1 v) u
 | .snap b n cs, u, h => by
  simp only [V1, AA] at h ⊢
  obtain ⟨hb, ⟨A, cap, h1, h2, h3, h5⟩, h6⟩ := h
  refine ⟨hb, ⟨A, cap, h1, h2, h3, fun l m sz hm => ⟨(h5 l m sz hm).1, fun e => ?_⟩⟩, h6⟩
  obtain ⟨q1, c, t, q2, _⟩ := (h5 l m sz hm).2 e
  exact ⟨q1, c, t, q2⟩
 | .int .., _, h | .bool _, _, h | .str _, _, h | .HV, _, h | .EI, _, h | .ptr .., _, h | .lp .., _, h | .tl .., _, h | .pre .., _, h | .sl .., _, h | .fn .., _, h | .lit .., _, h | .agg _, _, h | .Ei _, _, h | .Cm _, _, h => h
theorem Qw {E : Ab} : ∀ (cs : List V) (us : List eu), AM E cs us → AM E (cs.map V1) us
 | [], us, h => h
 | c :: cs, us, h => by
  simp only [gq, AM] at h ⊢
  obtain ⟨u, tn, rfl, h1, h2⟩ := h
  exact ⟨u, tn, rfl, SA c u h1, Qw cs tn h2⟩
theorem Yl {E : Ab} (v : V) (u : eu) (h : AA E v u) : AA E (dY v) u := by
 cases v with
 | agg cs =>
  simp only [dY, AA] at h ⊢
  obtain ⟨vs, h1, h2⟩ := h
  exact ⟨vs, h1, Qw _ _ h2⟩
 | _ => exact SA _ _ h
theorem Du {lo k : Nat} {H : A5} : ∀ (vs : List V), clean.cleanL 1 vs = true → vs.all V.Bm = true → AV.giveL (AV lo (k + 1)) H vs = some (vs, H)
 | [], _, _ => rfl
 | v :: vs, hh, hc => by
  simp only [clean.cleanL, ec] at hh
  simp only [jr, ec] at hc
  have : AV lo (k + 1) H v = some (v, H) := by
   cases v with
   | lit lv n cs => simp only [AV]; rw [ru hh.1]
   | int _ _ => rfl
   | bool _ => rfl
   | str _ => rfl
   | HV => rfl
   | EI => rfl
   | agg cs => cases hc.1
   | Ei cs => cases hc.1
   | _ => simp [clean] at hh
  simp only [AV.giveL, this, Option.bind_some, Du vs hh.2 hc.2, dq]
theorem Nm {E : Ab} : ∀ {xs ys : List V} {us : List eu}, AM E (xs ++ ys) us → ∃ us1 us2, us = us1 ++ us2 ∧ AM E xs us1 ∧ AM E ys us2
 | [], ys, us, h => ⟨[], us, rfl, by simp only [AM], h⟩
 | x :: xs, ys, us, h => by
  simp only [ie, AM] at h
  obtain ⟨u, tn, rfl, h1, h2⟩ := h
  obtain ⟨a, b, rfl, k1, k2⟩ := Nm h2
  exact ⟨u :: a, b, rfl, by simp only [AM]; exact ⟨u, a, rfl, h1, k1⟩, k2⟩
theorem S5 {E E' : Ab} : ∀ {xs : List V} {us : List eu}, xs.all QT = true → AM E xs us → AM E' xs us
 | [], us, _, h => by simpa only [AM] using h
 | x :: xs, us, hn, h => by
  rw [jr, ec] at hn
  simp only [AM] at h ⊢
  obtain ⟨u, tn, rfl, h1, h2⟩ := h
  refine ⟨u, tn, rfl, ?_, S5 hn.2 h2⟩
  have h0 := hn.1
  unfold QT at h0
  split at h0
  ·simp only [AA] at h1 ⊢
   obtain ⟨A, e, _⟩ := h1
   exact ⟨A, e, .inl trivial⟩
  ·cases h0
theorem J5 {E : Ab} {x : V} {u : eu} (h : AA E x u) (ht : ∀ vs, x ≠ .Ei vs) : AM E x.cellsOf u.cells.toList := by
 cases x with
 | agg cs => simp only [AA] at h; obtain ⟨vs, rfl, hr⟩ := h; exact hr
 | Ei vs => exact absurd rfl (ht vs)
 | _ =>
  have h' := h
  simp only [V.cellsOf, AM]
  refine ⟨u, [], ?_, h, rfl⟩
  simp only [AA] at h'
  first
   | (subst h'; rfl)
   | (rcases h' with h' | h' <;> (subst h'; rfl))
   | (obtain ⟨_, h1, _⟩ := h'; subst h1; rfl)
   | (obtain ⟨_, ⟨_, h1, _⟩, _⟩ := h'; subst h1; rfl)
   | (obtain ⟨_, _, _, h1, _⟩ := h'; subst h1; rfl)
   | (obtain ⟨_, ⟨_, _, h1, _⟩, _⟩ := h'; subst h1; rfl)
theorem No {E : Ab} {x : V} {u : eu} (h : AA E x u) (hc : x.Bm = true) : u.oneCell' = true := by
 cases x with
 | agg cs => simp [V.Bm] at hc
 | Ei vs => simp [V.Bm] at hc
 | _ =>
  have h' := h
  simp only [AA] at h'
  first
   | (subst h'; rfl)
   | (rcases h' with h' | h' <;> (subst h'; rfl))
   | (obtain ⟨_, h1, _⟩ := h'; subst h1; rfl)
   | (obtain ⟨_, ⟨_, h1, _⟩, _⟩ := h'; subst h1; rfl)
   | (obtain ⟨_, _, _, h1, _⟩ := h'; subst h1; rfl)
   | (obtain ⟨_, ⟨_, _, h1, _⟩, _⟩ := h'; subst h1; rfl)
structure Ft (E E' : Ab) (c : Array eu) (t : ea) (Au : Bv) : Prop where
 heap : E'.w.heap = E.w.heap.push (.cells c t (0, 0))
 os : E'.w.os = E.w.os
 tape : E'.w.tape = E.w.tape
 output : E'.w.output = E.w.output
 Ce : ∀ b, E'.φ b = if b = E.H.length then E.w.heap.size else E.φ b
 H : E'.H = E.H ++ [Au]
 lk : E'.lk = E.lk
 n : E'.n = E.n + 1
 m : E'.m = E.m
 Bl : E'.Bl = E.Bl
 n0 : E.n = E.H.length
theorem Ft.Bu {E E' : Ab} {c : Array eu} {t : ea} {Au : Bv} (h : Ft E E' c t Au) (b : Nat) : E'.H[b]? = if b = E.H.length then some Au else E.H[b]? := by
 rw [h.H]
 by_cases hb : b = E.H.length
 ·subst hb; simp
 ·rw [rr hb]
  rcases fp b E.H.length with hl | hl
  ·rw [eh hl]
  ·rw [en (by simp; omega), en hl]
theorem Ft.Cr {E E' : Ab} {c : Array eu} {t : ea} {Au : Bv} (h : Ft E E' c t Au) (g : Nat) : E'.w.heap[g]? = if g = E.w.heap.size then some (.cells c t (0, 0)) else E.w.heap[g]? := by
 rw [h.heap, lb]
theorem Ft.Cz {E E' : Ab} {c : Array eu} {t : ea} {Au : Bv} (h : Ft E E' c t Au) : GJ E E' where
 lk := h.lk
 os := h.os
 tape := h.tape
 output := h.output
 size := by rw [h.heap]; simp
 len := by rw [h.n]; omega
 mm := h.m
 cell := by
  intro g i u hc _
  have hg := HO hc
  simp only [World.cell?, h.Cr g] at hc ⊢
  rw [rr (by simp at hg; omega)]
  exact hc
 block := by
  intro g hg _
  rw [h.Cr g, rr (by omega)]
 mono := by
  intro lv g i _ hu
  rcases hu with hu | hu
  ·exact .inl (.inl (by rw [h.Bl] at hu; exact hu))
  cases lv with
  | some lv =>
   obtain ⟨b, h1, h2, h3⟩ := hu
   rw [h.lk] at h2
   rw [h.Bu b] at h3
   rw [h.Ce b] at h1
   by_cases hb : b = E.H.length
   ·rw [ru hb] at h1; right; omega
   ·rw [rr hb] at h1 h3
    exact .inl (.inr ⟨b, h1, h2, h3⟩)
  | none =>
   obtain ⟨b, h1, h3⟩ := hu
   rw [h.Bu b] at h3
   rw [h.Ce b] at h1
   by_cases hb : b = E.H.length
   ·rw [ru hb] at h1; right; omega
   ·rw [rr hb] at h1 h3
    exact .inl (.inr ⟨b, h1, h3⟩)
 Ce := by
  intro b hb hn
  have : b ≠ E.H.length := by have := h.n0; omega
  refine ⟨by rw [h.Ce b, rr this], fun l n sz => ?_⟩
  rw [h.Bu b, rr this]
  exact hn l n sz
 cells := by
  intro b hb hn sz cs
  have : b ≠ E.H.length := by have := h.n0; omega
  rw [h.Bu b, rr this]
  exact hn sz cs
 Bt := by
  intro b l n' wg hb hB
  have sq : b ≠ E.H.length := by have := h.n0; omega
  rw [h.Bu b, rr sq] at hB
  refine ⟨n', hB, dz _, fun _ => ⟨by rw [h.Ce b, rr sq], fun c' t' hc => ⟨c', ?_, rfl⟩⟩⟩
  rw [h.Cr]
  split
  ·rename_i he
   have := ef.1 hc |>.1
   omega
  ·exact hc
 fresh := by
  intro b hl
  rw [h.Bu b] at hl
  rw [h.Ce b]
  by_cases hb : b = E.H.length
  ·rw [ru hb]; exact .inr (dz _)
  ·rw [rr hb] at hl ⊢; exact .inl ⟨rfl, hl⟩
 Bl := fun g hg => by rw [h.Bl]; exact hg
 Ix := fun g hg => .inl (by rw [h.Bl] at hg; exact hg)
 I8 := fun g _ hl => by rw [h.Cr g, rr (by omega)]
theorem Ft.rel {E E' : Ab} {c : Array eu} {t : ea} {Au : Bv} (h : Ft E E' c t Au) (hh : Ch E)
  (hc : ∀ sz cs, Au = .cells sz cs → cs.length ≤ c.size ∧ ∀ (i : Nat) v, cs[i]? = some v → ∃ u, c[i]? = some u ∧ AA E v u) (hb : ∀ l n sz, Au = .Bt l n sz → n * sz ≤ c.size ∧ l ≤ E.lk.length) (hm : ∀ BC, Au ≠ .mp BC := by intro _ e; cases e) : Ch E' where
 cells := by
  intro b sz cs hB
  rw [h.Bu b] at hB
  rw [h.Ce b]
  split at hB
  ·rename_i he
   rw [ru he, h.Cr, ru rfl]
   simp only [an] at hB
   obtain ⟨h1, h2⟩ := hc sz cs hB
   exact ⟨c, t, rfl, h1, fun i v hv => let ⟨u, h3, h4⟩ := h2 i v hv; ⟨u, h3, h.Cz.rep hh v u h4⟩⟩
  ·rename_i he
   obtain ⟨c', t', h1, h2, h3⟩ := hh.cells b sz cs hB
   rw [rr he, h.Cr, rr (by have := ef.1 h1 |>.1; omega)]
   exact ⟨c', t', h1, h2, fun i v hv => let ⟨u, h4, h5⟩ := h3 i v hv; ⟨u, h4, h.Cz.rep hh v u h5⟩⟩
 dm := by rw [h.m, h.lk]; exact hh.dm
 lvl := by
  intro b l n sz hB
  rw [h.Bu b] at hB
  rw [h.lk]
  split at hB
  ·simp only [an] at hB
   exact (hb l n sz hB).2
  ·exact hh.lvl b l n sz hB
 Bt := by
  intro b l n sz hB
  rw [h.Bu b] at hB
  rw [h.Ce b]
  split at hB
  ·rename_i he
   rw [ru he, h.Cr, ru rfl]
   simp only [an] at hB
   exact ⟨c, t, rfl, (hb l n sz hB).1⟩
  ·rename_i he
   obtain ⟨c', t', h1, h2⟩ := hh.Bt b l n sz hB
   rw [rr he, h.Cr, rr (by have := ef.1 h1 |>.1; omega)]
   exact ⟨c', t', h1, h2⟩
 maps := by
  intro b BC hB
  rw [h.Bu b] at hB
  rw [h.Ce b]
  split at hB
  ·simp only [an] at hB
   exact absurd hB (hm BC)
  ·rename_i he
   obtain ⟨h1, h2⟩ := hh.maps b BC hB
   rw [rr he, h.Cr, rr (by have := ef.1 h1 |>.1; omega)]
   exact ⟨h1, h2⟩
 inj := by
  have sd : ∀ b, live E.H[b]? → E.φ b < E.w.heap.size := by
   intro b hl
   cases hB : E.H[b]? with
   | none => rw [hB] at hl; exact hl.elim
   | some x =>
    cases x with
    | cells sz cs => obtain ⟨_, _, h1, _⟩ := hh.cells b sz cs hB; exact ef.1 h1 |>.1
    | Bt l n sz => obtain ⟨_, _, h1, _⟩ := hh.Bt b l n sz hB; exact ef.1 h1 |>.1
    | mp BC => exact ef.1 (hh.maps b BC hB).1 |>.1
    | dead => rw [hB] at hl; exact hl.elim
  intro b b' h1 h2 he
  rw [h.Bu] at h1 h2
  rw [h.Ce, h.Ce] at he
  by_cases hb : b = E.H.length <;> by_cases tp : b' = E.H.length
  ·omega
  ·rw [ru hb, rr tp] at he
   rw [rr tp] at h2
   have := sd b' h2
   omega
  ·rw [rr hb, ru tp] at he
   rw [rr hb] at h1
   have := sd b h1
   omega
  ·rw [rr hb, rr tp] at he
   rw [rr hb] at h1
   rw [rr tp] at h2
   exact hh.inj b b' h1 h2 he
 Bl := fun g hg => by
  rw [h.Bl] at hg
  obtain ⟨h1, h2⟩ := hh.Bl g hg
  refine ⟨by rw [h.heap, mz]; omega, fun b hl => ?_⟩
  rw [h.Bu] at hl
  rw [h.Ce]
  by_cases hb : b = E.H.length
  ·rw [ru hb]; omega
  ·rw [rr hb] at hl ⊢; exact h2 b hl
theorem FO {E : Ab} (hh : Ch E) {b : Nat} (hl : live E.H[b]?) : E.φ b < E.w.heap.size := by
 cases hB : E.H[b]? with
 | none => rw [hB] at hl; exact hl.elim
 | some x =>
  cases x with
  | cells sz cs => obtain ⟨_, _, h1, _⟩ := hh.cells b sz cs hB; exact ef.1 h1 |>.1
  | Bt l n sz => obtain ⟨_, _, h1, _⟩ := hh.Bt b l n sz hB; exact ef.1 h1 |>.1
  | mp BC => exact ef.1 (hh.maps b BC hB).1 |>.1
  | dead => rw [hB] at hl; exact hl.elim
def Dc (E : Ab) (base nb d : Nat) : Prop :=
 ∀ b sz cs, b < base → E.H[b]? = some (.cells sz cs) → ∀ c t, E.w.heap[E.φ b]? = some (.cells c t (0, 0)) → ∀ (i : Nat) v u, cs[i]? = some v → c[i]? = some u → AA (E.shrink nb d) v u
theorem Dc.up {E : Ab} {base nb nb' d : Nat} (h : Dc E base nb d) (hn : nb ≤ nb') : Dc E base nb' d :=
 fun b sz cs h1 h2 c t h3 i v u h4 h5 => (Ca.grow (E.shrink nb' d) hn (dz _)).rep v u (h b sz cs h1 h2 c t h3 i v u h4 h5)
theorem Ft.DN {E E' : Ab} {c : Array eu} {t : ea} {Au : Bv} (h : Ft E E' c t Au) {base nb d : Nat} (hb : base ≤ E.n) (va : nb ≤ E.n) (hd : d ≤ E.m) (hf : Dc E base nb d) (hh : Ch E) : Dc E' base nb d := by
 intro b sz cs sd hB c' t' hc i v u hv hu
 have sq : b ≠ E.H.length := by have := h.n0; omega
 rw [h.Bu, rr sq] at hB
 rw [h.Ce, rr sq, h.Cr] at hc
 split at hc
 ·rename_i he
  have := FO hh (b := b) (by rw [hB]; trivial)
  omega
 ·exact (h.Cz.shrink hh va hd).rep v u (hf b sz cs sd hB c' t' hc i v u hv hu)
structure IC (E E' : Ab) (b : Nat) (c c' : Array eu) (t : ea) (Au : Bv) : Prop where
 w : E'.w = E.w.setRow (E.φ b) c'
 row : E.w.heap[E.φ b]? = some (.cells c t (0, 0))
 size : c'.size = c.size
 Ce : E'.φ = E.φ
 H : E'.H = E.H.set b Au
 lk : E'.lk = E.lk
 n : E'.n = E.n
 m : E'.m = E.m
 Bl : E'.Bl = E.Bl
 n0 : E.n = E.H.length
 free : AT E.lk b = true
 Nh : E.φ b ∉ E.Bl
 kind : (∃ sz cs sk, E.H[b]? = some (.cells sz cs) ∧ Au = .cells sz sk) ∨ (∃ l n n' sz, E.H[b]? = some (.Bt l n sz) ∧ Au = .Bt l n' sz ∧ n < n' ∧ ∀ i, i < n * sz → c'[i]? = c[i]?)
theorem IC.lt {E E' : Ab} {b : Nat} {c c' : Array eu} {t : ea} {Au : Bv} (h : IC E E' b c c' t Au) : b < E.H.length := by
 rcases fp b E.H.length with hl | hl
 ·exact hl
 ·rcases h.kind with ⟨_, _, _, hb, _⟩ | ⟨_, _, _, _, hb, _⟩ <;> (rw [en hl] at hb; cases hb)
theorem IC.Bu {E E' : Ab} {b : Nat} {c c' : Array eu} {t : ea} {Au : Bv} (h : IC E E' b c c' t Au) (x : Nat) : E'.H[x]? = if b = x then some Au else E.H[x]? := by
 rw [h.H, AX]
 simp [h.lt]
theorem IC.Cr {E E' : Ab} {b : Nat} {c c' : Array eu} {t : ea} {Au : Bv} (h : IC E E' b c c' t Au) (g : Nat) : E'.w.heap[g]? = if g = E.φ b then some (.cells c' t (0, 0)) else E.w.heap[g]? := by
 rw [h.w]
 by_cases hg : g = E.φ b
 ·subst hg; rw [ru rfl]; exact setRow_heap _ _ _ _ _ _ h.row
 ·rw [rr hg]; exact setRow_other _ _ _ _ hg
theorem IC.Cz {E E' : Ab} {b : Nat} {c c' : Array eu} {t : ea} {Au : Bv} (h : IC E E' b c c' t Au) : GJ E E' where
 lk := h.lk
 os := by rw [h.w]; rfl
 tape := by rw [h.w]; rfl
 output := by rw [h.w]; rfl
 size := by rw [h.w]; simp
 len := by rw [h.n]; exact dz _
 mm := h.m
 cell := by
  intro g i u hc hu
  simp only [World.cell?, h.Cr g] at hc ⊢
  by_cases hg : g = E.φ b
  ·subst hg
   rw [ru rfl]
   rw [h.row] at hc
   simp only [Option.isSome_none, ei, if_false] at hc ⊢
   rcases h.kind with ⟨sz, cs, sk, hb, _⟩ | ⟨l, n, n', sz, hb, _, _, hk⟩
   ·refine absurd (.inr ⟨b, rfl, Fi _ h.free, ?_⟩) hu
    rw [hb]; trivial
   ·rcases fp i (n * sz) with hi | hi
    ·rw [hk i hi]; exact hc
    ·refine absurd (.inr ⟨b, rfl, Fi _ h.free, ?_⟩) hu
     rw [hb]; exact .inr hi
  ·rw [rr hg]; exact hc
 block := by
  intro g hg hu
  rw [h.Cr g]
  split
  ·rename_i he
   subst he
   rcases h.kind with ⟨sz, cs, sk, hb, _⟩ | ⟨l, n, n', sz, hb, _, _, hk⟩
   ·refine absurd (.inr ⟨b, rfl, Fi _ h.free, ?_⟩) (hu 0)
    rw [hb]; trivial
   ·refine absurd (.inr ⟨b, rfl, Fi _ h.free, ?_⟩) (hu (n * sz))
    rw [hb]; exact .inr (dz _)
  ·rfl
 mono := by
  intro lv g i _ hu
  rcases hu with hu | hu
  ·exact .inl (.inl (by rw [h.Bl] at hu; exact hu))
  cases lv with
  | some lv =>
   obtain ⟨x, h1, h2, h3⟩ := hu
   rw [h.lk] at h2
   rw [h.Ce] at h1
   rw [h.Bu x] at h3
   refine .inl (.inr ⟨x, h1, h2, ?_⟩)
   by_cases hb : b = x
   ·subst hb
    rw [ru rfl] at h3
    rcases h.kind with ⟨sz, cs, sk, hb, rfl⟩ | ⟨l, n, n', sz, hb, rfl, hn, hk⟩
    ·rw [hb]; trivial
    ·rw [hb]
     rcases h3 with h3 | h3
     ·exact .inl h3
     ·exact .inr (fg (jz _ (kf hn)) h3)
   ·rw [rr hb] at h3; exact h3
  | none =>
   obtain ⟨x, h1, h3⟩ := hu
   rw [h.Ce] at h1
   rw [h.Bu x] at h3
   refine .inl (.inr ⟨x, h1, ?_⟩)
   by_cases hb : b = x
   ·subst hb
    rw [ru rfl] at h3
    rcases h.kind with ⟨sz, cs, sk, hb, rfl⟩ | ⟨l, n, n', sz, hb, rfl, hn, hk⟩
    ·rw [hb]; trivial
    ·rw [hb]
     exact fg (jz _ (kf hn)) h3
   ·rw [rr hb] at h3; exact h3
 Ce := by
  intro x hx hn
  refine ⟨by rw [h.Ce], fun l n sz => ?_⟩
  rw [h.Bu x]
  split
  ·rename_i hb
   subst hb
   rcases h.kind with ⟨sz, cs, sk, hb, rfl⟩ | ⟨l, n, n', sz, hb, rfl, _, hk⟩
   ·simp
   ·exact absurd hb (hn _ _ _)
  ·exact hn l n sz
 cells := by
  intro x hx hn sz cs
  rw [h.Bu x]
  split
  ·rename_i hb
   subst hb
   rcases h.kind with ⟨sz, cs, sk, hb, rfl⟩ | ⟨l, n, n', sz, hb, rfl, _, hk⟩
   ·exact absurd hb (hn _ _)
   ·simp
  ·exact hn sz cs
 Bt := by
  intro x l n' wg hx hB
  rw [h.Bu x] at hB
  by_cases hb : b = x
  ·subst hb
   rw [ru rfl] at hB
   simp only [an] at hB
   rcases h.kind with ⟨sz, cs, sk, hb, rfl⟩ | ⟨l, n, n2, sz, hb, rfl, hn, hk⟩
   ·cases hB
   ·simp only [Bv.Bt.injEq] at hB
    obtain ⟨rfl, rfl, rfl⟩ := hB
    exact ⟨n, hb, kf hn, fun e => absurd e (rh hn)⟩
  ·rw [rr hb] at hB
   refine ⟨n', hB, dz _, fun _ => ⟨by rw [h.Ce], fun c2 t2 hc => ?_⟩⟩
   rw [h.Cr]
   split
   ·rename_i he
    rw [he, h.row] at hc
    simp only [an, Obj.cells.injEq] at hc
    obtain ⟨rfl, rfl, _⟩ := hc
    exact ⟨c', rfl, h.size⟩
   ·exact ⟨c2, hc, rfl⟩
 fresh := by
  intro x hl
  rw [h.Bu x] at hl
  rw [h.Ce]
  refine .inl ⟨rfl, ?_⟩
  by_cases hb : b = x
  ·subst hb
   rcases h.kind with ⟨_, _, _, hb, _⟩ | ⟨_, _, _, _, hb, _⟩ <;> (rw [hb]; trivial)
  ·rw [rr hb] at hl; exact hl
 Bl := fun g hg => by rw [h.Bl]; exact hg
 Ix := fun g hg => .inl (by rw [h.Bl] at hg; exact hg)
 I8 := fun g hg _ => by rw [h.Cr g, rr (fun e => h.Nh (by rw [← e]; exact hg))]
theorem IC.rel {E E' : Ab} {b : Nat} {c c' : Array eu} {t : ea} {Au : Bv} (h : IC E E' b c c' t Au) (hh : Ch E)
  (hc : ∀ sz cs, Au = .cells sz cs → cs.length ≤ c'.size ∧ ∀ (i : Nat) v, cs[i]? = some v → ∃ u, c'[i]? = some u ∧ AA E v u) (hb : ∀ l n sz, Au = .Bt l n sz → n * sz ≤ c'.size) : Ch E' where
 cells := by
  intro x sz cs hB
  rw [h.Bu x] at hB
  rw [h.Ce]
  by_cases hx : b = x
  ·subst hx
   rw [ru rfl] at hB
   simp only [an] at hB
   obtain ⟨h1, h2⟩ := hc sz cs hB
   rw [h.Cr, ru rfl]
   exact ⟨c', t, rfl, h1, fun i v hv => let ⟨u, h3, h4⟩ := h2 i v hv; ⟨u, h3, h.Cz.rep hh v u h4⟩⟩
  ·rw [rr hx] at hB
   obtain ⟨c2, t2, h1, h2, h3⟩ := hh.cells x sz cs hB
   have sq : E.φ x ≠ E.φ b := fun e => hx (hh.inj b x (by rcases h.kind with ⟨_, _, _, hb, _⟩ | ⟨_, _, _, _, hb, _⟩ <;> (rw [hb]; trivial)) (by rw [hB]; trivial) e.symm)
   rw [h.Cr, rr sq]
   exact ⟨c2, t2, h1, h2, fun i v hv => let ⟨u, h4, h5⟩ := h3 i v hv; ⟨u, h4, h.Cz.rep hh v u h5⟩⟩
 dm := by rw [h.m, h.lk]; exact hh.dm
 lvl := by
  intro x l n sz hB
  rw [h.Bu x] at hB
  rw [h.lk]
  by_cases hx : b = x
  ·subst hx
   rw [ru rfl] at hB
   simp only [an] at hB
   rcases h.kind with ⟨sz, cs, sk, hk, rfl⟩ | ⟨l, n, n2, sz, hk, rfl, hn, _⟩
   ·cases hB
   ·simp only [Bv.Bt.injEq] at hB
    obtain ⟨rfl, rfl, rfl⟩ := hB
    exact hh.lvl _ _ _ _ hk
  ·rw [rr hx] at hB
   exact hh.lvl x l n sz hB
 Bt := by
  intro x l n sz hB
  rw [h.Bu x] at hB
  rw [h.Ce]
  by_cases hx : b = x
  ·subst hx
   rw [ru rfl] at hB
   simp only [an] at hB
   rw [h.Cr, ru rfl]
   exact ⟨c', t, rfl, hb l n sz hB⟩
  ·rw [rr hx] at hB
   obtain ⟨c2, t2, h1, h2⟩ := hh.Bt x l n sz hB
   have sq : E.φ x ≠ E.φ b := fun e => hx (hh.inj b x (by rcases h.kind with ⟨_, _, _, hb, _⟩ | ⟨_, _, _, _, hb, _⟩ <;> (rw [hb]; trivial)) (by rw [hB]; trivial) e.symm)
   rw [h.Cr, rr sq]
   exact ⟨c2, t2, h1, h2⟩
 maps := by
  intro x BC hB
  rw [h.Bu x] at hB
  rw [h.Ce]
  by_cases hx : b = x
  ·subst hx
   rw [ru rfl] at hB
   simp only [an] at hB
   rcases h.kind with ⟨sz, cs, sk, hk, rfl⟩ | ⟨l, n, n2, sz, hk, rfl, hn, _⟩
   ·cases hB
   ·cases hB
  ·rw [rr hx] at hB
   obtain ⟨h1, h2⟩ := hh.maps x BC hB
   have sq : E.φ x ≠ E.φ b := fun e => hx (hh.inj b x (by rcases h.kind with ⟨_, _, _, hb, _⟩ | ⟨_, _, _, _, hb, _⟩ <;> (rw [hb]; trivial)) (by rw [hB]; trivial) e.symm)
   rw [h.Cr, rr sq]
   exact ⟨h1, h2⟩
 inj := by
  have hl : live E.H[b]? := by rcases h.kind with ⟨_, _, _, hb, _⟩ | ⟨_, _, _, _, hb, _⟩ <;> (rw [hb]; trivial)
  intro x y h1 h2 he
  rw [h.Bu] at h1 h2
  rw [h.Ce] at he
  refine hh.inj x y ?_ ?_ he
  ·by_cases hx : b = x
   ·subst hx; exact hl
   ·rw [rr hx] at h1; exact h1
  ·by_cases hx : b = y
   ·subst hx; exact hl
   ·rw [rr hx] at h2; exact h2
 Bl := fun g hg => by
  rw [h.Bl] at hg
  obtain ⟨h1, h2⟩ := hh.Bl g hg
  refine ⟨by rw [h.w]; simpa using h1, fun x hl => ?_⟩
  rw [h.Bu] at hl
  rw [h.Ce]
  by_cases hx : b = x
  ·subst hx; exact fun e => h.Nh (e ▸ hg)
  ·rw [rr hx] at hl; exact h2 x hl
theorem IC.DN {E E' : Ab} {b : Nat} {c c' : Array eu} {t : ea} {Au : Bv} (h : IC E E' b c c' t Au) {base nb d : Nat} (va : nb ≤ E.n) (hd : d ≤ E.m) (hf : Dc E base nb d) (hh : Ch E)
  (hn : ∀ sz cs, Au = .cells sz cs → b < base → ∀ (i : Nat) v u, cs[i]? = some v → c'[i]? = some u → AA (E.shrink nb d) v u) : Dc E' base nb d := by
 intro x sz cs sd hB c2 t2 hc i v u hv hu
 rw [h.Bu] at hB
 rw [h.Ce, h.Cr] at hc
 by_cases hx : b = x
 ·subst hx
  rw [ru rfl] at hB hc
  simp only [an, Obj.cells.injEq] at hB hc
  obtain ⟨rfl, _, _⟩ := hc
  exact (h.Cz.shrink hh va hd).rep v u (hn sz cs hB sd i v u hv hu)
 ·rw [rr hx] at hB
  have sq : E.φ x ≠ E.φ b := fun e => hx (hh.inj b x (by rcases h.kind with ⟨_, _, _, hb, _⟩ | ⟨_, _, _, _, hb, _⟩ <;> (rw [hb]; trivial)) (by rw [hB]; trivial) e.symm)
  rw [rr sq] at hc
  exact (h.Cz.shrink hh va hd).rep v u (hf x sz cs sd hB c2 t2 hc i v u hv hu)
structure Jn (E E' : Ab) (b l k k' sz : Nat) (c : Array eu) (t : ea) : Prop where
 heap : E'.w.heap = E.w.heap.push (.cells c t (0, 0))
 os : E'.w.os = E.w.os
 tape : E'.w.tape = E.w.tape
 output : E'.w.output = E.w.output
 Ce : ∀ x, E'.φ x = if x = b then E.w.heap.size else E.φ x
 H : E'.H = E.H.set b (.Bt l k' sz)
 lk : E'.lk = E.lk
 n : E'.n = E.n
 m : E'.m = E.m
 Bl : E'.Bl = E.Bl
 Wt : E.H[b]? = some (.Bt l k sz)
 lt : k < k'
 size : k' * sz ≤ c.size
theorem Jn.Bu {E E' : Ab} {b l n n' sz : Nat} {c : Array eu} {t : ea} (h : Jn E E' b l n n' sz c t) (x : Nat) : E'.H[x]? = if b = x then some (.Bt l n' sz) else E.H[x]? := by
 have hl : b < E.H.length := by
  rcases fp b E.H.length with hl | hl
  ·exact hl
  ·have := h.Wt; rw [en hl] at this; cases this
 rw [h.H, AX]
 simp [hl]
theorem Jn.Cr {E E' : Ab} {b l n n' sz : Nat} {c : Array eu} {t : ea} (h : Jn E E' b l n n' sz c t) (g : Nat) : E'.w.heap[g]? = if g = E.w.heap.size then some (.cells c t (0, 0)) else E.w.heap[g]? := by
 rw [h.heap, lb]
theorem Jn.Cz {E E' : Ab} {b l n n' sz : Nat} {c : Array eu} {t : ea} (h : Jn E E' b l n n' sz c t) : GJ E E' where
 lk := h.lk
 os := h.os
 tape := h.tape
 output := h.output
 size := by rw [h.heap]; simp
 len := by rw [h.n]; exact dz _
 mm := h.m
 cell := by
  intro g i u hc _
  have hg := HO hc
  simp only [World.cell?, h.Cr g] at hc ⊢
  rw [rr (by simp at hg; omega)]
  exact hc
 block := by
  intro g hg _
  rw [h.Cr g, rr (by omega)]
 mono := by
  intro lv g i _ hu
  rcases hu with hu | hu
  ·exact .inl (.inl (by rw [h.Bl] at hu; exact hu))
  cases lv with
  | some lv =>
   obtain ⟨x, h1, h2, h3⟩ := hu
   rw [h.lk] at h2
   rw [h.Bu x] at h3
   rw [h.Ce x] at h1
   by_cases hb : x = b
   ·rw [ru hb] at h1; right; omega
   ·rw [rr hb] at h1
    rw [rr (fun e => hb e.symm)] at h3
    exact .inl (.inr ⟨x, h1, h2, h3⟩)
  | none =>
   obtain ⟨x, h1, h3⟩ := hu
   rw [h.Bu x] at h3
   rw [h.Ce x] at h1
   by_cases hb : x = b
   ·rw [ru hb] at h1; right; omega
   ·rw [rr hb] at h1
    rw [rr (fun e => hb e.symm)] at h3
    exact .inl (.inr ⟨x, h1, h3⟩)
 Ce := by
  intro x hx hn
  have sq : x ≠ b := fun e => hn l n sz (by rw [e]; exact h.Wt)
  refine ⟨by rw [h.Ce x, rr sq], fun q k z => ?_⟩
  rw [h.Bu x, rr (fun e => sq e.symm)]
  exact hn q k z
 cells := by
  intro x hx hn z cs
  rw [h.Bu x]
  split
  ·simp
  ·exact hn z cs
 Bt := by
  intro x q k z hx hB
  rw [h.Bu x] at hB
  by_cases hb : b = x
  ·subst hb
   rw [ru rfl] at hB
   simp only [an, Bv.Bt.injEq] at hB
   obtain ⟨rfl, rfl, rfl⟩ := hB
   exact ⟨n, h.Wt, kf h.lt, fun e => absurd e (rh h.lt)⟩
  ·rw [rr hb] at hB
   refine ⟨k, hB, dz _, fun _ => ⟨by rw [h.Ce x, rr (fun e => hb e.symm)], fun c' t' hc => ⟨c', ?_, rfl⟩⟩⟩
   rw [h.Cr]
   split
   ·rename_i he
    have := ef.1 hc |>.1
    omega
   ·exact hc
 fresh := by
  intro x hl
  rw [h.Bu x] at hl
  rw [h.Ce x]
  by_cases hb : x = b
  ·rw [ru hb]; exact .inr (dz _)
  ·rw [rr (fun e => hb e.symm)] at hl
   rw [rr hb]; exact .inl ⟨rfl, hl⟩
 Bl := fun g hg => by rw [h.Bl]; exact hg
 Ix := fun g hg => .inl (by rw [h.Bl] at hg; exact hg)
 I8 := fun g _ hl => by rw [h.Cr g, rr (by omega)]
theorem Jn.rel {E E' : Ab} {b l n n' sz : Nat} {c : Array eu} {t : ea} (h : Jn E E' b l n n' sz c t) (hh : Ch E) : Ch E' where
 cells := by
  intro x z cs hB
  rw [h.Bu x] at hB
  by_cases hb : b = x
  ·rw [ru hb] at hB; cases hB
  ·rw [rr hb] at hB
   obtain ⟨c', t', h1, h2, h3⟩ := hh.cells x z cs hB
   rw [h.Ce x, rr (fun e => hb e.symm), h.Cr, rr (by have := ef.1 h1 |>.1; omega)]
   exact ⟨c', t', h1, h2, fun i v hv => let ⟨u, h4, h5⟩ := h3 i v hv; ⟨u, h4, h.Cz.rep hh v u h5⟩⟩
 dm := by rw [h.m, h.lk]; exact hh.dm
 lvl := by
  intro x q k z hB
  rw [h.Bu x] at hB
  rw [h.lk]
  by_cases hb : b = x
  ·subst hb
   rw [ru rfl] at hB
   simp only [an, Bv.Bt.injEq] at hB
   obtain ⟨rfl, rfl, rfl⟩ := hB
   exact hh.lvl _ _ _ _ h.Wt
  ·rw [rr hb] at hB
   exact hh.lvl x q k z hB
 Bt := by
  intro x q k z hB
  rw [h.Bu x] at hB
  by_cases hb : b = x
  ·subst hb
   rw [ru rfl] at hB
   simp only [an, Bv.Bt.injEq] at hB
   obtain ⟨rfl, rfl, rfl⟩ := hB
   rw [h.Ce, ru rfl, h.Cr, ru rfl]
   exact ⟨c, t, rfl, h.size⟩
  ·rw [rr hb] at hB
   obtain ⟨c', t', h1, h2⟩ := hh.Bt x q k z hB
   rw [h.Ce x, rr (fun e => hb e.symm), h.Cr, rr (by have := ef.1 h1 |>.1; omega)]
   exact ⟨c', t', h1, h2⟩
 maps := by
  intro x BC hB
  rw [h.Bu x] at hB
  by_cases hb : b = x
  ·rw [ru hb] at hB; cases hB
  ·rw [rr hb] at hB
   obtain ⟨h1, h2⟩ := hh.maps x BC hB
   rw [h.Ce x, rr (fun e => hb e.symm), h.Cr, rr (by have := ef.1 h1 |>.1; omega)]
   exact ⟨h1, h2⟩
 inj := by
  intro x y h1 h2 he
  rw [h.Bu] at h1 h2
  rw [h.Ce, h.Ce] at he
  by_cases hx : x = b <;> by_cases hy : y = b
  ·omega
  ·rw [ru hx, rr hy] at he
   rw [rr (fun e => hy e.symm)] at h2
   have := FO hh h2
   omega
  ·rw [rr hx, ru hy] at he
   rw [rr (fun e => hx e.symm)] at h1
   have := FO hh h1
   omega
  ·rw [rr hx, rr hy] at he
   rw [rr (fun e => hx e.symm)] at h1
   rw [rr (fun e => hy e.symm)] at h2
   exact hh.inj x y h1 h2 he
 Bl := fun g hg => by
  rw [h.Bl] at hg
  obtain ⟨h1, h2⟩ := hh.Bl g hg
  refine ⟨by rw [h.heap, mz]; omega, fun x hl => ?_⟩
  rw [h.Bu] at hl
  rw [h.Ce]
  by_cases hx : x = b
  ·rw [ru hx]; omega
  ·rw [rr (fun e => hx e.symm)] at hl; rw [rr hx]; exact h2 x hl
theorem Jn.DN {E E' : Ab} {b l n n' sz : Nat} {c : Array eu} {t : ea} (h : Jn E E' b l n n' sz c t) {base nb d : Nat} (va : nb ≤ E.n) (hd : d ≤ E.m) (hf : Dc E base nb d) (hh : Ch E) : Dc E' base nb d := by
 intro x z cs sd hB c' t' hc i v u hv hu
 rw [h.Bu] at hB
 by_cases hx : b = x
 ·rw [ru hx] at hB; cases hB
 ·rw [rr hx] at hB
  rw [h.Ce, rr (fun e => hx e.symm), h.Cr] at hc
  split at hc
  ·rename_i he
   have := FO hh (b := x) (by rw [hB]; trivial)
   omega
  ·exact (h.Cz.shrink hh va hd).rep v u (hf x z cs sd hB c' t' hc i v u hv hu)
structure B9 (c : Cx) (E E' : Ab) (H' : A5) : Prop where
 H : E'.H = H'
 n : E'.n = H'.length
 m : E'.m = E.m
 Cz : GJ E E'
 heap : Ch E'
 I7 : c.hints.grow c.fn = false → ∀ base nb d, base ≤ c.base → nb ≤ E.n → d ≤ E.m → Dc E base nb d → Dc E' base nb d
 Ib : c.hints.grow c.fn = true → ∀ base d, base ≤ c.base → d ≤ E.m → Dc E base E.n d → Dc E' base E'.n d
 kept : ∀ b, b < c.base → AT c.lk b = false → H'[b]? = E.H[b]?
def GA (c : Cx) (E : Ab) (a : Act) (o : fc) (v : V) (H' : A5) : Prop :=
 ∃ E', B9 c E E' H' ∧ ((∃ u, (execOp a.eval o).run c.P E.w = .ok (.value u) E'.w ∧ AA E' v u) ∨ ((execOp a.eval o).run c.P E.w = .ok .skip E'.w ∧ AA E' v undef))
theorem B9.refl {c : Cx} {E : Ab} {S : St} {a : Act} (hs : D1 c E S a) : B9 c E E S.H where
 H := hs.H
 n := hs.n
 m := rfl
 Cz := GJ.refl E
 heap := hs.heap
 I7 := fun _ _ _ _ _ _ _ h => h
 Ib := fun _ _ _ _ _ h => h
 kept := fun _ _ _ => by rw [hs.H]
theorem Dp.makes {c : Cx} {E : Ab} {S : St} {a : Act} {o : fc} {v : V} (h : Dp c E a o v) (hs : D1 c E S a) : GA c E a o v S.H :=
 let ⟨u, h1, h2⟩ := h
 ⟨E, B9.refl hs, .inl ⟨u, h1, h2⟩⟩
def Ab.push (E : Ab) (w : je) (Au : Bv) : Ab :=
  { w := w, φ := fun b => if b = E.H.length then E.w.heap.size else E.φ b, H := E.H ++ [Au], lk := E.lk, n := E.n + 1, m := E.m, Bl := E.Bl }
theorem Ab.Qx (E : Ab) (w : je) (Au : Bv) {c : Array eu} {t : ea} (h1 : w.heap = E.w.heap.push (.cells c t (0, 0))) (h2 : w.os = E.w.os) (h3 : w.tape = E.w.tape) (h4 : w.output = E.w.output) (h5 : E.n = E.H.length) : Ft E (E.push w Au) c t Au where
 heap := h1
 os := h2
 tape := h3
 output := h4
 Ce := fun _ => rfl
 H := rfl
 lk := rfl
 n := rfl
 m := rfl
 Bl := rfl
 n0 := h5
section
variable {c : Cx} {E : Ab} {S : St} {a : Act} {o : fc}
theorem Ft.after (hs : D1 c E S a) {E' : Ab} {cs : Array eu} {t : ea} {Au : Bv} (h : Ft E E' cs t Au) (hr : Ch E') : B9 c E E' (S.H ++ [Au]) where
 H := by rw [h.H, hs.H]
 n := by rw [h.n, hs.n]; simp
 m := h.m
 Cz := h.Cz
 heap := hr
 I7 := fun _ base nb d hb hn hd hf => h.DN (by have := hs.base; have := hs.n; omega) hn hd hf hs.heap
 Ib := fun _ base d hb hd hf => (h.DN (by have := hs.base; have := hs.n; omega) (dz _) hd hf hs.heap).up h.Cz.len
 kept := fun b hb _ => by rw [hs.H, eh (by have := hs.base; omega)]
theorem Ft.ZG (hs : D1 c E S a) {E1 E' : Ab} {H1 : A5} {cs : Array eu} {t : ea} {Au : Bv} (h0 : B9 c E E1 H1) (h : Ft E1 E' cs t Au) (hr : Ch E') : B9 c E E' (H1 ++ [Au]) where
 H := by rw [h.H, h0.H]
 n := by rw [h.n, h0.n]; simp
 m := h.m.trans h0.m
 Cz := h0.Cz.trans h.Cz
 heap := hr
 I7 := fun hg base nb d hb hn hd hf => h.DN (by have := hs.base; have := hs.n; have := h0.Cz.len; omega) (fg hn h0.Cz.len) (by rw [h0.m]; exact hd) (h0.I7 hg base nb d hb hn hd hf) h0.heap
 Ib := fun hg base d hb hd hf => (h.DN (by have := hs.base; have := hs.n; have := h0.Cz.len; omega) (dz _) (by rw [h0.m]; exact hd) (h0.Ib hg base d hb hd hf) h0.heap).up h.Cz.len
 kept := fun b hb hl => by rw [← h0.kept b hb hl, eh (by have := hs.base; have := hs.n; have := h0.Cz.len; have := h0.n; omega)]
theorem Hr {P : ep} {t : ea} {n : Nat} (h : B3 P t = some n) : ∃ i, P.info? t = some i ∧ i.size = n := by
 unfold B3 at h
 simpa only [dn] using h
theorem IX {P : ep} {t : ea} {z : List V} (h : BH P t = some z) : ∃ i x v, P.info? t = some i ∧ i.zero = some x ∧ Es x = some v ∧ z = v.cellsOf := by
 unfold BH at h
 simp only [dj, dn] at h
 obtain ⟨x, ⟨i, h1, h2⟩, v, h3, rfl⟩ := h
 exact ⟨i, x, v, h1, h2, h3, rfl⟩
theorem Qp {x : eu} {v : V} (h : DW x = some v) : (∀ vs, v ≠ .Ei vs) ∧ ∀ vs, v ≠ .agg vs := by
 cases x with
 | int _ _ => simp only [DW, an] at h; subst h; simp
 | bool _ => simp only [DW, an] at h; subst h; simp
 | string _ => simp only [DW, an] at h; subst h; simp
 | pointer p => cases p <;> simp only [DW, an, reduceCtorEq] at h; subst h; simp
 | slice p n m => simp only [DW] at h; split at h <;> simp_all <;> (subst h; simp)
 | nilFunc => simp only [DW, an] at h; subst h; simp
 | map r => cases r <;> simp only [DW, an, reduceCtorEq] at h; subst h; simp
 | _ => simp [DW] at h
theorem O3 {x : eu} {v : V} (h : Es x = some v) : ∀ vs, v ≠ .Ei vs := by
 cases x with
 | agg cs => simp only [Es, dn] at h; obtain ⟨_, _, rfl⟩ := h; simp
 | _ => exact (Qp (by simpa only [Es] using h)).1
theorem GI (E : Ab) {x : eu} {v : V} (h : Es x = some v) : AM E v.cellsOf x.cells.toList := J5 (IU E x v h) (O3 h)
theorem Uo (hs : D1 c E S a) {t : ea} {z : List V} {sz : Nat} (ho : o.op = .alloc t) (hz : BH c.P t = some z) : GA c E a o (.ptr S.H.length 0) (S.H ++ [.cells sz z]) := by
 obtain ⟨i, x, v, h1, h2, h3, rfl⟩ := IX hz
 have hp := Ab.Qx E (E.w.alloc (.cells x.cells t)) (.cells sz v.cellsOf) (c := x.cells) (t := t) rfl rfl rfl rfl (by rw [hs.n, hs.H])
 obtain ⟨hl, hg⟩ := Bd _ _ (GI E h3)
 have hr := hp.rel hs.heap (fun wg cs e => by
  simp only [Bv.cells.injEq] at e
  obtain ⟨rfl, rfl⟩ := e
  exact ⟨by rw [hl]; simp, fun i v hv => by simpa using hg i v hv⟩) (fun l n sz e => by cases e)
 refine ⟨_, hp.after hs hr, .inl ⟨.pointer (some ⟨E.w.heap.size, 0, none⟩), ?_, ?_⟩⟩
 ·simp [execOp, ho, Instr.alloc, zeroValue, typeInfo, h1, h2, newVar, newRow]; rfl
 ·simp only [AA]
  rw [hp.n, hs.n, hp.Ce, hs.H]
  refine ⟨by omega, by rw [ru rfl], fun l n z => ?_⟩
  rw [hp.Bu, hs.H, ru rfl]
  simp
theorem YZ (hs : D1 c E S a) {t : ea} {x : ed} {v : V} {sz : Nat} (ho : o.op = .box t x) (hx : ev S.T x = some v) (hc : v.cellsOf.all V.Bm = true) : GA c E a o (.ptr S.H.length 0) (S.H ++ [.cells sz v.cellsOf]) := by
 have hrv := BB hs x v hx
 have ht : ∀ vs, v ≠ .Ei vs := by rintro vs rfl; simp [V.cellsOf, V.Bm] at hc
 have hp := Ab.Qx E (E.w.alloc (.cells (a.eval x).cells t)) (.cells sz v.cellsOf) (c := (a.eval x).cells) (t := t) rfl rfl rfl rfl (by rw [hs.n, hs.H])
 obtain ⟨hl, hg⟩ := Bd _ _ (J5 hrv ht)
 have hr := hp.rel hs.heap (fun wg cs e => by
  simp only [Bv.cells.injEq] at e
  obtain ⟨rfl, rfl⟩ := e
  exact ⟨by rw [hl]; simp, fun i v hv => by simpa using hg i v hv⟩) (fun l n sz e => by cases e)
 refine ⟨_, hp.after hs hr, .inl ⟨.pointer (some ⟨E.w.heap.size, 0, none⟩), ?_, ?_⟩⟩
 ·simp [execOp, ho, Instr.box, newVar, newRow]; rfl
 ·simp only [AA]
  rw [hp.n, hs.n, hp.Ce, hs.H]
  refine ⟨by omega, by rw [ru rfl], fun l n z => ?_⟩
  rw [hp.Bu, hs.H, ru rfl]
  simp
theorem LQ (cs xs : List V) (off : Nat) (h : off + xs.length ≤ cs.length) (i : Nat) : (CA cs off xs)[i]? = if off ≤ i ∧ i < off + xs.length then xs[i - off]? else cs[i]? := by
 unfold CA
 rcases fp i off with hi | hi
 ·rw [rr (by omega), eo, eh (by simp; omega), jg hi]
 ·rcases fp i (off + xs.length) with hj | hj
  ·rw [ru ⟨hi, hj⟩, eo, fe (by simp; omega), eh (by simp; omega)]
   congr 1
   simp; omega
  ·rw [rr (by omega), fe (by simp; omega), jd]
   congr 1
   simp; omega
theorem Ik (cs xs : List V) (off : Nat) (h : off + xs.length ≤ cs.length) : (CA cs off xs).length = cs.length := by
 unfold CA; simp; omega
theorem Il {c : Cx} (hl : ∀ l ∈ c.lk, ∀ x ∈ l, x < c.base) {b : Nat} (h : c.Bi b = true) : AT c.lk b = true := by
 unfold Cx.Bi at h
 simp only [gg, ry] at h
 rcases h with h | h
 ·unfold AT
  rw [gb]
  intro l hx
  simp only [jj, List.contains_eq_mem, rv]
  intro hm
  have := hl l hx b hm
  omega
 ·exact h
theorem Jo (c : Array eu) (us : List eu) (off : Nat) (h : off + us.length ≤ c.size) (i : Nat) :
  (c.toList.take off ++ us ++ c.toList.drop (off + us.length)).toArray[i]? = if off ≤ i ∧ i < off + us.length then us[i - off]? else c[i]? := by
 rw [ly]
 rcases fp i off with hi | hi
 ·rw [rr (by omega), eo, eh (by simp; omega), jg hi, jf]
 ·rcases fp i (off + us.length) with hj | hj
  ·rw [ru ⟨hi, hj⟩, eo, fe (by simp; omega), eh (by simp; omega)]
   congr 1
   simp; omega
  ·rw [rr (by omega), fe (by simp; omega), jd, jf]
   congr 1
   simp; omega
def Ab.write (E : Ab) (b : Nat) (c' : Array eu) (Au : Bv) : Ab := { E with w := E.w.setRow (E.φ b) c', H := E.H.set b Au }
theorem B9.trans {E' : Ab} {H' : A5} {E'' : Ab} {H'' : A5} (h : B9 c E E' H') (k : B9 c E' E'' H'') : B9 c E E'' H'' where
 H := k.H
 n := k.n
 m := k.m.trans h.m
 Cz := h.Cz.trans k.Cz
 heap := k.heap
 I7 := fun hg base nb d hb hn hd hf => k.I7 hg base nb d hb (fg hn h.Cz.len) (by rw [h.m]; exact hd) (h.I7 hg base nb d hb hn hd hf)
 Ib := fun hg base d hb hd hf => k.Ib hg base d hb (by rw [h.m]; exact hd) (h.Ib hg base d hb hd hf)
 kept := fun b hb hl => (k.kept b hb hl).trans (by rw [h.H]; exact h.kept b hb hl)
theorem K0 {lo : Nat} {f : A5 → V → Option (V × A5)} (hf : ∀ H v v' H', f H v = some (v', H') → ∀ b : Nat, b < lo → H'[b]? = H[b]?) :
  ∀ (vs : List V) (H : A5) (so : List V) (H' : A5), AV.giveL f H vs = some (so, H') → ∀ b : Nat, b < lo → H'[b]? = H[b]?
 | [], H, so, H', h, b, hb => by
  simp only [AV.giveL, an, dk] at h
  obtain ⟨_, rfl⟩ := h
  rfl
 | v :: vs, H, so, H', h, b, hb => by
  simp only [AV.giveL, dj, dn, Prod.exists, dk] at h
  obtain ⟨v1, H1, h1, vs2, H2, h2, _, rfl⟩ := h
  exact (K0 hf vs H1 vs2 H2 h2 b hb).trans (hf H v v1 H1 h1 b hb)
theorem KQ (lo : Nat) : ∀ (k : Nat) (H : A5) (v v' : V) (H' : A5), AV lo k H v = some (v', H') → ∀ b : Nat, b < lo → H'[b]? = H[b]?
 | 0, H, v, v', H', h => by simp [AV] at h
 | k + 1, H, v, v', H', h => by
  have same : (v', H') = (v, H) → ∀ b : Nat, b < lo → H'[b]? = H[b]? := by
   intro e
   simp only [dk] at e
   obtain ⟨_, rfl⟩ := e
   exact fun _ _ => rfl
  have ih := K0 (lo := lo) fun (H : A5) (v v' : V) (H' : A5) (h : AV lo k H v = some (v', H')) => KQ lo k H v v' H' h
  have kill : ∀ (x b : Nat), ¬ x < lo → b < lo → (H.set x .dead)[b]? = H[b]? := by
   intro x b h1 h2
   rw [AX, rr (by omega)]
  cases v with
  | int _ _ => simp only [AV, an] at h; exact same h.symm
  | bool _ => simp only [AV, an] at h; exact same h.symm
  | str _ => simp only [AV, an] at h; exact same h.symm
  | HV => simp only [AV, an] at h; exact same h.symm
  | EI => simp only [AV, an] at h; exact same h.symm
  | ptr _ _ => simp [AV] at h
  | Cm _ => simp [AV] at h
  | lp _ _ _ => simp [AV] at h
  | fn _ _ => simp [AV] at h
  | pre _ _ _ _ => simp [AV] at h
  | Ei _ => simp [AV] at h
  | lit lv n cs =>
   simp only [AV] at h
   split at h
   ·simp only [an] at h; exact same h.symm
   ·cases h
  | tl n cs =>
   simp only [AV, dn, Prod.exists, dk] at h
   obtain ⟨sk, H1, h1, _, rfl⟩ := h
   exact ih cs H sk H1 h1
  | snap x n cs =>
   simp only [AV] at h
   split at h
   case h_2 => cases h
   split at h
   ·cases h
   rename_i hx
   simp only [dn, Prod.exists, dk] at h
   obtain ⟨sk, H1, h1, _, rfl⟩ := h
   exact fun b hb => (ih cs _ sk H1 h1 b hb).trans (kill x b (fun h => hx (.inl h)) hb)
  | sl x off n =>
   simp only [AV] at h
   split at h
   case h_2 => cases h
   split at h
   ·cases h
   rename_i hx
   simp only [dn, Prod.exists, dk] at h
   obtain ⟨sk, H1, h1, _, rfl⟩ := h
   exact fun b hb => (ih _ _ sk H1 h1 b hb).trans (kill x b (fun h => hx (.inl h)) hb)
  | agg cs =>
   simp only [AV, dn, Prod.exists, dk] at h
   obtain ⟨sk, H1, h1, _, rfl⟩ := h
   exact ih cs H sk H1 h1
theorem W3 (hs : D1 c E S a) {k : Nat} {v v' : V} {H' : A5} (h : AV c.base k S.H v = some (v', H')) : B9 c E (E.heap H') H' ∧ (∀ u, AA E v u → AA ((E.heap H').shrink 0 0) v' u) ∧ H'.length = S.H.length := by
 have hg := Hp c.base k E v v' H' (by rw [hs.H]; exact h) hs.heap
 obtain ⟨e, r, p⟩ := hg
 have hlen := Gx c.base k S.H v v' H' h
 have hrf : ∀ base nb d, nb ≤ E.n → d ≤ E.m → Dc E base nb d → Dc (E.heap H') base nb d := by
  intro base nb d va hd hf b sz cs sd hB c' t hc i x u hv hu
  have tg := QH c.base k S.H v v' H' h b sz cs hB
  rw [← hs.H] at tg
  exact (e.shrink hs.heap va hd).rep x u (hf b sz cs sd tg c' t hc i x u hv hu)
 refine ⟨⟨rfl, ?_, rfl, e, r, fun _ base nb d _ hn hd hf => hrf base nb d hn hd hf, fun _ base d _ hd hf => hrf base E.n d (dz _) hd hf, fun b hb _ => by rw [KQ c.base k S.H v v' H' h b hb, hs.H]⟩, p, hlen⟩
 show E.n = _; rw [hs.n, hlen]
theorem VP {E : Ab} {b sz : Nat} {cs : List V} {c0 : Array eu} {t : ea} (sk : List V) (c' : Array eu) (uy : E.w.heap[E.φ b]? = some (.cells c0 t (0, 0))) (tu : c'.size = c0.size) (hn : E.n = E.H.length)
  (uf : AT E.lk b = true) (hb : E.H[b]? = some (.cells sz cs)) (hnh : E.φ b ∉ E.Bl) : IC E (E.write b c' (.cells sz sk)) b c0 c' t (.cells sz sk) where
 w := rfl
 row := uy
 size := tu
 Ce := rfl
 H := rfl
 lk := rfl
 n := rfl
 m := rfl
 Bl := rfl
 Nh := hnh
 n0 := hn
 free := uf
 kind := .inl ⟨sz, cs, sk, hb, rfl⟩
theorem LR (hs : D1 c E S a) {E1 : Ab} {H1 : A5} (ha : B9 c E E1 H1) (hw1 : E1.w = E.w) {t : ea} {p x : ed} {b off sz : Nat} {cs : List V} {x' : V} (ho : o.op = .store t p x)
  (hp : AA E1 (.ptr b off) (a.eval p)) (hx : AA E1 x' (a.eval x)) (hf : b < c.base → AA (E1.shrink (if c.hints.grow c.fn = true then E1.n else 0) 0) x' (a.eval x)) (uf : AT E1.lk b = true) (hb : H1[b]? = some (.cells sz cs))
  (tu : B3 c.P t = some x'.cellsOf.length) (wh : off + x'.cellsOf.length ≤ cs.length) (vh : x'.cellsOf.all V.Bm = true) : GA c E a o CT (H1.set b (.cells sz (CA cs off x'.cellsOf))) := by
 have tp : E1.H[b]? = some (.cells sz cs) := by rw [ha.H]; exact hb
 obtain ⟨c0, ty, q1, q2, q3⟩ := ha.heap.cells b sz cs tp
 have ht : ∀ vs, x' ≠ .Ei vs := by rintro vs rfl; simp [V.cellsOf, V.Bm] at vh
 have wy := J5 hx ht
 obtain ⟨hl, hg⟩ := Bd _ _ wy
 simp only [AA] at hp
 obtain ⟨_, hp, _⟩ := hp
 have hone : ∀ v ∈ (a.eval x).cells.toList, v.oneCell' = true := by
  intro v hv
  obtain ⟨i, hi⟩ := po hv
  have wz : i < x'.cellsOf.length := by
   rw [hl]
   exact (du.1 hi).1
  obtain ⟨u, h1, h2⟩ := hg i _ (dr wz)
  rw [hi] at h1
  simp only [an] at h1
  subst h1
  rw [gb] at vh
  exact No h2 (vh _ (gl wz))
 have ui := run_storeCells_at c.P (E1.φ b) off ty (a.eval x).cells.toList 0 c0 E.w (by rw [← hw1]; exact q1) (by rw [← hl]; omega) hone
 simp only [nr] at ui
 have vw : (a.eval x).cells.size = x'.cellsOf.length := by rw [hl]; simp
 let c' : Array eu := (c0.toList.take off ++ (a.eval x).cells.toList ++ c0.toList.drop (off + (a.eval x).cells.toList.length)).toArray
 have hc'size : c'.size = c0.size := by
  have : off + (a.eval x).cells.toList.length ≤ c0.size := by rw [← hl]; omega
  simp only [c', mu, dw, gh, ko, ld] at *
  omega
 have hc'get : ∀ i, c'[i]? = if off ≤ i ∧ i < off + (a.eval x).cells.toList.length then (a.eval x).cells.toList[i - off]? else c0[i]? := fun i => Jo c0 _ off (by rw [← hl]; omega) i
 have hwr := VP (CA cs off x'.cellsOf) c' q1 hc'size (by rw [ha.n, ha.H]) uf tp (fun e => (ha.heap.Bl _ e).2 b (by rw [tp]; trivial) rfl)
 have xf : ∀ (i : Nat) v, (CA cs off x'.cellsOf)[i]? = some v → ∃ u, c'[i]? = some u ∧ AA E1 v u := by
  intro i v hv
  rw [LQ cs _ off wh] at hv
  rw [hc'get, ← hl]
  by_cases hc : off ≤ i ∧ i < off + x'.cellsOf.length
  ·rw [ru hc] at hv ⊢
   exact hg _ v hv
  ·rw [rr hc] at hv ⊢
   exact q3 i v hv
 have hr := hwr.rel ha.heap (fun wg sk e => by
  simp only [Bv.cells.injEq] at e
  obtain ⟨_, rfl⟩ := e
  exact ⟨by rw [Ik cs _ off wh, hc'size]; exact q2, xf⟩) (fun l n sz e => by cases e)
 have hfor : ∀ base nb d, base ≤ c.base → nb ≤ E1.n → (c.hints.grow c.fn = true → nb = E1.n) → d ≤ E1.m → Dc E1 base nb d → Dc (E1.write b c' (.cells sz (CA cs off x'.cellsOf))) base nb d := by
  intro base nb d vb va hgr hd hf1
  refine hwr.DN va hd hf1 ha.heap (fun wg sk e sd i v u hv hu => ?_)
  simp only [Bv.cells.injEq] at e
  obtain ⟨_, rfl⟩ := e
  rw [LQ cs _ off wh] at hv
  rw [hc'get, ← hl] at hu
  by_cases hc : off ≤ i ∧ i < off + x'.cellsOf.length
  ·rw [ru hc] at hv hu
   obtain ⟨_, hg'⟩ := Bd _ _ (J5 (hf (fw sd vb)) ht)
   obtain ⟨u', h1, h2⟩ := hg' _ v hv
   rw [hu] at h1
   simp only [an] at h1
   subst h1
   refine (Ca.grow (E1.shrink nb d) (n := _) (m := 0) ?_ (ga _)).rep _ _ h2
   show (if c.hints.grow c.fn = true then E1.n else 0) ≤ nb
   split
   ·rename_i hgt; rw [hgr hgt]; exact dz _
   ·exact ga _
  ·rw [rr hc] at hv hu
   exact hf1 b sz cs sd tp c0 ty q1 i v u hv hu
 refine ⟨E1.write b c' (.cells sz (CA cs off x'.cellsOf)), ⟨?_, ?_, ha.m, ha.Cz.trans hwr.Cz, hr,
  fun hg base nb d ua hn hd hf0 => hfor base nb d ua (fg hn ha.Cz.len) (fun h => by rw [hg] at h; cases h) (by rw [ha.m]; exact hd) (ha.I7 hg base nb d ua hn hd hf0),
  fun hg base d ua hd hf0 => hfor base _ d ua (dz _) (fun _ => rfl) (by rw [ha.m]; exact hd) (ha.Ib hg base d ua hd hf0),
  fun b' ua hl0 => ?_⟩, .inr ⟨?_, ?_⟩⟩
 ·show E1.H.set b _ = _; rw [ha.H]
 ·show E1.n = _; rw [ha.n]; simp
 ·rw [AX, rr, ha.kept b' ua hl0]
  rintro ⟨rfl, _⟩
  rw [ha.Cz.lk, hs.lk] at uf
  rw [uf] at hl0
  cases hl0
 ·simp only [execOp, ho, hp, Instr.storeAt, Instr.sureAddr, storeVar, Sem.run_bind, Sem.run_pure, Result.andThen_ok, FJ tu, vw, ne_eq, not_true_eq_false, if_false, ui]
  show Result.ok Next.skip (E.w.setRow (E1.φ b) c') = Result.ok Next.skip (E1.w.setRow (E1.φ b) c')
  rw [hw1]
 ·simp only [CT, AA]
  exact ⟨#[], rfl, by simp only [AM]⟩
theorem Ur (hs : D1 c E S a) {t : ea} {p x : ed} {P X : V} {H' : A5} (ho : o.op = .store t p x) (hp : ev S.T p = some P) (hx : ev S.T x = some X) (h : G0 c t S.H P X = some H') : GA c E a o CT H' := by
 have hrp := BB hs p _ hp
 have xj := BB hs x _ hx
 cases P with
 | ptr b off =>
  simp only [G0] at h
  split at h
  case isFalse => cases h
  rename_i hmw
  have uf := Il hs.Dv hmw
  simp only [dj, Prod.exists] at h
  obtain ⟨X1, H1, hX, h⟩ := h
  split at h
  case h_2 => cases h
  rename_i sz cs hb
  split at h
  case isFalse => cases h
  rename_i uc
  simp only [an] at h
  subst h
  obtain ⟨k1, k2, k3⟩ := uc
  by_cases sd : b < c.base
  ·rw [ru sd] at hX
   split at hX
   ·rename_i hgrow
    split at hX
    case isFalse => cases hX
    rename_i td
    simp only [an, dk] at hX
    obtain ⟨rfl, rfl⟩ := hX
    refine LR hs (B9.refl hs) rfl ho hrp xj (fun _ => ?_) (by rw [hs.lk]; exact uf) hb k1 k2 k3
    rw [ru hgrow]
    exact Hk (E := E) (d := 0) X _ td xj
   ·rename_i hgrow
    obtain ⟨ha, hr, hlen⟩ := W3 hs hX
    refine LR hs ha rfl ho (ha.Cz.rep hs.heap _ _ hrp) ?_ (fun _ => ?_) (by show AT E.lk b = true; rw [hs.lk]; exact uf) hb k1 k2 k3
    ·exact (Ca.grow (E.heap H1) (ga _) (ga _)).rep _ _ (hr _ xj)
    ·rw [rr hgrow]
     exact hr _ xj
  ·rw [rr sd] at hX
   simp only [an, dk] at hX
   obtain ⟨rfl, rfl⟩ := hX
   exact LR hs (B9.refl hs) rfl ho hrp xj (fun h => absurd h sd) (by rw [hs.lk]; exact uf) hb k1 k2 k3
 | _ => simp [G0] at h
theorem Wk {E : Ab} {cs xs : List V} {arr : Array eu} {us : List eu} {off : Nat} (hc : AM E cs arr.toList) (hx : AM E xs us) (wh : off + xs.length ≤ cs.length) {arr' : Array eu} (tu : arr'.size = arr.size)
  (hg : ∀ k, arr'[k]? = if off ≤ k ∧ k < off + us.length then us[k - off]? else arr[k]?) : AM E (CA cs off xs) arr'.toList := by
 obtain ⟨l1, g1⟩ := Bd _ _ hc
 obtain ⟨l2, g2⟩ := Bd _ _ hx
 refine EV _ _ ?_ fun i v u hi hj => ?_
 ·rw [Ik cs xs off wh, l1]; simp [tu]
 ·rw [LQ cs xs off wh] at hi
  rw [jf, hg, ← l2] at hj
  by_cases h : off ≤ i ∧ i < off + xs.length
  ·rw [ru h] at hi hj
   obtain ⟨u', h1, h2⟩ := g2 _ v hi
   rw [hj] at h1
   simp only [an] at h1
   subst h1
   exact h2
  ·rw [rr h] at hi hj
   obtain ⟨u', h1, h2⟩ := g1 _ v hi
   rw [jf, hj] at h1
   simp only [an] at h1
   subst h1
   exact h2
def Jj (E : Ab) : List (Nat × V) → List (Nat × eu) → Prop
 | [], us => us = []
 | (i, v) :: ps, us => ∃ u tn, us = (i, u) :: tn ∧ AA E v u ∧ Jj E ps tn
theorem GJ.rQ {E E' : Ab} (h : GJ E E') (hh : Ch E) : ∀ (ps : List (Nat × V)) (us : List (Nat × eu)), Jj E ps us → Jj E' ps us
 | [], _, r => r
 | (_, v) :: ps, _, r => by
  simp only [Jj] at r ⊢
  obtain ⟨u, tn, h1, h2, h3⟩ := r
  exact ⟨u, tn, h1, h.rep hh v u h2, h.rQ hh ps tn h3⟩
theorem Oe (hs : D1 c E S a) : ∀ (xs : List (Nat × ed)) (ps : List (Nat × V)), Sp S.T xs = some ps → Jj E ps (xs.map fun p => (p.1, a.eval p.2))
 | [], ps, h => by simp only [Sp, an] at h; subst h; simp only [Jj, jx]
 | (i, x) :: xs, ps, h => by
  simp only [Sp, dj, dn] at h
  obtain ⟨v, hv, ws, hw, rfl⟩ := h
  simp only [Jj, gq]
  exact ⟨_, _, rfl, BB hs x v hv, Oe hs xs ws hw⟩
theorem JI {E : Ab} (place : Nat → Option (Nat × Nat)) : ∀ (ps : List (Nat × V)) (us : List (Nat × eu)) (cs : List V) (arr : Array eu) (sk : List V),
  Eo place cs ps = some sk → Jj E ps us → AM E cs arr.toList → ∃ arr', Instr.fill place arr us = some arr' ∧ AM E sk arr'.toList
 | [], us, cs, arr, sk, h, hp, hc => by
  simp only [Eo, an] at h
  subst h
  simp only [Jj] at hp
  subst hp
  exact ⟨arr, rfl, hc⟩
 | (i, v) :: ps, us, cs, arr, sk, h, hp, hc => by
  simp only [Jj] at hp
  obtain ⟨u, tn, rfl, hu, hus⟩ := hp
  simp only [Eo] at h
  split at h
  ·cases h
  ·rename_i off sz hpl
   split at h
   ·cases h
   ·rename_i uc
    simp only [not_or, ib, Decidable.not_not, qb] at uc
    obtain ⟨h1, h2, h3⟩ := uc
    have ht : ∀ vs, v ≠ .Ei vs := by rintro vs rfl; simp [V.cellsOf, V.Bm] at h3
    have wy := J5 hu ht
    obtain ⟨l1, _⟩ := Bd _ _ hc
    obtain ⟨l2, _⟩ := Bd _ _ wy
    have tu : u.cells.size = sz := by rw [← h1, l2]; simp
    have harr : arr.size = cs.length := by rw [l1]; simp
    have hfold := Go.Great.foldl_set off u.cells.toList 0 arr
    simp only [nr] at hfold
    obtain ⟨f1, f2⟩ := hfold
    have uk : Instr.fill place arr ((i, u) :: tn) = Instr.fill place ((u.cells.toList.zipIdx 0).foldl (fun cs (x : eu × Nat) => cs.setIfInBounds (off + x.2) x.1) arr) tn := by
     simp only [Instr.fill, hpl]
     rw [rr (by simp only [tu, ne_eq, not_true_eq_false, decide_false, Bool.false_or, ry]; omega)]
     rw [← Array.foldl_toList, Array.toList_zipIdx]
    rw [uk]
    refine JI place ps tn (CA cs off v.cellsOf) _ sk h hus (Wk hc wy (by omega) f1 fun k => ?_)
    rw [f2 k]
    by_cases hk : off ≤ k ∧ k < off + u.cells.toList.length
    ·rw [ru hk, ru ⟨hk.1, hk.2, by rw [← l2] at hk; omega⟩]
    ·rw [rr hk, rr (fun e => hk ⟨e.1, e.2.1⟩)]
theorem Ij (place : Nat → Option (Nat × Nat)) : ∀ (ps : List (Nat × V)) (cs sk : List V), Eo place cs ps = some sk → sk.length = cs.length
 | [], cs, sk, h => by simp only [Eo, an] at h; rw [h]
 | (i, v) :: ps, cs, sk, h => by
  simp only [Eo] at h
  split at h
  ·cases h
  ·split at h
   ·cases h
   ·rename_i uc
    simp only [not_or, ib, Decidable.not_not, qb] at uc
    rw [Ij place ps _ sk h, Ik _ _ _ (by omega)]
theorem UZ (hs : D1 c E S a) {t : ea} {parts : Array (Nat × ed)} {ps : List (Nat × V)} {z cs : List V} {pl : List (Nat × Nat)} (ho : o.op = .build t parts) (hp : Sp S.T parts.toList = some ps) (hz : BH c.P t = some z) (hpl : Dy c.P t = some pl)
  (h : Eo (fun i => pl[i]?) z ps = some cs) : Dp c E a o (.agg cs) := by
 obtain ⟨i, x, v, h1, h2, h3, rfl⟩ := IX hz
 obtain ⟨arr, k1, k2⟩ := JI _ ps _ _ x.cells cs h (Oe hs _ _ hp) (GI E h3)
 unfold Dy at hpl
 split at hpl
 case h_2 => cases hpl
 rename_i fs hu
 have hb : c.P.built t (parts.map fun (i, x) => (i, a.eval x)).toList = some arr := by
  simp only [Program.built, h1, hu, h2, hpl, Array.toList_map]
  simpa using k1
 refine ⟨.agg arr, by simp only [execOp, ho, run_build E.w t _ arr hb, Sem.run_bind, Result.andThen_ok, Sem.run_pure], ?_⟩
 simp only [AA]
 exact ⟨arr, rfl, k2⟩
theorem Na {α : Type} (l : List α) : ∀ (n i : Nat), i < n * l.length → (gf n l).flatten[i]? = l[i % l.length]?
 | 0, i, h => by omega
 | n + 1, i, h => by
  rw [ny, qc]
  rcases fp i l.length with hi | hi
  ·rw [eh hi, Nat.mod_eq_of_lt hi]
  ·rw [fe hi, Na l n (i - l.length) (by rw [kq, rj] at h; omega), Nat.mod_eq_sub_mod hi]
theorem IJ {α : Type} (l : List α) (n : Nat) : (gf n l).flatten.length = n * l.length := by
 induction n with
 | zero => simp
 | succ n ih => rw [ny, qc, dw, ih, kq, rj, Nat.add_comm]
theorem MW {E : Ab} {z : List V} {x : eu} (hz : AM E z x.cells.toList) (hpos : z.length ≠ 0) (n : Nat) : AM E (gf n z).flatten (madeCells x.cells (n * z.length)).toList := by
 obtain ⟨l, g⟩ := Bd _ _ hz
 refine EV _ _ (by rw [IJ]; simp [size_madeCells]) fun i v u hi hj => ?_
 have wz : i < n * z.length := by
  rcases fp i (n * z.length) with h | h
  ·exact h
  ·rw [en (by rw [IJ]; exact h)] at hi; cases hi
 rw [Na z n i wz] at hi
 obtain ⟨u', h1, h2⟩ := g _ v hi
 have hx : x.cells.size = z.length := by rw [l]; simp
 have sd : i % z.length < x.cells.size := by rw [hx]; exact Nat.mod_lt _ (by omega)
 have : (madeCells x.cells (n * z.length))[i]? = some u' := by
  unfold madeCells
  rw [Array.getElem?_map, Array.getElem?_range]
  simp only [wz, if_true, dq, hx, an]
  rw [getElem!_pos x.cells (i % z.length) sd]
  rw [jf, lf sd] at h1
  simpa using h1
 rw [jf, this] at hj
 simp only [an] at hj
 subst hj
 exact h2
theorem WS {E : Ab} {v : V} {u : eu} (h : AA E v u) : AA E (WR v) u := by
 unfold WR
 split
 ·simp only [AA] at h ⊢
  obtain ⟨A, h1, _⟩ := h
  exact ⟨ga _, A, 0, h1, dz _, .inl trivial⟩
 ·exact h
theorem Yd {E : Ab} (kp : Bool) {v : V} {u : eu} (h : AA E v u) : AA E (IQ kp v) u := by
 unfold IQ
 cases kp
 ·exact WS h
 ·exact h
theorem K9 {E : Ab} {kp : Bool} : ∀ {vs : List V} {us : List eu}, AM E vs us → AM E (vs.map (IQ kp)) us
 | [], us, h => h
 | v :: vs, us, h => by
  simp only [AM, gq] at h ⊢
  obtain ⟨u, tn, h1, h2, h3⟩ := h
  exact ⟨u, tn, h1, Yd kp h2, K9 h3⟩
theorem WN (hs : D1 c E S a) {t : ea} {n m : ed} {N M v : V} {H' : A5} (ho : o.op = .makeSlice t n m) (hn : ev S.T n = some N) (hm : ev S.T m = some M) {kp : Bool} (h : K5 c.P kp t S.H N M = some (v, H')) : GA c E a o v H' := by
 have r1 := BB hs n _ hn
 have r2 := BB hs m _ hm
 unfold K5 at h
 split at h
 case h_2 => cases h
 rename_i k l
 simp only [dj] at h
 obtain ⟨e, he, sz, tu, by_, vd, z, hz, h⟩ := h
 split at h
 case isFalse => cases h
 rename_i hc
 obtain ⟨rfl, h0, hb, ug, zn⟩ := hc
 simp only [an, dk] at h
 obtain ⟨rfl, rfl⟩ := h
 simp only [AA] at r1 r2
 obtain ⟨i, x, vv, h1, h2, h3, rfl⟩ := IX hz
 obtain ⟨i', zm, vw⟩ := Hr tu
 rw [h1] at zm
 simp only [an] at zm
 subst zm
 have yt : i.bytes = by_ := by unfold C3 at vd; rw [h1] at vd; simpa using vd
 subst yt vw
 have xp : k * (i.bytes : Int) + k ≤ 70368744177664 := by rw [Int.mul_add, Int.mul_one] at hb; exact hb
 have hb3 : 0 ≤ k * (i.bytes : Int) := Int.mul_nonneg h0 (by omega)
 have ui := run_make (P := c.P) E.w t e i x (C4 he) h1 h2 .i64 .i64 k k h0 (Int.le_refl _) (by rw [Int.mul_comm]; omega) (by omega)
 have hp := Ab.Qx E (E.w.alloc (.cells (madeCells x.cells (k.toNat * i.size)) e)) (.cells i.size (gf k.toNat (vv.cellsOf.map (IQ kp))).flatten) (c := madeCells x.cells (k.toNat * i.size)) (t := e) rfl rfl rfl rfl (by rw [hs.n, hs.H])
 have hmr := MW (E := E) (K9 (kp := kp) (GI E h3)) (by rw [ja, ug]; exact zn) k.toNat
 rw [ja, ug] at hmr
 obtain ⟨hl, hg⟩ := Bd _ _ hmr
 have hr := hp.rel hs.heap (fun wg cs e => by
  simp only [Bv.cells.injEq] at e
  obtain ⟨rfl, rfl⟩ := e
  exact ⟨by rw [hl]; simp, fun i v hv => by simpa using hg i v hv⟩) (fun l n sz e => by cases e)
 refine ⟨_, hp.after hs hr, .inl ⟨.slice (some ⟨E.w.heap.size, 0, none⟩) k.toNat k.toNat, ?_, ?_⟩⟩
 ·simp only [execOp, ho, r1, r2, ui, Sem.run_bind, Result.andThen_ok, Sem.run_pure]; rfl
 ·simp only [AA]
  rw [hp.n, hs.n, hp.Ce, hs.H]
  refine ⟨by omega, ⟨k.toNat, by rw [ru rfl], dz _⟩, fun l n z => ?_⟩
  rw [hp.Bu, hs.H, ru rfl]
  simp
end
structure Fu (E E' : Ab) (c : Array eu) (t : ea) : Prop where
 heap : E'.w.heap = E.w.heap.push (.cells c t (0, 0))
 os : E'.w.os = E.w.os
 tape : E'.w.tape = E.w.tape
 output : E'.w.output = E.w.output
 Ce : E'.φ = E.φ
 H : E'.H = E.H
 lk : E'.lk = E.lk
 nn : E'.n = E.n
 mm : E'.m = E.m
 Bl : ∀ g, g ∈ E'.Bl ↔ g ∈ E.Bl ∨ (g ∈ E'.Bl ∧ g = E.w.heap.size)
theorem Fu.Cr {E E' : Ab} {c : Array eu} {t : ea} (h : Fu E E' c t) (g : Nat) : E'.w.heap[g]? = if g = E.w.heap.size then some (.cells c t (0, 0)) else E.w.heap[g]? := by
 rw [h.heap, lb]
theorem Fu.Cz {E E' : Ab} {c : Array eu} {t : ea} (h : Fu E E' c t) : GJ E E' where
 lk := h.lk
 os := h.os
 tape := h.tape
 output := h.output
 size := by rw [h.heap]; simp
 len := by rw [h.nn]; exact dz _
 mm := h.mm
 cell := by
  intro g i u hc _
  have hg := HO hc
  simp only [World.cell?, h.Cr g] at hc ⊢
  rw [rr (by simp at hg; omega)]
  exact hc
 block := by
  intro g hg _
  rw [h.Cr g, rr (by omega)]
 mono := by
  intro lv g i _ hu
  rcases hu with hu | hu
  ·rcases (h.Bl g).1 hu with hu | ⟨_, rfl⟩
   ·exact .inl (.inl hu)
   ·exact .inr (dz _)
  cases lv with
  | some lv =>
   obtain ⟨b, h1, h2, h3⟩ := hu
   rw [h.lk] at h2
   rw [h.H] at h3
   rw [h.Ce] at h1
   exact .inl (.inr ⟨b, h1, h2, h3⟩)
  | none =>
   obtain ⟨b, h1, h3⟩ := hu
   rw [h.H] at h3
   rw [h.Ce] at h1
   exact .inl (.inr ⟨b, h1, h3⟩)
 Ce := fun b _ hn => ⟨by rw [h.Ce], by rw [h.H]; exact hn⟩
 cells := fun b _ hn => by rw [h.H]; exact hn
 Bt := by
  intro b l n' wg _ hB
  rw [h.H] at hB
  refine ⟨n', hB, dz _, fun _ => ⟨by rw [h.Ce], fun c' t' hc => ⟨c', ?_, rfl⟩⟩⟩
  rw [h.Cr]
  split
  ·have := ef.1 hc |>.1
   omega
  ·exact hc
 fresh := fun b hl => .inl ⟨by rw [h.Ce], by rw [h.H] at hl; exact hl⟩
 Bl := fun g hg => (h.Bl g).2 (.inl hg)
 Ix := fun g hg => (h.Bl g).1 hg |>.imp id fun e => by rw [e.2]; exact dz _
 I8 := fun g _ hl => by rw [h.Cr g, rr (by omega)]
theorem Fu.rel {E E' : Ab} {c : Array eu} {t : ea} (h : Fu E E' c t) (hh : Ch E) : Ch E' where
 cells := by
  intro b sz cs hB
  rw [h.H] at hB
  obtain ⟨c', t', h1, h2, h3⟩ := hh.cells b sz cs hB
  rw [h.Ce, h.Cr, rr (by have := ef.1 h1 |>.1; omega)]
  exact ⟨c', t', h1, h2, fun i v hv => let ⟨u, h4, h5⟩ := h3 i v hv; ⟨u, h4, h.Cz.rep hh v u h5⟩⟩
 dm := by rw [h.mm, h.lk]; exact hh.dm
 lvl := by
  intro b l n sz hB
  rw [h.H] at hB
  rw [h.lk]
  exact hh.lvl b l n sz hB
 Bt := by
  intro b l n sz hB
  rw [h.H] at hB
  obtain ⟨c', t', h1, h2⟩ := hh.Bt b l n sz hB
  rw [h.Ce, h.Cr, rr (by have := ef.1 h1 |>.1; omega)]
  exact ⟨c', t', h1, h2⟩
 maps := by
  intro b BC hB
  rw [h.H] at hB
  obtain ⟨h1, h2⟩ := hh.maps b BC hB
  rw [h.Ce, h.Cr, rr (by have := ef.1 h1 |>.1; omega)]
  exact ⟨h1, h2⟩
 inj := by
  intro b b' h1 h2 he
  rw [h.H] at h1 h2
  rw [h.Ce] at he
  exact hh.inj b b' h1 h2 he
 Bl := fun g hg => by
  rw [h.heap, mz, h.Ce, h.H]
  rcases (h.Bl g).1 hg with hg | ⟨_, rfl⟩
  ·have := (hh.Bl g hg).1
   exact ⟨by omega, (hh.Bl g hg).2⟩
  ·exact ⟨by omega, fun b hl e => by have := FO hh hl; omega⟩
theorem Fu.DN {E E' : Ab} {c : Array eu} {t : ea} (h : Fu E E' c t) {base nb d : Nat} (va : nb ≤ E.n) (hd : d ≤ E.m) (hf : Dc E base nb d) (hh : Ch E) : Dc E' base nb d := by
 intro b sz cs sd hB c' t' hc i v u hv hu
 rw [h.H] at hB
 rw [h.Ce, h.Cr] at hc
 split at hc
 ·have := FO hh (b := b) (by rw [hB]; trivial)
  omega
 ·exact (h.Cz.shrink hh va hd).rep v u (hf b sz cs sd hB c' t' hc i v u hv hu)
theorem Fu.r8 {E E' : Ab} {c : Array eu} {t : ea} (h : Fu E E' c t) (hh : Ch E) (hn : E.w.heap.size ∉ E'.Bl) (lv : Option Nat) (i : Nat) : ¬ E'.U lv E.w.heap.size i := by
 intro hu
 rcases Sb hu with hu | ⟨b, h1, hl⟩
 ·exact hn hu
 rw [h.Ce] at h1
 rw [h.H] at hl
 have := FO hh hl
 omega
section
variable {c : Cx} {E : Ab} {S : St} {a : Act} {o : fc}
theorem Fu.after (hs : D1 c E S a) {E1 E' : Ab} {H1 : A5} {cs : Array eu} {t : ea} (h0 : B9 c E E1 H1) (h : Fu E1 E' cs t) : B9 c E E' H1 where
 H := by rw [h.H, h0.H]
 n := by rw [h.nn, h0.n]
 m := h.mm.trans h0.m
 Cz := h0.Cz.trans h.Cz
 heap := h.rel h0.heap
 I7 := fun hg base nb d hb hn hd hf => h.DN (fg hn h0.Cz.len) (by rw [h0.m]; exact hd) (h0.I7 hg base nb d hb hn hd hf) h0.heap
 Ib := fun hg base d hb hd hf => (h.DN (dz _) (by rw [h0.m]; exact hd) (h0.Ib hg base d hb hd hf) h0.heap).up h.Cz.len
 kept := h0.kept
theorem IK (hs : D1 c E S a) {E1 : Ab} {H1 : A5} (h0 : B9 c E E1 H1) {k : Nat} {v v' : V} {H' : A5} (h : AV c.base k H1 v = some (v', H')) :
  B9 c E (E1.heap H') H' ∧ GJ E1 (E1.heap H') ∧ (∀ u, AA E1 v u → AA ((E1.heap H').shrink 0 0) v' u) ∧ H'.length = H1.length := by
 have hg := Hp c.base k E1 v v' H' (by rw [h0.H]; exact h) h0.heap
 obtain ⟨e, r, p⟩ := hg
 have hlen := Gx c.base k H1 v v' H' h
 have hrf : ∀ base nb d, nb ≤ E1.n → d ≤ E1.m → Dc E1 base nb d → Dc (E1.heap H') base nb d := by
  intro base nb d va hd hf b sz cs sd hB c' t hc i x u hv hu
  have tg := QH c.base k H1 v v' H' h b sz cs hB
  rw [← h0.H] at tg
  exact (e.shrink h0.heap va hd).rep x u (hf b sz cs sd tg c' t hc i x u hv hu)
 refine ⟨⟨rfl, ?_, h0.m, h0.Cz.trans e, r, fun hg base nb d hb hn hd hf => hrf base nb d (fg hn h0.Cz.len) (by rw [h0.m]; exact hd) (h0.I7 hg base nb d hb hn hd hf), fun hg base d hb hd hf => hrf base E1.n d (dz _) (by rw [h0.m]; exact hd) (h0.Ib hg base d hb hd hf), fun b hb hl => (KQ c.base k H1 v v' H' h b hb).trans (h0.kept b hb hl)⟩, e, p, hlen⟩
 show E1.n = _; rw [h0.n, hlen]
theorem HQ (hs : D1 c E S a) : ∀ (ps : List (Nat × V)) (E1 : Ab) (H1 : A5) (wu : List (Nat × V)) (H' : A5), B9 c E E1 H1 → E1.w = E.w → Cd c H1 ps = some (wu, H') →
  ∃ E', B9 c E E' H' ∧ E'.w = E.w ∧ GJ E1 E' ∧ ∀ us, Jj E1 ps us → Jj E' wu us
 | [], E1, H1, wu, H', h0, hw, h => by
  simp only [Cd, an, dk] at h
  obtain ⟨rfl, rfl⟩ := h
  exact ⟨E1, h0, hw, GJ.refl _, fun us r => r⟩
 | (i, v) :: ps, E1, H1, wu, H', h0, hw, h => by
  simp only [Cd, dj, dn, Prod.exists, dk] at h
  obtain ⟨v1, H2, hv, ps2, H3, h2, rfl, rfl⟩ := h
  have stay : (v1, H2) = (v, H1) → ∃ E', B9 c E E' H3 ∧ E'.w = E.w ∧ GJ E1 E' ∧ ∀ us, Jj E1 ((i, v) :: ps) us → Jj E' ((i, v1) :: ps2) us := by
   intro e
   simp only [dk] at e
   obtain ⟨rfl, rfl⟩ := e
   obtain ⟨E', k1, k2, k3, k4⟩ := HQ hs ps E1 H2 ps2 H3 h0 hw h2
   refine ⟨E', k1, k2, k3, fun us r => ?_⟩
   simp only [Jj] at r ⊢
   obtain ⟨u, tn, r1, r2, r3⟩ := r
   exact ⟨u, tn, r1, k3.rep h0.heap v1 u r2, k4 tn r3⟩
  have gv : AV c.base Ba H1 v = some (v1, H2) → ∃ E', B9 c E E' H3 ∧ E'.w = E.w ∧ GJ E1 E' ∧ ∀ us, Jj E1 ((i, v) :: ps) us → Jj E' ((i, v1) :: ps2) us := by
   intro hv
   obtain ⟨g1, g2, g3, g4⟩ := IK hs h0 hv
   obtain ⟨E', k1, k2, k3, k4⟩ := HQ hs ps (E1.heap H2) H2 ps2 H3 g1 hw h2
   refine ⟨E', k1, k2, g2.trans k3, fun us r => ?_⟩
   simp only [Jj] at r ⊢
   obtain ⟨u, tn, r1, r2, r3⟩ := r
   refine ⟨u, tn, r1, k3.rep g1.heap _ _ ?_, k4 tn (g2.rQ h0.heap _ _ r3)⟩
   exact (Ca.grow (E1.heap H2) (ga _) (ga _)).rep _ _ (g3 u r2)
  unfold Fb at hv
  split at hv
  ·simp only [an] at hv
   exact stay hv.symm
  split at hv
  ·split at hv
   ·simp only [an] at hv
    exact stay hv.symm
   ·split at hv
    ·exact gv hv
    ·cases hv
  ·exact gv hv
def Ab.nN (E : Ab) (w : je) : Ab := { E with w := w }
theorem Ab.Yt (E : Ab) (w : je) {c : Array eu} {t : ea} (h1 : w.heap = E.w.heap.push (.cells c t (0, 0))) (h2 : w.os = E.w.os) (h3 : w.tape = E.w.tape) (h4 : w.output = E.w.output) : Fu E (E.nN w) c t where
 heap := h1
 os := h2
 tape := h3
 output := h4
 Ce := rfl
 H := rfl
 lk := rfl
 nn := rfl
 mm := rfl
 Bl := fun g => ⟨.inl, fun h => h.elim id (·.1)⟩
theorem KC {E' : Ab} {lv : Option Nat} {g : Nat} {arr : Array eu} {t : ea} {cs : List V} (hw : E'.w.heap[g]? = some (.cells arr t (0, 0))) (hr : AM E' cs (arr.toList.take cs.length)) (hu : ∀ i, i < cs.length → ¬ E'.U lv g i) : CR E' lv g 0 cs := by
 refine G6 _ _ fun i v hi => ?_
 obtain ⟨_, hg⟩ := Bd _ _ hr
 obtain ⟨u, h1, h2⟩ := hg i v hi
 have wz : i < cs.length := by
  rcases fp i cs.length with h | h
  ·exact h
  ·rw [en h] at hi; cases hi
 refine ⟨u, ?_, h2, by rw [kb]; exact hu i wz⟩
 rw [cell_of_row _ _ _ _ _ _ hw, kb]
 rw [jg wz, jf] at h1
 exact h1
theorem N8 (hs : D1 c E S a) {t e : ea} {n sz : Nat} {parts : Array (Nat × ed)} {ps wu : List (Nat × V)} {H' : A5} {z cs : List V} (ho : o.op = .buildSlice t n parts) (hp : Sp S.T parts.toList = some ps) (hem : Cd c S.H ps = some (wu, H'))
  (he : B0 c.P t = some e) (tu : B3 c.P e = some sz) (hz : BH c.P e = some z) (ug : z.length = sz) (zn : sz ≠ 0) (hsm : n * sz ≤ 1048576) (h : Eo (fun i => some (i * sz, sz)) (gf n z).flatten wu = some cs) :
  GA c E a o (.tl n cs) H' := by
 obtain ⟨E1, k1, k2, k3, k4⟩ := HQ hs ps E S.H wu H' (B9.refl hs) rfl hem
 have hparts := k4 _ (Oe hs _ _ hp)
 obtain ⟨i, x, vv, h1, h2, h3, rfl⟩ := IX hz
 obtain ⟨i', zm, vw⟩ := Hr tu
 rw [h1] at zm
 simp only [an] at zm
 subst zm
 subst vw
 have hmr := MW (E := E1) (GI E1 h3) (by rw [ug]; exact zn) n
 rw [ug] at hmr
 obtain ⟨arr, f1, f2⟩ := JI _ wu _ _ _ cs h hparts hmr
 have hplen : cs.length = n * i.size := by
  have := Ij _ wu _ cs h
  rw [this, IJ, ug]
 obtain ⟨hl, _⟩ := Bd _ _ f2
 have ui : (Instr.buildSlice t n (parts.map fun (i, x) => (i, a.eval x))).run c.P E.w = .ok (.slice (some ⟨E.w.heap.size, 0, none⟩) n n) (E.w.alloc (.cells arr e)) := by
  by_cases hn : n = 0
  ·subst hn
   have : arr = #[] := by
    have h0 : arr.size = 0 := by rw [← ld, ← hl, hplen, pd]
    exact nz h0
   subst this
   have yu : Instr.fill (fun i_1 => some (i_1 * i.size, i.size)) #[] (parts.map fun (i, x) => (i, a.eval x)).toList = some #[] := by
    have : madeCells x.cells (0 * i.size) = #[] := by simp [madeCells, mo]
    rw [this] at f1
    rw [← f1]
    congr 1
    simp
   have hfz' : Instr.fill (fun i_1 => some (i_1 * i.size, i.size)) #[] (parts.toList.map fun x => (x.fst, a.eval x.snd)) = some #[] := by simpa using yu
   simp [Instr.buildSlice, run_underlying (C4 he), sizeOf, typeInfo, h1, newRow, mo, hfz']
  ·refine run_buildSlice E.w t e n _ arr i x (C4 he) h1 h2 (by omega) (by intro e0; rcases qp.1 e0 with h | h <;> omega) ?_
   have : (parts.map fun (i, x) => (i, a.eval x)).toList = parts.toList.map fun p => (p.1, a.eval p.2) := by simp
   rw [this]
   exact f1
 have yw := Ab.Yt E1 (E.w.alloc (.cells arr e)) (c := arr) (t := e) (by rw [k2]; rfl) (by rw [k2]; rfl) (by rw [k2]; rfl) (by rw [k2]; rfl)
 refine ⟨_, Fu.after hs k1 yw, .inl ⟨.slice (some ⟨E.w.heap.size, 0, none⟩) n n, ?_, ?_⟩⟩
 ·simp only [execOp, ho, Sem.run_bind, ui, Result.andThen_ok, Sem.run_pure]; rfl
 ·simp only [AA]
  refine ⟨_, rfl, .inr ⟨_, _, rfl, KC (arr := arr) (t := e) ?_ ?_ fun i _ => ?_⟩⟩
  ·rw [yw.Cr, ← k2, ru rfl]
  ·rw [jy (by rw [hl]; exact dz _)]
   exact yw.Cz.Hz k1.heap _ _ f2
  ·rw [← k2]; exact yw.r8 k1.heap (fun e => absurd (k1.heap.Bl _ e).1 (lq _)) (some 0) i
theorem JB (hh : Ch E) {sz n : Nat} {x : V} {u : eu} {xs : List V} (hr : AA E x u) (hn : D4 x = some n) (hx : Hl E.H sz x = some xs) (hl : xs.length = n * sz) :
  ∃ A cap, u = .slice A n cap ∧ ∃ us : List eu, AM E xs us ∧ us.length = n * sz ∧ (n = 0 ∨ ∃ ad : Addr, A = some ad ∧ ∀ (j : Nat) v, us[j]? = some v → E.w.cell? (ad.add j) = some v) := by
 have row : ∀ {lv : Option Nat} {cs : List V} {A : Option Addr} {cap : Nat}, u = .slice A n cap → xs = cs → (n = 0 ∨ ∃ g o, A = some ⟨g, o, none⟩ ∧ CR E lv g o cs) →
   ∃ A cap, u = .slice A n cap ∧ ∃ us : List eu, AM E xs us ∧ us.length = n * sz ∧ (n = 0 ∨ ∃ ad : Addr, A = some ad ∧ ∀ (j : Nat) v, us[j]? = some v → E.w.cell? (ad.add j) = some v) := by
  intro lv cs A cap hu hxs hA
  subst hxs
  rcases hA with h0 | ⟨g, o, rfl, hrl⟩
  ·subst h0
   have : xs = [] := ff (by simpa using hl)
   subst this
   exact ⟨A, cap, hu, [], by simp only [AM], by simp, .inl rfl⟩
  ·refine ⟨_, cap, hu, (gj xs.length).map fun i => (E.w.cell? ⟨g, o + i, none⟩).getD undef, Da fun i v hi => let ⟨u, a1, a2, _⟩ := CI _ _ hrl i v hi; ⟨u, a1, a2⟩, by simp [hl], .inr ⟨_, rfl, fun j v hj => ?_⟩⟩
   have hjl : j < xs.length := by
    rcases fp j xs.length with h | h
    ·exact h
    ·rw [en (by simp only [ja, lh]; exact h)] at hj; cases hj
   simp only [ic, jl hjl, dq, an] at hj
   obtain ⟨u', a1, _, _⟩ := CI _ _ hrl j _ (dr hjl)
   rw [a1] at hj
   simp only [ji] at hj
   subst hj
   rw [Addr.add_lit]
   exact a1
 unfold Hl at hx
 unfold D4 at hn
 cases x with
 | lit lv len cs =>
  simp only [an] at hx hn
  subst hx hn
  simp only [AA] at hr
  obtain ⟨_, A, cap, hu, _, hA⟩ := hr
  exact row hu rfl hA
 | tl len cs =>
  simp only [an] at hx hn
  subst hx hn
  simp only [AA] at hr
  obtain ⟨A, hu, hA⟩ := hr
  exact row hu rfl hA
 | snap b len cs =>
  simp only [an] at hx hn
  subst hx hn
  simp only [AA] at hr
  obtain ⟨_, ⟨A, cap, hu, _, ⟨g, o, hA, _, hA2⟩, _⟩, _⟩ := hr
  exact row hu rfl (.inr ⟨g, o, hA, hA2⟩)
 | pre b m0 len cs =>
  simp only [an] at hx hn
  subst hx hn
  simp only [AA] at hr
  obtain ⟨_, ⟨A, cap, hu, _, ⟨g, o, hA, _, hA2⟩, _⟩, _⟩ := hr
  exact row hu rfl (.inr ⟨g, o, hA, hA2⟩)
 | sl b off len =>
  simp only [an] at hn
  subst hn
  dsimp only at hx
  split at hx
  case h_2 => cases hx
  rename_i z cs hb
  split at hx
  case isFalse => cases hx
  rename_i hc
  simp only [an] at hx
  simp only [AA] at hr
  obtain ⟨_, ⟨cap, hu, _⟩, _⟩ := hr
  obtain ⟨c0, t, q1, q2, q3⟩ := hh.cells b z cs hb
  have hex : ∀ (i : Nat) v, xs[i]? = some v → ∃ u, E.w.cell? ⟨E.φ b, off + i, none⟩ = some u ∧ AA E v u := by
   intro i v hi
   rw [← hx, gm] at hi
   split at hi
   ·rw [jd] at hi
    obtain ⟨u, k1, k2⟩ := q3 _ v hi
    exact ⟨u, by rw [cell_of_row _ _ _ _ _ _ q1]; exact k1, k2⟩
   ·cases hi
  refine ⟨_, cap, hu, (gj xs.length).map fun i => (E.w.cell? ⟨E.φ b, off + i, none⟩).getD undef, Da hex, by simp [hl], .inr ⟨_, rfl, fun j v hj => ?_⟩⟩
  have hjl : j < xs.length := by
   rcases fp j xs.length with h | h
   ·exact h
   ·rw [en (by simp only [ja, lh]; exact h)] at hj; cases hj
  simp only [ic, jl hjl, dq, an] at hj
  obtain ⟨u', a1, _⟩ := hex j _ (dr hjl)
  rw [a1] at hj
  simp only [ji] at hj
  subst hj
  rw [Addr.add_lit]
  exact a1
 | _ => simp at hn
theorem NK {P : ep} (w : je) (t ty e ty2 t0 : ea) (i : TypeInfo) (ht : P.underlying t = some (.slice e)) {e2 : ea} (ht2 : P.underlying ty2 = some (.slice e2)) (hi : P.info? e = some i)
  (g sLen sCap : Nat) (cur : Array eu) (hg : w.heap[g]? = some (.cells cur t0 (0, 0)))
  (a : Addr) (m c : Nat) (news : List eu) (hl : news.length = m * i.size) (hnews : ∀ (j : Nat) u, news[j]? = some u → w.cell? (a.add j) = some u) (h1 : ∀ u ∈ news, u.oneCell' = true)
  (tb : sLen + m ≤ sCap) (wh : sLen * i.size + news.length ≤ cur.size) :
  (Builtin.append_ #[t, ty2] ty #[.slice (some ⟨g, 0, none⟩) sLen sCap, .slice (some a) m c]).run P w =
   .ok (.slice (some ⟨g, 0, none⟩) (sLen + m) sCap) (w.setRow g (cur.toList.take (sLen * i.size) ++ news ++ cur.toList.drop (sLen * i.size + news.length)).toArray) := by
 have hf := run_firstCells_some (P := P) w i.size m a m c news hl hnews
 have wi := run_storeCells_at P g (sLen * i.size) t0 news 0 cur w hg (by simpa using wh) h1
 simp only [nr] at wi
 simp [Builtin.append_, run_underlying ht, run_underlying ht2, sizeOf, typeInfo, hi, Builtin.lenOf, tb, hf, Addr.add_lit, wi]
theorem NJ {P : ep} (w : je) (t ty e ty2 : ea) (i : TypeInfo) (ht : P.underlying t = some (.slice e)) {e2 : ea} (ht2 : P.underlying ty2 = some (.slice e2)) (hi : P.info? e = some i)
  (base x : Option Addr) (sLen sCap c : Nat) (tb : sLen ≤ sCap) :
  (Builtin.append_ #[t, ty2] ty #[.slice base sLen sCap, .slice x 0 c]).run P w = .ok (.slice base sLen sCap) w := by
 cases base <;> cases x <;> simp [Builtin.append_, run_underlying ht, run_underlying ht2, sizeOf, typeInfo, hi, Builtin.lenOf, tb, Builtin.firstCells, loadCells, loadCellsFrom, storeCells]
theorem J6 {P : ep} (w : je) (t ty e ty2 : ea) (i : TypeInfo) (z : eu) (ht : P.underlying t = some (.slice e)) {e2 : ea} (ht2 : P.underlying ty2 = some (.slice e2)) (hi : P.info? e = some i) (hz : i.zero = some z)
  (b : Option Addr) (sLen sCap : Nat) (olds : List eu) (hlo : olds.length = sLen * i.size) (holds : sLen = 0 ∨ ∃ ad : Addr, b = some ad ∧ ∀ (j : Nat) v, olds[j]? = some v → w.cell? (ad.add j) = some v)
  (a : Addr) (n c : Nat) (news : List eu) (hl : news.length = n * i.size) (hnews : ∀ (j : Nat) v, news[j]? = some v → w.cell? (a.add j) = some v)
  (hg : sCap < sLen + n) (h63 : ((sLen + n : Nat) : Int) ≤ 9223372036854775807) (wh : Builtin.nextslicecap (sLen + n) sCap * i.bytes ≤ 281474976710656) :
  (Builtin.append_ #[t, ty2] ty #[.slice b sLen sCap, .slice (some a) n c]).run P w =
   .ok (.slice (some ⟨w.heap.size, 0, none⟩) (sLen + n) (grownCap w (sLen + n) sCap e))
    (w.drew.alloc (.cells (olds.toArray ++ news.toArray ++ Builtin.zeroCells z.cells (grownCap w (sLen + n) sCap e - (sLen + n))) e)) := by
 have hn : ¬ (sLen + n ≤ sCap) := by omega
 have h63' : ¬ (9223372036854775807 < ((sLen : Int) + (n : Int))) := by omega
 have h48' : ¬ (281474976710656 < Builtin.nextslicecap (sLen + n) sCap * i.bytes) := by omega
 have hf := run_firstCells_some (P := P) w.drew i.size n a n c news hl (by simpa using hnews)
 have hfo : (Builtin.firstCells i.size sLen (.slice b sLen sCap)).run P w.drew = .ok olds.toArray w.drew := by
  rcases holds with h0 | ⟨ad, rfl, hh⟩
  ·subst h0
   have : olds = [] := ff (by simpa using hlo)
   subst this
   cases b <;> simp [Builtin.firstCells, loadCells, loadCellsFrom]
  ·exact run_firstCells_some (P := P) w.drew i.size sLen ad sLen sCap olds hlo (by simpa using hh)
 simp [Builtin.append_, run_underlying ht, run_underlying ht2, sizeOf, typeInfo, zeroValue, hi, hz, Builtin.lenOf, hn, h63', h48', Question.forced, hf, hfo, newRow, grownCap]
 congr 2
 apply mf
 simp
theorem EU {E : Ab} : ∀ {xs ys : List V} {us vs : List eu}, AM E xs us → AM E ys vs → AM E (xs ++ ys) (us ++ vs)
 | [], ys, us, vs, h, k => by simp only [AM] at h; subst h; simpa using k
 | x :: xs, ys, us, vs, h, k => by
  simp only [AM, ie] at h ⊢
  obtain ⟨u, tn, rfl, h1, h2⟩ := h
  exact ⟨u, tn ++ vs, rfl, h1, EU h2 k⟩
theorem LO {E : Ab} {xs : List V} {us vs : List eu} (h : AM E xs us) (hv : vs.take xs.length = us) : AM E xs (vs.take xs.length) := by rw [hv]; exact h
theorem jD {E : Ab} {xs : List V} {us : List eu} (h : AM E xs us) (hc : xs.all V.Bm = true) : ∀ u ∈ us, u.oneCell' = true := by
 intro u hu
 obtain ⟨i, hi⟩ := po hu
 obtain ⟨hl, hg⟩ := Bd _ _ h
 have wz : i < xs.length := by rw [hl]; exact (du.1 hi).1
 obtain ⟨u', h1, h2⟩ := hg i _ (dr wz)
 rw [hi] at h1
 simp only [an] at h1
 subst h1
 rw [gb] at hc
 exact No h2 (hc _ (gl wz))
theorem Tv {E' : Ab} {H' : A5} (h : B9 c E E' H') {g : Nat} : E'.P2 g := by
 intro b hb hl
 rw [h.H, en (by rw [← h.n]; exact hb)] at hl
 exact hl.elim
theorem X0 {E' : Ab} {H' : A5} (h : E'.H = H') (hn : E'.n = H'.length) {g : Nat} : E'.P2 g := by
 intro b hb hl
 rw [h, en (by rw [← hn]; exact hb)] at hl
 exact hl.elim
theorem MY (hs : D1 c E S a) {t e : ea} {n sz : Nat} {parts : Array (Nat × ed)} {ps wu : List (Nat × V)} {H' : A5} {z cs : List V} (ho : o.op = .buildSlice t n parts) (hp : Sp S.T parts.toList = some ps) (hem : Cd c S.H ps = some (wu, H'))
  (he : B0 c.P t = some e) (tu : B3 c.P e = some sz) (hz : BH c.P e = some z) (ug : z.length = sz) (zn : sz ≠ 0) (hsm : n * sz ≤ 1048576) (hn0 : n ≠ 0) (h : Eo (fun i => some (i * sz, sz)) (gf n z).flatten wu = some cs) :
  GA c E a o (.snap H'.length n cs) (H' ++ [.Bt c.d n sz]) := by
 obtain ⟨E1, k1, k2, k3, k4⟩ := HQ hs ps E S.H wu H' (B9.refl hs) rfl hem
 have hparts := k4 _ (Oe hs _ _ hp)
 obtain ⟨i, x, vv, h1, h2, h3, rfl⟩ := IX hz
 obtain ⟨i', zm, vw⟩ := Hr tu
 rw [h1] at zm
 simp only [an] at zm
 subst zm
 subst vw
 have hmr := MW (E := E1) (GI E1 h3) (by rw [ug]; exact zn) n
 rw [ug] at hmr
 obtain ⟨arr, f1, f2⟩ := JI _ wu _ _ _ cs h hparts hmr
 have hplen : cs.length = n * i.size := by
  have := Ij _ wu _ cs h
  rw [this, IJ, ug]
 obtain ⟨hl, _⟩ := Bd _ _ f2
 have ui : (Instr.buildSlice t n (parts.map fun (i, x) => (i, a.eval x))).run c.P E.w = .ok (.slice (some ⟨E.w.heap.size, 0, none⟩) n n) (E.w.alloc (.cells arr e)) := by
  by_cases hn : n = 0
  ·subst hn
   have : arr = #[] := by
    have h0 : arr.size = 0 := by rw [← ld, ← hl, hplen, pd]
    exact nz h0
   subst this
   have yu : Instr.fill (fun i_1 => some (i_1 * i.size, i.size)) #[] (parts.map fun (i, x) => (i, a.eval x)).toList = some #[] := by
    have : madeCells x.cells (0 * i.size) = #[] := by simp [madeCells, mo]
    rw [this] at f1
    rw [← f1]
    congr 1
    simp
   have hfz' : Instr.fill (fun i_1 => some (i_1 * i.size, i.size)) #[] (parts.toList.map fun x => (x.fst, a.eval x.snd)) = some #[] := by simpa using yu
   simp [Instr.buildSlice, run_underlying (C4 he), sizeOf, typeInfo, h1, newRow, mo, hfz']
  ·refine run_buildSlice E.w t e n _ arr i x (C4 he) h1 h2 (by omega) (by intro e0; rcases qp.1 e0 with h | h <;> omega) ?_
   have : (parts.map fun (i, x) => (i, a.eval x)).toList = parts.toList.map fun p => (p.1, a.eval p.2) := by simp
   rw [this]
   exact f1
 have hp := Ab.Qx E1 (E1.w.alloc (.cells arr e)) (.Bt c.d n i.size) (c := arr) (t := e) rfl rfl rfl rfl (by rw [k1.n, k1.H])
 have has : arr.size = n * i.size := by rw [← ld, ← hl, hplen]
 have hr := hp.rel k1.heap (fun wg cs e => by cases e) (fun q k z e => by
  simp only [Bv.Bt.injEq] at e
  obtain ⟨rfl, rfl, rfl⟩ := e
  rw [has]
  exact ⟨dz _, by rw [k1.Cz.lk, hs.lk]; exact dz _⟩)
 refine ⟨_, hp.ZG hs k1 hr, .inl ⟨.slice (some ⟨E.w.heap.size, 0, none⟩) n n, ?_, ?_⟩⟩
 ·simp only [execOp, ho, Sem.run_bind, ui, Result.andThen_ok, Sem.run_pure]; rw [k2]; rfl
 ·simp only [AA]
  have hgetH := hp.Bu
  refine ⟨by rw [hp.n, k1.n]; omega, ⟨_, _, rfl, dz _, ⟨_, _, rfl, fun _ => Tv (hp.ZG hs k1 hr), KC (arr := arr) (t := e) (by rw [hp.Cr, ← k2, ru rfl]) ?_ fun j hj => ?_⟩, fun q k z hk => ?_⟩, fun z q hk => ?_⟩
  ·rw [jy (by rw [hl]; exact dz _)]
   exact hp.Cz.Hz k1.heap _ _ f2
  ·rintro (hu | ⟨b, p1, p3⟩)
   ·exact absurd (k1.heap.Bl _ hu).1 (by rw [k2]; exact lq _)
   rw [hp.Ce] at p1
   rw [hp.Bu] at p3
   by_cases hb : b = E1.H.length
   ·rw [ru hb] at p3
    simp only at p3
    rw [hplen] at hj
    omega
   ·rw [rr hb] at p1 p3
    have hl : live E1.H[b]? := by
     split at p3
     ·rename_i he; rw [he]; trivial
     ·rename_i he; rw [he]; trivial
     ·rename_i he; rw [he]; trivial
     ·exact p3.elim
    have := FO k1.heap hl
    rw [k2] at this
    omega
  ·rw [← k1.H, hgetH, ru rfl] at hk
   simp only [an, Bv.Bt.injEq] at hk
   obtain ⟨_, rfl, rfl⟩ := hk
   refine ⟨dz _, fun _ => ⟨by rw [hp.Ce, ← k1.H, ru rfl, k2], _, _, by rw [hp.Ce, ← k1.H, ru rfl, hp.Cr, ru rfl], has.symm⟩⟩
  ·rw [← k1.H, hgetH, ru rfl] at hk
   cases hk
theorem TL (hs : D1 c E S a) {st xt : ea} {args : Array ed} {ats : Array ea} {s x : ed} {sv xv v : V} {H' : A5} (ho : o.op = .call { callee := .builtin .append, args := args, argTypes := ats }) (vu : args.toList = [s, x]) (hats : ats.toList = [st, xt])
    (hsv : ev S.T s = some sv) (hxv : ev S.T x = some xv) (h : ER c st xt S.H sv xv = some (v, H')) : GA c E a o v H' := by
  have hrs := BB hs s _ hsv
  have xj := BB hs x _ hxv
  have xq : args = #[s, x] := by apply mf; simpa using vu
  have ha2 : ats = #[st, xt] := by apply mf; simpa using hats
  subst xq ha2
  unfold ER at h
  simp only [dj] at h
  obtain ⟨e, he, sz, tu, by_, vd, z, hz, h⟩ := h
  split at h
  case isFalse => cases h
  rename_i hc
  obtain ⟨hxt, zn, ug⟩ := hc
  obtain ⟨e2, he2⟩ := Option.isSome_iff_exists.1 hxt
  simp only [dj] at h
  obtain ⟨n, hn, xs, hxs, h⟩ := h
  split at h
  case isFalse => cases h
  rename_i hc
  obtain ⟨hxl, hxc⟩ := hc
  obtain ⟨i, zx, zv, h1, h2, h3, rfl⟩ := IX hz
  obtain ⟨i', zm, vw⟩ := Hr tu
  rw [h1] at zm
  simp only [an] at zm
  subst zm
  have yt : i.bytes = by_ := by unfold C3 at vd; rw [h1] at vd; simpa using vd
  subst yt vw
  have hzcell : zx.cells.size = i.size := by
    have := (Bd _ _ (GI E h3)).1
    rw [ug] at this
    rw [this]; simp
  rw [← hs.H] at hxs
  obtain ⟨B, capx, hx, us, hus, hul, hB⟩ := JB hs.heap xj hn hxs hxl
  have hone := jD hus hxc
  have hexec : ∀ {r w'} (_ : (Builtin.append_ #[st, xt] o.type #[a.eval s, a.eval x]).run c.P E.w = .ok r w'), (execOp a.eval o).run c.P E.w = .ok (.value r) w' := by
    intro r w' hr
    simp only [execOp, ho, resolve, Sem.run_bind, Sem.run_pure, Result.andThen_ok, invoke, builtin, lz, gq, jx, hr]
  have hnone : n = 0 → ∀ {A : Option Addr} {m cap : Nat}, a.eval s = .slice A m cap → m ≤ cap → (execOp a.eval o).run c.P E.w = .ok (.value (a.eval s)) E.w := by
    intro h0 A m cap hA hmc
    subst h0
    refine hexec ?_
    rw [hA, hx]
    exact NJ E.w st o.type e xt i (C4 he) (C4 he2) h1 A B m cap capx hmc
  cases sv with
  | tl m cs =>
    dsimp only at h
    have hrs' := hrs
    simp only [AA] at hrs'
    obtain ⟨A, hA, hAr⟩ := hrs'
    split at h
    · rename_i h0
      simp only [an, dk] at h
      obtain ⟨rfl, rfl⟩ := h
      exact ⟨E, B9.refl hs, .inl ⟨_, hnone h0 hA (dz _), hrs⟩⟩
    · rename_i h0
      split at h
      case isFalse => cases h
      rename_i hc
      obtain ⟨td, xg⟩ := hc
      simp only [an, dk] at h
      obtain ⟨rfl, rfl⟩ := h
      have xp : (m + n) * i.bytes + (m + n) ≤ 70368744177664 := by rw [rk, rl] at xg; exact xg
      obtain ⟨A2, cap2, hA2, olds, holds, hol, hoc⟩ := JB (n := m) hs.heap hrs rfl (sz := i.size) (xs := cs) (by simp [Hl]) td
      rw [hA] at hA2
      simp only [Value.slice.injEq] at hA2
      obtain ⟨rfl, _, rfl⟩ := hA2
      rcases hB with hB | ⟨ad, rfl, hB⟩
      · exact absurd hB h0
      have ui := J6 (P := c.P) E.w st o.type e xt i zx (C4 he) (C4 he2) h1 h2 A m m olds hol hoc ad n capx us hul hB (by omega) (by omega) (growslice_fits (by omega) (by omega))
      have hp := Ab.Qx E (E.w.drew.alloc (.cells (olds.toArray ++ us.toArray ++ Builtin.zeroCells zx.cells (grownCap E.w (m + n) m e - (m + n))) e)) (.Bt c.d (m + n) i.size) (c := _) (t := e) rfl rfl rfl rfl (by rw [hs.n, hs.H])
      have hge := grownCap_ge E.w (m + n) m e
      have hcsz : (olds.toArray ++ us.toArray ++ Builtin.zeroCells zx.cells (grownCap E.w (m + n) m e - (m + n))).size = grownCap E.w (m + n) m e * i.size := by
        simp only [py, mu, size_zeroCells, hzcell, hol, hul, ← kq]
        congr 1
        omega
      have hr := hp.rel hs.heap (fun wg cs e => by cases e) (fun q k z e => by
        simp only [Bv.Bt.injEq] at e
        obtain ⟨rfl, rfl, rfl⟩ := e
        rw [hcsz]
        exact ⟨jz _ hge, by rw [hs.lk]; exact dz _⟩)
      refine ⟨_, hp.after hs hr, .inl ⟨_, hexec (by rw [hA, hx]; exact ui), ?_⟩⟩
      simp only [AA]
      have hgetH := hp.Bu
      refine ⟨by rw [hp.n, hs.n]; omega, ⟨_, _, rfl, hge, ⟨_, _, rfl, fun _ => Tv (hp.after hs hr), KC (by rw [hp.Cr, ru rfl]) ?_ fun j hj => ?_⟩, fun q k z hk => ?_⟩, fun z q hk => ?_⟩
      · refine hp.Cz.Hz hs.heap _ _ (LO (EU holds hus) ?_)
        simp only [pq, eo]
        rw [← eo, show (cs ++ xs).length = (olds ++ us).length by simp [hol, hul, td, hxl]]
        exact oe
      · rintro (hu | ⟨b, p1, p3⟩)
        · exact absurd (hs.heap.Bl _ hu).1 (lq _)
        rw [hp.Ce] at p1
        rw [hp.Bu] at p3
        by_cases hb : b = E.H.length
        · rw [ru hb] at p3
          simp only at p3
          rw [show (cs ++ xs).length = (m + n) * i.size by simp [td, hxl, kq]] at hj
          omega
        · rw [rr hb] at p1 p3
          have hl : live E.H[b]? := by
            split at p3
            · rename_i he; rw [he]; trivial
            · rename_i he; rw [he]; trivial
            · rename_i he; rw [he]; trivial
            · exact p3.elim
          have := FO hs.heap hl
          omega
      · rw [← hs.H, hgetH, ru rfl] at hk
        simp only [an, Bv.Bt.injEq] at hk
        obtain ⟨_, rfl, rfl⟩ := hk
        refine ⟨dz _, fun _ => ⟨by rw [hp.Ce, ← hs.H, ru rfl], _, _, by rw [hp.Ce, ← hs.H, ru rfl, hp.Cr, ru rfl], hcsz.symm⟩⟩
      · rw [← hs.H, hgetH, ru rfl] at hk
        cases hk
  | snap b m cs =>
    dsimp only at h
    have hrs' := hrs
    simp only [AA] at hrs'
    obtain ⟨hbn, ⟨A, cap, hA, hmc, hAr, xa⟩, hnc⟩ := hrs'
    split at h
    · rename_i h0
      simp only [an, dk] at h
      obtain ⟨rfl, rfl⟩ := h
      exact ⟨E, B9.refl hs, .inl ⟨_, hnone h0 hA hmc, hrs⟩⟩
    · rename_i h0
      split at h
      case h_2 => cases h
      rename_i l m' wg hb
      split at h
      case isFalse => cases h
      rename_i hc
      obtain ⟨td, xg, rfl, rfl, hmw⟩ := hc
      simp only [an, dk] at h
      obtain ⟨rfl, rfl⟩ := h
      have xp : (m' + n) * i.bytes + (m' + n) ≤ 70368744177664 := by rw [rk, rl] at xg; exact xg
      rw [← hs.H] at hb
      obtain ⟨_, xa⟩ := xa l m' i.size hb
      obtain ⟨hA0, c0, t0, uy, hcsz⟩ := xa rfl
      obtain ⟨A2, cap2, hA2, olds, holds, hol, hoc⟩ := JB (n := m') hs.heap hrs rfl (sz := i.size) (xs := cs) (by simp [Hl]) td
      rw [hA] at hA2
      simp only [Value.slice.injEq] at hA2
      obtain ⟨rfl, _, rfl⟩ := hA2
      rcases hB with hB | ⟨ad, rfl, hB⟩
      · exact absurd hB h0
      have hpos : 0 < n := Nat.pos_of_ne_zero h0
      have uf : AT E.lk b = true := by rw [hs.lk]; exact Il hs.Dv hmw
      have hblt : b < E.H.length := by rw [hs.H, ← hs.n]; exact hbn
      have sd : m' < m' + n := Nat.lt_add_of_pos_right hpos
      have hkept : ∀ x, x < c.base → AT c.lk x = false → (S.H.set b (.Bt l (m' + n) i.size))[x]? = E.H[x]? := by
        intro x hx hl
        rw [AX, rr, hs.H]
        rintro ⟨rfl, _⟩
        rw [hs.lk] at uf
        rw [uf] at hl
        cases hl
      by_cases tb : m' + n ≤ cap
      ·
        have wh : m' * i.size + us.length ≤ c0.size := by rw [hul, ← hcsz, ← kq]; exact jz _ tb
        have ui := NK (P := c.P) E.w st o.type e xt t0 i (C4 he) (C4 he2) h1 (E.φ b) m' cap c0 uy ad n capx us hul hB hone tb wh
        let c' : Array eu := (c0.toList.take (m' * i.size) ++ us ++ c0.toList.drop (m' * i.size + us.length)).toArray
        have ux : ∀ k, c'[k]? = if m' * i.size ≤ k ∧ k < m' * i.size + us.length then us[k - m' * i.size]? else c0[k]? := fun k => Jo c0 us _ wh k
        have hsz' : c'.size = c0.size := by
          simp only [c', mu, dw, gh, ko, ld]
          omega
        have hw : IC E (E.write b c' (.Bt l (m' + n) i.size)) b c0 c' t0 (.Bt l (m' + n) i.size) :=
          { w := rfl, row := uy, size := hsz', Ce := rfl, H := rfl, lk := rfl, n := rfl, m := rfl, Bl := rfl, Nh := fun e => (hs.heap.Bl _ e).2 b (by rw [hb]; trivial) rfl, n0 := by rw [hs.n, hs.H], free := uf
            kind := .inr ⟨l, m', m' + n, i.size, hb, rfl, sd, fun k hk => (ux k).trans (rr (fun e => absurd e.1 (Nat.not_le.2 hk)))⟩ }
        have hr := hw.rel hs.heap (fun z q e => by cases e) (fun q k z e => by
          simp only [Bv.Bt.injEq] at e
          obtain ⟨rfl, rfl, rfl⟩ := e
          rw [hsz', ← hcsz]
          exact jz _ tb)
        have hfor := fun base nb d hn hd hf => hw.DN (base := base) (nb := nb) (d := d) hn hd hf hs.heap (fun z q e => by cases e)
        refine ⟨E.write b c' (.Bt l (m' + n) i.size), ⟨by show E.H.set b _ = _; rw [hs.H], by show E.n = _; rw [hs.n]; simp, rfl, hw.Cz, hr, fun _ base nb d _ hn hd hf => hfor base nb d hn hd hf, fun _ base d _ hd hf => hfor base E.n d (dz _) hd hf, hkept⟩, .inl ⟨_, hexec (by rw [hA, hx, hA0]; exact ui), ?_⟩⟩
        simp only [AA]
        have holdget : olds = c0.toList.take (m' * i.size) := by
          rcases hoc with h0' | ⟨ad', had, hoc⟩
          · subst h0'
            simp only [pd] at hol ⊢
            simp [ff hol]
          · rw [hA0] at had
            simp only [an] at had
            subst had
            apply List.ext_getElem?
            intro j
            rcases fp j olds.length with hj | hj
            · have h4 := hoc j _ (dr hj)
              rw [Addr.add_lit, cell_of_row _ _ _ _ _ _ uy, kb] at h4
              rw [dr hj, ← h4, jg (by omega)]
              simp
            · rw [en hj, en (by simp; omega)]
        refine ⟨hbn, ⟨_, _, rfl, tb, ⟨_, _, rfl, fun _ => X0 (E' := E.write b c' (.Bt l (m' + n) i.size)) rfl (by show E.n = (E.H.set b _).length; rw [hs.n, hs.H]; simp), KC (by rw [hw.Cr, ru rfl]) ?_ fun j hj => ?_⟩, fun q k z hk => ?_⟩, fun z q hk => ?_⟩
        · refine hw.Cz.Hz hs.heap _ _ (LO (EU holds hus) ?_)
          show (c0.toList.take (m' * i.size) ++ us ++ c0.toList.drop (m' * i.size + us.length)).take _ = _
          rw [← holdget, show (cs ++ xs).length = (olds ++ us).length by simp [hol, hul, td, hxl]]
          exact oe
        · rintro (hu | ⟨y, p1, p3⟩)
          · exact (hs.heap.Bl _ hu).2 b (by rw [hb]; trivial) rfl
          rw [hw.Bu] at p3
          by_cases hy : b = y
          · rw [ru hy] at p3
            simp only at p3
            rw [show (cs ++ xs).length = (m' + n) * i.size by simp [td, hxl, kq]] at hj
            omega
          · rw [rr hy] at p3
            have hl : live E.H[y]? := by
              split at p3
              · rename_i he; rw [he]; trivial
              · rename_i he; rw [he]; trivial
              · rename_i he; rw [he]; trivial
              · exact p3.elim
            exact hy (hs.heap.inj b y (by rw [hb]; trivial) hl p1.symm)
        · rw [hw.Bu, ru rfl] at hk
          simp only [an, Bv.Bt.injEq] at hk
          obtain ⟨_, rfl, rfl⟩ := hk
          exact ⟨dz _, fun _ => ⟨rfl, c', t0, by rw [show (E.write b c' (.Bt l (m' + n) i.size)).φ b = E.φ b from rfl, hw.Cr, ru rfl], by rw [hsz', hcsz]⟩⟩
        · rw [hw.Bu, ru rfl] at hk
          cases hk
      ·
        have ui := J6 (P := c.P) E.w st o.type e xt i zx (C4 he) (C4 he2) h1 h2 A m' cap olds hol hoc ad n capx us hul hB (by omega) (by omega) (growslice_fits (by omega) (by omega))
        have hge := grownCap_ge E.w (m' + n) cap e
        have hcsz2 : (olds.toArray ++ us.toArray ++ Builtin.zeroCells zx.cells (grownCap E.w (m' + n) cap e - (m' + n))).size = grownCap E.w (m' + n) cap e * i.size := by
          simp only [py, mu, size_zeroCells, hzcell, hol, hul, ← kq]
          congr 1
          omega
        let E2 : Ab := { E with w := E.w.drew.alloc (.cells (olds.toArray ++ us.toArray ++ Builtin.zeroCells zx.cells (grownCap E.w (m' + n) cap e - (m' + n))) e), φ := fun y => if y = b then E.w.heap.size else E.φ y, H := E.H.set b (.Bt l (m' + n) i.size) }
        have hmv : Jn E E2 b l m' (m' + n) i.size (olds.toArray ++ us.toArray ++ Builtin.zeroCells zx.cells (grownCap E.w (m' + n) cap e - (m' + n))) e :=
          { heap := rfl, os := rfl, tape := rfl, output := rfl, Ce := fun _ => rfl, H := rfl, lk := rfl, n := rfl, m := rfl, Bl := rfl, Wt := hb, lt := sd
            size := by rw [hcsz2]; exact jz _ hge }
        have hr := hmv.rel hs.heap
        have hfor := fun base nb d hn hd hf => hmv.DN (base := base) (nb := nb) (d := d) hn hd hf hs.heap
        refine ⟨E2, ⟨by show E.H.set b _ = _; rw [hs.H], by show E.n = _; rw [hs.n]; simp, rfl, hmv.Cz, hr, fun _ base nb d _ hn hd hf => hfor base nb d hn hd hf, fun _ base d _ hd hf => hfor base E.n d (dz _) hd hf, hkept⟩, .inl ⟨_, hexec (by rw [hA, hx]; exact ui), ?_⟩⟩
        simp only [AA]
        refine ⟨hbn, ⟨_, _, rfl, hge, ⟨_, _, rfl, fun _ => X0 hmv.H (by show E.n = _; rw [hs.n, hs.H]; simp), KC (by rw [hmv.Cr, ru rfl]) ?_ fun j hj => ?_⟩, fun q k z hk => ?_⟩, fun z q hk => ?_⟩
        · refine hmv.Cz.Hz hs.heap _ _ (LO (EU holds hus) ?_)
          simp only [pq, eo]
          rw [← eo, show (cs ++ xs).length = (olds ++ us).length by simp [hol, hul, td, hxl]]
          exact oe
        · rintro (hu | ⟨y, p1, p3⟩)
          · exact absurd (hs.heap.Bl _ hu).1 (lq _)
          rw [hmv.Ce] at p1
          rw [hmv.Bu] at p3
          by_cases hy : b = y
          · rw [ru hy] at p3
            simp only at p3
            rw [show (cs ++ xs).length = (m' + n) * i.size by simp [td, hxl, kq]] at hj
            omega
          · rw [rr (fun e => hy e.symm)] at p1
            rw [rr hy] at p3
            have hl : live E.H[y]? := by
              split at p3
              · rename_i he; rw [he]; trivial
              · rename_i he; rw [he]; trivial
              · rename_i he; rw [he]; trivial
              · exact p3.elim
            have := FO hs.heap hl
            omega
        · rw [hmv.Bu, ru rfl] at hk
          simp only [an, Bv.Bt.injEq] at hk
          obtain ⟨_, rfl, rfl⟩ := hk
          exact ⟨dz _, fun _ => ⟨by rw [hmv.Ce, ru rfl], _, _, by rw [hmv.Ce, ru rfl, hmv.Cr, ru rfl], hcsz2.symm⟩⟩
        · rw [hmv.Bu, ru rfl] at hk
          cases hk
  | _ => simp at h
end
theorem Nl {E : Ab} : ∀ (cs : List V) (us : List eu), (cs.all fun | .int .. | .bool _ | .str _ => true | _ => false) = true → AM E cs us → us = cs.map DI
 | [], us, _, h => by simp only [AM] at h; exact h
 | c :: cs, us, hp, h => by
  simp only [jr, ec] at hp
  simp only [AM] at h
  obtain ⟨u, tn, rfl, h1, h2⟩ := h
  rw [Nl cs tn hp.2 h2, gq]
  congr 1
  cases c <;> simp_all [AA, DI]
theorem Hg {E : Ab} {v : V} {u : eu} (hp : Be v = true) (h : AA E v u) : u = B6 v := by
 cases v with
 | agg cs =>
  simp only [AA] at h
  obtain ⟨vs, rfl, h⟩ := h
  have := Nl cs vs.toList hp h
  simp only [B6]
  rw [← this]
 | int _ _ => simp only [AA] at h; exact h
 | bool _ => simp only [AA] at h; exact h
 | str _ => simp only [AA] at h; exact h
 | _ => simp [Be] at hp
theorem Fl {E : Ab} : ∀ (cs : List V), (cs.all fun | .int .. | .bool _ | .str _ => true | _ => false) = true → AM E cs (cs.map DI)
 | [], _ => by simp only [AM, jx]
 | c :: cs, hp => by
  simp only [jr, ec] at hp
  simp only [AM, gq]
  refine ⟨_, _, rfl, ?_, Fl cs hp.2⟩
  cases c <;> simp_all [AA, DI]
theorem Ke (E : Ab) {v : V} (hp : Be v = true) : AA E v (B6 v) := by
 cases v with
 | agg cs =>
  simp only [AA, B6]
  exact ⟨_, rfl, by simpa using Fl cs hp⟩
 | int _ _ => simp only [AA, B6, DI]
 | bool _ => simp only [AA, B6, DI]
 | str _ => simp only [AA, B6, DI]
 | _ => simp [Be] at hp
theorem So {q : Sc} {x y : V} (hs : q ≠ .s) (h : Fw q x y = some true) : DI x = DI y := by
 cases q <;> cases x <;> cases y <;> simp_all [Fw, DI]
theorem Kp : ∀ {ks : List Sc} {xs ys : List V}, (ks.all fun q => decide (q ≠ .s)) = true → xs.length = ks.length → ys.length = ks.length → DC ks xs ys = some true → xs.map DI = ys.map DI
 | [], xs, ys, _, hx, hy, _ => by
  rw [ff hx, ff hy]
 | k :: ks, [], _, _, hx, _, _ => by simp at hx
 | k :: ks, _ :: _, [], _, _, hy, _ => by simp at hy
 | k :: ks, x :: xs, y :: ys, hk, hx, hy, h => by
  simp only [jr, ec, ry] at hk
  simp only [DC, dj] at h
  obtain ⟨b, h1, h2⟩ := h
  cases b with
  | false => simp at h2
  | true =>
   simp only [if_true] at h2
   simp only [gq, So hk.1 h1, Kp hk.2 (by simpa using hx) (by simpa using hy) h2]
theorem KW {P : ep} {k : ea} {ks : List Sc} (h : RP P k = some (.many ks)) : II P k = some ks ∧ (ks.all fun q => decide (q ≠ .s)) = true := by
 unfold RP at h
 split at h
 ·cases h
 ·simp only [dj] at h
  obtain ⟨ks', h1, h2⟩ := h
  split at h2
  ·rename_i hc
   simp only [an, KT.many.injEq] at h2
   subst h2
   exact ⟨h1, hc⟩
  ·cases h2
theorem Um {P : ep} {k : ea} {q : Sc} (h : RP P k = some (.one q)) : FQ P k = some q := by
 unfold RP at h
 split at h
 ·rename_i h1
  simp only [an, KT.one.injEq] at h
  rw [h1, h]
 ·simp only [dj] at h
  obtain ⟨ks', h1, h2⟩ := h
  split at h2 <;> cases h2
theorem JD {ks : List Sc} {x y : V} {b : Bool} (h : EM (.many ks) x y = some b) : ∃ xs ys, x = .agg xs ∧ y = .agg ys ∧ xs.length = ks.length ∧ ys.length = ks.length ∧ DC ks xs ys = some b := by
 cases x <;> cases y <;> simp only [EM] at h <;> try (cases h; done)
 rename_i xs ys
 split at h
 case isFalse => cases h
 rename_i hc
 exact ⟨xs, ys, rfl, rfl, hc.1, hc.2, h⟩
theorem NW {P : ep} {k : ea} {kt : KT} (hk : RP P k = some kt) {x y : V} (h : EM kt x y = some true) : B6 x = B6 y := by
 cases kt with
 | one q =>
  cases q with
  | s =>
   cases x <;> cases y <;> simp only [EM] at h <;> try (cases h; done)
   simp only [an] at h
   simp only [B6, DI, (Go.MapKept.bytes_beq _ _).1 h]
  | b => cases x <;> cases y <;> simp_all [EM, Fw, B6, DI]
  | i => cases x <;> cases y <;> simp_all [EM, Fw, B6, DI]
 | many ks =>
  obtain ⟨xs, ys, rfl, rfl, h1, h2, h3⟩ := JD h
  simp only [B6]
  rw [Kp (KW hk).2 h1 h2 h3]
def tC (x : (V × V) × Nat) : MapEntry := { key := B6 x.1.1, val := B6 x.1.2, born := x.2 }
def lW (BC : List (V × V)) (i : Nat) : List MapEntry := (BC.zipIdx i).map tC
theorem UB (BC : List (V × V)) : (GK BC).toList = lW BC 0 := rfl
theorem PB (e : V × V) (BC : List (V × V)) (i : Nat) : lW (e :: BC) i = tC (e, i) :: lW BC (i + 1) := rfl
section
variable {P : ep} {k : ea} {w : je}
theorem HK {q : Sc} (hk : FQ P k = some q) (em : Bool) (n : Nat) (v : eu) : (Instr.checkKey em (n + 1) k v).run P w = .ok () w := by
 unfold FQ at hk
 unfold Instr.checkKey
 split at hk <;> rename_i hu <;> first | cases hk | skip
 all_goals simp only [Sem.run_bind, run_underlying hu, Result.andThen_ok]
 all_goals cases v <;> simp
theorem IV (em : Bool) (m : Nat) (us : Array eu) : ∀ (fs : List Field) (n : Nat) (ks : List Sc), FE P n fs = some ks → n + ks.length ≤ us.size →
  (forIn (m := Sem) fs PUnit.unit (fun f _ => do
   if f.name ≠ "_" then
    Instr.checkKey em (m + 1) f.type (← part f.type us f.offset)
    pure (ForInStep.yield PUnit.unit)
   else pure (ForInStep.yield PUnit.unit))).run P w = .ok PUnit.unit w
 | [], n, ks, _, _ => by simp
 | f :: fs, n, ks, hf, hl => by
  simp only [FE] at hf
  split at hf <;> simp only [dj, dn, reduceCtorEq] at hf
  rename_i hc
  obtain ⟨hn, ho, hz⟩ := hc
  obtain ⟨q, hk, ks', hks, rfl⟩ := hf
  simp only [List.length_cons] at hl
  have zz : us[n]? = some us[n] := lf (by omega)
  have hag := HW (P := P) (w := w) (NU hk)
  have ih := IV em m us fs (n + 1) ks' hks (by omega)
  simp only [List.forIn_cons, Sem.run_bind, hn, ne_eq, not_false_eq_true, if_true, part, hag, Result.andThen_ok, ei, if_false, ho, zz, Sem.run_pure, HK hk]
  exact ih
theorem JJ {ks : List Sc} (h : II P k = some ks) : ∃ fs, P.underlying k = some (.struct fs) ∧ P.stoodInHeld k = false ∧ FE P 0 fs.toList = some ks := by
 unfold II at h
 split at h
 case h_2 => cases h
 rename_i fs hu
 split at h
 case isFalse => cases h
 rename_i hg
 simp only [ec, jj] at hg
 exact ⟨fs, hu, hg.1, h⟩
theorem NL {kt : KT} (hk : RP P k = some kt) {key : V} (hself : EM kt key key = some true) (em : Bool) : (Instr.checkKey em 10000 k (B6 key)).run P w = .ok () w := by
 cases kt with
 | one q => exact HK (Um hk) em 9999 _
 | many ks =>
  obtain ⟨hf, _⟩ := KW hk
  obtain ⟨fs, hu, _, hff⟩ := JJ hf
  obtain ⟨xs, ys, e0, _, hc, _, _⟩ := JD hself
  have e : B6 key = .agg (xs.map DI).toArray := by rw [e0]; rfl
  rw [e, show (10000 : Nat) = 9999 + 1 from rfl, Instr.checkKey]
  simp only [Sem.run_bind, run_underlying hu, Result.andThen_ok]
  rw [← Array.forIn_toList]
  have := IV (P := P) (w := w) em 9998 (xs.map DI).toArray fs.toList 0 ks hff (by simp; omega)
  simp only [this]
  first | rfl | simp
theorem e9 {q : Sc} {d : TypeDesc} (hk : FQ P k = some q) (hd : P.underlying k = some d) {x y : V} {b : Bool} (h : EM (.one q) x y = some b) : Instr.sameNow d (B6 x) (B6 y) = some b := by
 unfold FQ at hk
 rw [hd] at hk
 cases q <;> cases x <;> cases y <;> simp_all [EM, Fw, B6, DI] <;> (split at hk <;> simp_all [Instr.sameNow])
theorem NX {q : Sc} {d : TypeDesc} (hk : FQ P k = some q) (hd : P.underlying k = some d) {key : V} : ∀ (BC : List (V × V)) (i : Nat) (r : Option (Nat × V)), Fc (.one q) key BC i = some r → Instr.findNow d (B6 key) (lW BC i) i = some (r.map fun x => (x.1, B6 x.2))
 | [], i, r, h => by
  simp only [Fc, an] at h
  subst h
  rfl
 | e :: BC, i, r, h => by
  simp only [Fc, dj] at h
  obtain ⟨b, hb, h⟩ := h
  have h1 := e9 hk hd hb
  rw [PB]
  simp only [Instr.findNow, tC, h1]
  cases b with
  | true =>
   simp only [if_true, an] at h
   subst h
   rfl
  | false =>
   simp only [ei, if_false] at h
   exact NX hk hd BC (i + 1) r h
theorem fK (E : Ab) {ks : List Sc} (hf : II P k = some ks) {x y : V} (hx : Be x = true) (hy : Be y = true) {b : Bool} (h : EM (.many ks) x y = some b) : (Op.equal k (B6 x) (B6 y)).run P w = .ok b w := by
 obtain ⟨fs, hu, wi, hff⟩ := JJ hf
 obtain ⟨xs, ys, rfl, rfl, _, _, h⟩ := JD h
 have hfo : P.fieldsOf k = fs := by simp only [Program.fieldsOf, hu]
 have hu2 : P.underlying k = some (.struct (P.fieldsOf k)) := by rw [hfo]; exact hu
 show (Op.equalIn 10000 k _ _).run P w = _
 simp only [B6]
 rw [run_equalIn_struct w 9999 k _ _ hu2 wi, hfo]
 exact JT (E := E) 9998 _ _ fs.toList 0 ks xs ys b hff (by simpa using Fl xs hx) (by simpa using Fl ys hy) h
theorem MI (E : Ab) {ks : List Sc} (hf : II P k = some ks) {key : V} (hkey : Be key = true) : ∀ (BC : List (V × V)) (i : Nat) (r : Option (Nat × V)), (∀ x ∈ BC, Be x.1 = true ∧ Be x.2 = true) → Fc (.many ks) key BC i = some r →
  (Instr.findAsking k (B6 key) (lW BC i) i).run P w = .ok (r.map fun x => (x.1, B6 x.2)) w
 | [], i, r, _, h => by
  simp only [Fc, an] at h
  subst h
  simp [lW, Instr.findAsking]
 | e :: BC, i, r, hp, h => by
  simp only [Fc, dj] at h
  obtain ⟨b, hb, h⟩ := h
  have h1 := fK E hf (w := w) hkey (hp e (fh ..)).1 hb
  rw [PB]
  simp only [Instr.findAsking, tC, Sem.run_bind, h1, Result.andThen_ok]
  cases b with
  | true =>
   simp only [if_true, an] at h
   subst h
   simp
  | false =>
   simp only [ei, if_false] at h ⊢
   exact MI E hf hkey BC (i + 1) r (fun x hx => hp x (fm _ hx)) h
theorem R3 (E : Ab) {kt : KT} (hk : RP P k = some kt) {key : V} (hkey : Be key = true) {BC : List (V × V)} (hp : ∀ x ∈ BC, Be x.1 = true ∧ Be x.2 = true) {r : Option (Nat × V)} (h : Fc kt key BC 0 = some r) :
  (Instr.findKey k (B6 key) (GK BC).toList).run P w = .ok (r.map fun x => (x.1, B6 x.2)) w := by
 rw [UB]
 cases kt with
 | one q =>
  have hs := Um hk
  have : ∃ d, P.underlying k = some d := by
   unfold FQ at hs
   split at hs <;> rename_i hu <;> first | exact ⟨_, hu⟩ | cases hs
  obtain ⟨d, hd⟩ := this
  exact Go.MapKept.run_findKey hd (NX hs hd BC 0 r h)
 | many ks =>
  obtain ⟨hf, _⟩ := KW hk
  obtain ⟨fs, hu, _, _⟩ := JJ hf
  cases BC with
  | nil =>
   simp only [Fc, an] at h
   subst h
   exact Go.MapKept.run_findKey hu rfl
  | cons e BC =>
   have hn : Instr.findNow (.struct fs) (B6 key) (lW (e :: BC) 0) 0 = none := by
    rw [PB]
    simp only [Instr.findNow, Instr.sameNow]
   have := MI E hf (w := w) hkey (e :: BC) 0 r hp h
   simp only [Instr.findKey, Sem.run_bind, run_underlying hu, Result.andThen_ok, hn, this]
theorem VQ {α : Type} : ∀ (l : List α), ∀ x ∈ l.zip l, x.1 = x.2 ∧ x.1 ∈ l
 | [], x, h => by simp at h
 | y :: l, x, h => by
  simp only [List.zip_cons_cons, List.mem_cons] at h
  rcases h with rfl | h
  ·exact ⟨rfl, fh ..⟩
  ·obtain ⟨h1, h2⟩ := VQ l x h
   exact ⟨h1, fm _ h2⟩
theorem O6 (n : Nat) {v : V} (h : (match v with | .int .. | .bool _ | .str _ => true | _ => false) = true) : Instr.sameBits n (DI v) (DI v) = true := by
 cases v <;> simp_all [DI, Instr.sameBits]
 exact (Go.MapKept.bytes_beq _ _).2 rfl
theorem R4 {v : V} (h : Be v = true) : Instr.sameBits 10000 (B6 v) (B6 v) = true := by
 cases v with
 | agg cs =>
  simp only [B6]
  rw [show (10000 : Nat) = 9999 + 1 from rfl, Instr.sameBits]
  simp only [sa, Bool.true_and, gb]
  intro x hx
  obtain ⟨h1, h2⟩ := VQ _ x hx
  obtain ⟨x1, x2⟩ := x
  simp only at h1
  subst h1
  simp only [List.mem_map] at h2
  obtain ⟨v, hv, rfl⟩ := h2
  unfold Be at h
  rw [gb] at h
  exact O6 9999 (h v hv)
 | int _ _ => simp [B6, DI, Instr.sameBits]
 | bool _ => simp [B6, DI, Instr.sameBits]
 | str _ => simp only [B6, DI, Instr.sameBits]; exact (Go.MapKept.bytes_beq _ _).2 rfl
 | _ => simp [Be] at h
theorem SG {v : V} (h : Be v = true) : (Instr.keyThatStays (B6 v) (B6 v)).run P w = .ok (B6 v) w := by
 simp only [Instr.keyThatStays, R4 h, if_true, Sem.run_pure]
theorem Is {kt : KT} {key : V} : ∀ (BC : List (V × V)) (i j : Nat) (v : V), Fc kt key BC i = some (some (j, v)) → ∃ n kk, j = i + n ∧ BC[n]? = some (kk, v) ∧ EM kt key kk = some true
 | [], i, j, v, h => by simp [Fc] at h
 | e :: BC, i, j, v, h => by
  simp only [Fc, dj] at h
  obtain ⟨b, hb, h⟩ := h
  cases b with
  | true =>
   simp only [if_true, an, dk] at h
   obtain ⟨rfl, rfl⟩ := h
   exact ⟨0, e.1, rfl, rfl, hb⟩
  | false =>
   simp only [ei, if_false] at h
   obtain ⟨n, kk, h1, h2, h3⟩ := Is BC (i + 1) j v h
   exact ⟨n + 1, kk, by omega, h2, h3⟩
theorem Ho (BC : List (V × V)) (i : Nat) : (GK BC)[i]? = (BC[i]?).map fun x => { key := B6 x.1, val := B6 x.2, born := i } := by
  unfold GK
  rw [ly, ic, List.getElem?_zipIdx]
  cases BC[i]? <;> simp
theorem Mv (BC : List (V × V)) : (GK BC).size = BC.length := by simp [GK]
theorem Rk (BC : List (V × V)) (k v : V) : (GK BC).push { key := B6 k, val := B6 v, born := BC.length } = GK (BC ++ [(k, v)]) := by
  apply pt
  intro i
  rw [lb, Mv, Ho, Ho]
  by_cases h : i = BC.length
  · subst h; simp
  · rw [rr h]
    rcases fp i BC.length with hl | hl
    · rw [eh hl]
    · rw [en hl, en (by simp; omega)]
theorem PA (BC : List (V × V)) (i : Nat) (k v : V) (f : MapEntry → MapEntry) (h : ∀ x, BC[i]? = some x → f { key := B6 x.1, val := B6 x.2, born := i } = { key := B6 k, val := B6 v, born := i }) : (GK BC).modify i f = GK (BC.set i (k, v)) := by
  apply pt
  intro j
  rw [Array.getElem?_modify, Ho, Ho, mb]
  by_cases hij : i = j
  · subst hij
    rw [ru rfl, ru rfl]
    cases hx : BC[i]? with
    | none =>
      rw [rr]
      · rfl
      · intro hl
        rw [dr hl] at hx
        cases hx
    | some x =>
      rw [ru (du.1 hx).1]
      simp only [dq, h x hx]
  · rw [rr hij, rr hij]
end
structure FK (E E' : Ab) : Prop where
 heap : E'.w.heap = E.w.heap.push (.map #[] 0)
 os : E'.w.os = E.w.os
 tape : E'.w.tape = E.w.tape
 output : E'.w.output = E.w.output
 Ce : ∀ b, E'.φ b = if b = E.H.length then E.w.heap.size else E.φ b
 H : E'.H = E.H ++ [.mp []]
 lk : E'.lk = E.lk
 n : E'.n = E.n + 1
 m : E'.m = E.m
 Bl : E'.Bl = E.Bl
 n0 : E.n = E.H.length
theorem FK.Bu {E E' : Ab} (h : FK E E') (b : Nat) : E'.H[b]? = if b = E.H.length then some (.mp []) else E.H[b]? := by
 rw [h.H]
 by_cases hb : b = E.H.length
 ·subst hb; simp
 ·rw [rr hb]
  rcases fp b E.H.length with hl | hl
  ·rw [eh hl]
  ·rw [en (by simp; omega), en hl]
theorem FK.Cr {E E' : Ab} (h : FK E E') (g : Nat) : E'.w.heap[g]? = if g = E.w.heap.size then some (.map #[] 0) else E.w.heap[g]? := by
 rw [h.heap, lb]
theorem FK.Cz {E E' : Ab} (h : FK E E') : GJ E E' where
 lk := h.lk
 os := h.os
 tape := h.tape
 output := h.output
 size := by rw [h.heap]; simp
 len := by rw [h.n]; omega
 mm := h.m
 cell := by
  intro g i u hc _
  have hg := HO hc
  simp only [World.cell?, h.Cr g] at hc ⊢
  rw [rr (by simp at hg; omega)]
  exact hc
 block := by
  intro g hg _
  rw [h.Cr g, rr (by omega)]
 mono := by
  intro lv g i _ hu
  rcases hu with hu | hu
  ·exact .inl (.inl (by rw [h.Bl] at hu; exact hu))
  cases lv with
  | some lv =>
   obtain ⟨b, h1, h2, h3⟩ := hu
   rw [h.lk] at h2
   rw [h.Bu b] at h3
   rw [h.Ce b] at h1
   by_cases hb : b = E.H.length
   ·rw [ru hb] at h1; right; omega
   ·rw [rr hb] at h1 h3
    exact .inl (.inr ⟨b, h1, h2, h3⟩)
  | none =>
   obtain ⟨b, h1, h3⟩ := hu
   rw [h.Bu b] at h3
   rw [h.Ce b] at h1
   by_cases hb : b = E.H.length
   ·rw [ru hb] at h1; right; omega
   ·rw [rr hb] at h1 h3
    exact .inl (.inr ⟨b, h1, h3⟩)
 Ce := by
  intro b hb hn
  have : b ≠ E.H.length := by have := h.n0; omega
  refine ⟨by rw [h.Ce b, rr this], fun l n sz => ?_⟩
  rw [h.Bu b, rr this]
  exact hn l n sz
 cells := by
  intro b hb hn sz cs
  have : b ≠ E.H.length := by have := h.n0; omega
  rw [h.Bu b, rr this]
  exact hn sz cs
 Bt := by
  intro b l n' wg hb hB
  have sq : b ≠ E.H.length := by have := h.n0; omega
  rw [h.Bu b, rr sq] at hB
  refine ⟨n', hB, dz _, fun _ => ⟨by rw [h.Ce b, rr sq], fun c' t' hc => ⟨c', ?_, rfl⟩⟩⟩
  rw [h.Cr]
  split
  ·rename_i he
   have := ef.1 hc |>.1
   omega
  ·exact hc
 fresh := by
  intro b hl
  rw [h.Bu b] at hl
  rw [h.Ce b]
  by_cases hb : b = E.H.length
  ·rw [ru hb]; exact .inr (dz _)
  ·rw [rr hb] at hl ⊢; exact .inl ⟨rfl, hl⟩
 Bl := fun g hg => by rw [h.Bl]; exact hg
 Ix := fun g hg => .inl (by rw [h.Bl] at hg; exact hg)
 I8 := fun g _ hl => by rw [h.Cr g, rr (by omega)]
theorem FK.rel {E E' : Ab} (h : FK E E') (hh : Ch E) : Ch E' where
 cells := by
  intro b sz cs hB
  rw [h.Bu b] at hB
  rw [h.Ce b]
  split at hB
  ·cases hB
  ·rename_i he
   obtain ⟨c', t', h1, h2, h3⟩ := hh.cells b sz cs hB
   rw [rr he, h.Cr, rr (by have := ef.1 h1 |>.1; omega)]
   exact ⟨c', t', h1, h2, fun i v hv => let ⟨u, h4, h5⟩ := h3 i v hv; ⟨u, h4, h.Cz.rep hh v u h5⟩⟩
 dm := by rw [h.m, h.lk]; exact hh.dm
 lvl := by
  intro b l n sz hB
  rw [h.Bu b] at hB
  rw [h.lk]
  split at hB
  ·cases hB
  ·exact hh.lvl b l n sz hB
 Bt := by
  intro b l n sz hB
  rw [h.Bu b] at hB
  rw [h.Ce b]
  split at hB
  ·cases hB
  ·rename_i he
   obtain ⟨c', t', h1, h2⟩ := hh.Bt b l n sz hB
   rw [rr he, h.Cr, rr (by have := ef.1 h1 |>.1; omega)]
   exact ⟨c', t', h1, h2⟩
 maps := by
  intro b BC hB
  rw [h.Bu b] at hB
  rw [h.Ce b]
  split at hB
  ·rename_i he
   simp only [an, Bv.mp.injEq] at hB
   subst hB
   rw [ru he, h.Cr, ru rfl]
   exact ⟨rfl, fun x hx => by cases hx⟩
  ·rename_i he
   obtain ⟨h1, h2⟩ := hh.maps b BC hB
   rw [rr he, h.Cr, rr (by have := ef.1 h1 |>.1; omega)]
   exact ⟨h1, h2⟩
 inj := by
  intro b b' h1 h2 he
  rw [h.Bu] at h1 h2
  rw [h.Ce, h.Ce] at he
  by_cases hb : b = E.H.length <;> by_cases tp : b' = E.H.length
  ·omega
  ·rw [ru hb, rr tp] at he
   rw [rr tp] at h2
   have := FO hh h2
   omega
  ·rw [rr hb, ru tp] at he
   rw [rr hb] at h1
   have := FO hh h1
   omega
  ·rw [rr hb, rr tp] at he
   rw [rr hb] at h1
   rw [rr tp] at h2
   exact hh.inj b b' h1 h2 he
 Bl := fun g hg => by
  rw [h.Bl] at hg
  obtain ⟨h1, h2⟩ := hh.Bl g hg
  refine ⟨by rw [h.heap, mz]; omega, fun b hl => ?_⟩
  rw [h.Bu] at hl
  rw [h.Ce]
  by_cases hb : b = E.H.length
  ·rw [ru hb]; omega
  ·rw [rr hb] at hl ⊢; exact h2 b hl
theorem FK.DN {E E' : Ab} (h : FK E E') {base nb d : Nat} (hb : base ≤ E.n) (va : nb ≤ E.n) (hd : d ≤ E.m) (hf : Dc E base nb d) (hh : Ch E) : Dc E' base nb d := by
 intro b sz cs sd hB c' t' hc i v u hv hu
 have sq : b ≠ E.H.length := by have := h.n0; omega
 rw [h.Bu, rr sq] at hB
 rw [h.Ce, rr sq, h.Cr] at hc
 split at hc
 ·rename_i he
  have := FO hh (b := b) (by rw [hB]; trivial)
  omega
 ·exact (h.Cz.shrink hh va hd).rep v u (hf b sz cs sd hB c' t' hc i v u hv hu)
structure Hj (E E' : Ab) (b : Nat) (BC kvs' : List (V × V)) : Prop where
 heap : ∀ g, E'.w.heap[g]? = if g = E.φ b then some (.map (GK kvs') kvs'.length) else E.w.heap[g]?
 size : E'.w.heap.size = E.w.heap.size
 os : E'.w.os = E.w.os
 tape : E'.w.tape = E.w.tape
 output : E'.w.output = E.w.output
 Ce : E'.φ = E.φ
 H : E'.H = E.H.set b (.mp kvs')
 lk : E'.lk = E.lk
 n : E'.n = E.n
 m : E'.m = E.m
 Bl : E'.Bl = E.Bl
 Wt : E.H[b]? = some (.mp BC)
 row : E.w.heap[E.φ b]? = some (.map (GK BC) BC.length)
 Nh : E.φ b ∉ E.Bl
 free : AT E.lk b = true
theorem Hj.Bu {E E' : Ab} {b : Nat} {BC kvs' : List (V × V)} (h : Hj E E' b BC kvs') (x : Nat) : E'.H[x]? = if b = x then some (.mp kvs') else E.H[x]? := by
 rw [h.H, AX]
 have := (du.1 h.Wt).1
 simp [this]
theorem Hj.Cz {E E' : Ab} {b : Nat} {BC kvs' : List (V × V)} (h : Hj E E' b BC kvs') : GJ E E' where
 lk := h.lk
 os := h.os
 tape := h.tape
 output := h.output
 size := by rw [h.size]; exact dz _
 len := by rw [h.n]; exact dz _
 mm := h.m
 cell := by
  intro g i u hc _
  have sq : g ≠ E.φ b := by
   rintro rfl
   simp only [World.cell?, h.row] at hc
   cases hc
  simp only [World.cell?, h.heap g, rr sq] at hc ⊢
  exact hc
 block := by
  intro g hg hu
  rw [h.heap g, rr]
  rintro rfl
  refine hu 0 (.inr ⟨b, rfl, Fi _ h.free, ?_⟩)
  rw [h.Wt]
  trivial
 mono := by
  intro lv g i _ hu
  rcases hu with hu | hu
  ·exact .inl (.inl (by rw [h.Bl] at hu; exact hu))
  cases lv with
  | some lv =>
   obtain ⟨x, h1, h2, h3⟩ := hu
   rw [h.lk] at h2
   rw [h.Ce] at h1
   rw [h.Bu x] at h3
   refine .inl (.inr ⟨x, h1, h2, ?_⟩)
   by_cases hb : b = x
   ·subst hb; rw [h.Wt]; trivial
   ·rw [rr hb] at h3; exact h3
  | none =>
   obtain ⟨x, h1, h3⟩ := hu
   rw [h.Ce] at h1
   rw [h.Bu x] at h3
   refine .inl (.inr ⟨x, h1, ?_⟩)
   by_cases hb : b = x
   ·subst hb; rw [h.Wt]; trivial
   ·rw [rr hb] at h3; exact h3
 Ce := by
  intro x hx hn
  refine ⟨by rw [h.Ce], fun l n sz => ?_⟩
  rw [h.Bu x]
  split
  ·simp
  ·exact hn l n sz
 cells := by
  intro x hx hn sz cs
  rw [h.Bu x]
  split
  ·simp
  ·exact hn sz cs
 Bt := by
  intro x l n' wg hx hB
  rw [h.Bu x] at hB
  by_cases hb : b = x
  ·rw [ru hb] at hB; cases hB
  ·rw [rr hb] at hB
   refine ⟨n', hB, dz _, fun _ => ⟨by rw [h.Ce], fun c2 t2 hc => ⟨c2, ?_, rfl⟩⟩⟩
   rw [h.heap, rr]
   ·exact hc
   ·intro e
    rw [e, h.row] at hc
    cases hc
 fresh := by
  intro x hl
  rw [h.Bu x] at hl
  rw [h.Ce]
  refine .inl ⟨rfl, ?_⟩
  by_cases hb : b = x
  ·subst hb; rw [h.Wt]; trivial
  ·rw [rr hb] at hl; exact hl
 Bl := fun g hg => by rw [h.Bl]; exact hg
 Ix := fun g hg => .inl (by rw [h.Bl] at hg; exact hg)
 I8 := fun g hg _ => by rw [h.heap g, rr (fun e => h.Nh (by rw [← e]; exact hg))]
theorem Hj.rel {E E' : Ab} {b : Nat} {BC kvs' : List (V × V)} (h : Hj E E' b BC kvs') (hh : Ch E) (hp : ∀ x ∈ kvs', Be x.1 = true ∧ Be x.2 = true) : Ch E' where
 cells := by
  intro x sz cs hB
  rw [h.Bu x] at hB
  rw [h.Ce]
  by_cases hx : b = x
  ·rw [ru hx] at hB; cases hB
  ·rw [rr hx] at hB
   obtain ⟨c2, t2, h1, h2, h3⟩ := hh.cells x sz cs hB
   rw [h.heap, rr (by intro e; rw [e, h.row] at h1; cases h1)]
   exact ⟨c2, t2, h1, h2, fun i v hv => let ⟨u, h4, h5⟩ := h3 i v hv; ⟨u, h4, h.Cz.rep hh v u h5⟩⟩
 dm := by rw [h.m, h.lk]; exact hh.dm
 lvl := by
  intro x l n sz hB
  rw [h.Bu x] at hB
  rw [h.lk]
  by_cases hx : b = x
  ·rw [ru hx] at hB; cases hB
  ·rw [rr hx] at hB
   exact hh.lvl x l n sz hB
 Bt := by
  intro x l n sz hB
  rw [h.Bu x] at hB
  rw [h.Ce]
  by_cases hx : b = x
  ·rw [ru hx] at hB; cases hB
  ·rw [rr hx] at hB
   obtain ⟨c2, t2, h1, h2⟩ := hh.Bt x l n sz hB
   rw [h.heap, rr (by intro e; rw [e, h.row] at h1; cases h1)]
   exact ⟨c2, t2, h1, h2⟩
 maps := by
  intro x ks hB
  rw [h.Bu x] at hB
  rw [h.Ce]
  by_cases hx : b = x
  ·subst hx
   rw [ru rfl] at hB
   simp only [an, Bv.mp.injEq] at hB
   subst hB
   rw [h.heap, ru rfl]
   exact ⟨rfl, hp⟩
  ·rw [rr hx] at hB
   obtain ⟨h1, h2⟩ := hh.maps x ks hB
   have sq : E.φ x ≠ E.φ b := fun e => hx (hh.inj b x (by rw [h.Wt]; trivial) (by rw [hB]; trivial) e.symm)
   rw [h.heap, rr sq]
   exact ⟨h1, h2⟩
 inj := by
  intro x y h1 h2 he
  rw [h.Bu] at h1 h2
  rw [h.Ce] at he
  refine hh.inj x y ?_ ?_ he
  ·by_cases hx : b = x
   ·subst hx; rw [h.Wt]; trivial
   ·rw [rr hx] at h1; exact h1
  ·by_cases hx : b = y
   ·subst hx; rw [h.Wt]; trivial
   ·rw [rr hx] at h2; exact h2
 Bl := fun g hg => by
  rw [h.Bl] at hg
  obtain ⟨h1, h2⟩ := hh.Bl g hg
  refine ⟨by rw [h.size]; exact h1, fun x hl => ?_⟩
  rw [h.Bu] at hl
  rw [h.Ce]
  by_cases hx : b = x
  ·subst hx; exact fun e => h.Nh (e ▸ hg)
  ·rw [rr hx] at hl; exact h2 x hl
theorem Hj.DN {E E' : Ab} {b : Nat} {BC kvs' : List (V × V)} (h : Hj E E' b BC kvs') {base nb d : Nat} (va : nb ≤ E.n) (hd : d ≤ E.m) (hf : Dc E base nb d) (hh : Ch E) : Dc E' base nb d := by
 intro x sz cs sd hB c2 t2 hc i v u hv hu
 rw [h.Bu] at hB
 by_cases hx : b = x
 ·rw [ru hx] at hB; cases hB
 ·rw [rr hx] at hB
  rw [h.Ce, h.heap] at hc
  split at hc
  ·cases hc
  ·exact (h.Cz.shrink hh va hd).rep v u (hf x sz cs sd hB c2 t2 hc i v u hv hu)
section
variable {c : Cx} {E : Ab} {S : St} {a : Act} {o : fc}
theorem FK.after (hs : D1 c E S a) {E' : Ab} (h : FK E E') (hr : Ch E') : B9 c E E' (S.H ++ [.mp []]) where
 H := by rw [h.H, hs.H]
 n := by rw [h.n, hs.n]; simp
 m := h.m
 Cz := h.Cz
 heap := hr
 I7 := fun _ base nb d hb hn hd hf => h.DN (by have := hs.base; have := hs.n; omega) hn hd hf hs.heap
 Ib := fun _ base d hb hd hf => (h.DN (by have := hs.base; have := hs.n; omega) (dz _) hd hf hs.heap).up h.Cz.len
 kept := fun b hb _ => by rw [hs.H, eh (by have := hs.base; omega)]
theorem Hj.after (hs : D1 c E S a) {E' : Ab} {b : Nat} {BC kvs' : List (V × V)} (h : Hj E E' b BC kvs') (hm : c.Bi b = true) (hr : Ch E') : B9 c E E' (S.H.set b (.mp kvs')) where
 H := by rw [h.H, hs.H]
 n := by rw [h.n, hs.n]; simp
 m := h.m
 Cz := h.Cz
 heap := hr
 I7 := fun _ base nb d hb hn hd hf => h.DN hn hd hf hs.heap
 Ib := fun _ base d hb hd hf => (h.DN (dz _) hd hf hs.heap).up h.Cz.len
 kept := fun x hx hl => by
  rw [hs.H, AX, rr]
  rintro ⟨rfl, _⟩
  unfold Cx.Bi at hm
  simp only [gg, ry] at hm
  rcases hm with hm | hm
  ·omega
  ·rw [hm] at hl; cases hl
theorem LS (E : Ab) : AA E CT undef := by
 simp only [CT, AA]
 exact ⟨#[], rfl, by simp only [AM]⟩
theorem RR (hs : D1 c E S a) {t : ea} (ho : o.op = .makeMap t none) : GA c E a o (.Cm S.H.length) (S.H ++ [.mp []]) := by
  have hp : FK E { w := E.w.alloc (.map #[] 0), φ := fun b => if b = E.H.length then E.w.heap.size else E.φ b, H := E.H ++ [.mp []], lk := E.lk, n := E.n + 1, m := E.m, Bl := E.Bl } :=
    ⟨rfl, rfl, rfl, rfl, fun _ => rfl, rfl, rfl, rfl, rfl, rfl, by rw [hs.n, hs.H]⟩
  refine ⟨_, hp.after hs (hp.rel hs.heap), .inl ⟨.map (some E.w.heap.size), ?_, ?_⟩⟩
  · simp only [execOp, ho]; rfl
  · simp only [AA]
    rw [hs.H, hs.n]
    refine ⟨by omega, by rw [ru rfl], fun l n z => ?_⟩
    simp
theorem Od (hs : D1 c E S a) {b : Nat} {BC : List (V × V)} (hb : S.H[b]? = some (.mp BC)) {u : eu} (hr : AA E (.Cm b) u) : u = .map (some (E.φ b)) ∧ E.w.heap[E.φ b]? = some (.map (GK BC) BC.length) ∧ ∀ x ∈ BC, Be x.1 = true ∧ Be x.2 = true := by
 simp only [AA] at hr
 have := hs.heap.maps b BC (by rw [hs.H]; exact hb)
 exact ⟨hr.2.1, this.1, this.2⟩
theorem KY {P : ep} {t : ea} {q : KT × ea} (h : Kk P t = some q) : ∃ k, P.underlying t = some (.map k q.2) ∧ RP P k = some q.1 := by
 unfold Kk at h
 split at h
 case h_2 => cases h
 rename_i k e hu
 simp only [dn] at h
 obtain ⟨kt, h1, rfl⟩ := h
 exact ⟨k, hu, h1⟩
theorem SV {P : ep} {e : ea} {z : V} (h : L0 P e = some z) (w : je) : ∃ x, (zeroValue e).run P w = .ok x w ∧ Es x = some z := by
 unfold L0 at h
 simp only [dj] at h
 obtain ⟨x, ⟨i, h1, h2⟩, h3⟩ := h
 exact ⟨x, by simp [zeroValue, typeInfo, h1, h2], h3⟩
theorem TD (hs : D1 c E S a) {t : ea} {x k : ed} {ok : Bool} {m kv v : V} (ho : o.op = .lookup t x k ok) (hx : ev S.T x = some m) (hk : ev S.T k = some kv) (h : Jf c.P t S.H m kv ok = some v) : Dp c E a o v := by
 have r1 := BB hs x _ hx
 have r2 := BB hs k _ hk
 unfold Jf at h
 split at h
 case h_2 => cases h
 rename_i b
 split at h
 case h_2 => cases h
 rename_i BC hb
 simp only [dj] at h
 obtain ⟨q, hq, h⟩ := h
 split at h
 case isFalse => cases h
 rename_i hc
 simp only [dj] at h
 obtain ⟨r, hr, h⟩ := h
 obtain ⟨e1, e2, e3⟩ := Od hs hb r1
 obtain ⟨kt, hu, hkt⟩ := KY hq
 have ek := Hg hc.1 r2
 have hchk := NL (P := c.P) (w := E.w) hkt hc.2 (GK BC).isEmpty
 have xr := R3 (P := c.P) (w := E.w) E hkt hc.1 e3 hr
 cases r with
 | some r =>
  obtain ⟨j, vv⟩ := r
  simp only [an] at h
  obtain ⟨n, kk, h1, h2, h3⟩ := Is BC 0 j vv hr
  have hpl := (e3 _ (ee h2)).2
  refine ⟨if ok then .tuple #[B6 vv, .bool true] else B6 vv, ?_, ?_⟩
  ·simp only [execOp, ho, Instr.lookup, e1, ek, Sem.run_bind, run_underlying hu, Result.andThen_ok, Go.MapKept.run_getObj_map e2, Sem.run_pure, hchk, xr, dq]
  ·subst h
   cases ok with
   | true =>
    simp only [if_true, AA]
    refine ⟨_, rfl, ?_⟩
    simp only [AM, AA]
    exact ⟨_, _, rfl, Ke E hpl, _, _, rfl, rfl, rfl⟩
   | false => exact Ke E hpl
 | none =>
  simp only [dn] at h
  obtain ⟨z, hz, rfl⟩ := h
  obtain ⟨zx, hzr, hzo⟩ := SV hz E.w
  refine ⟨if ok then .tuple #[zx, .bool false] else zx, ?_, ?_⟩
  ·simp only [execOp, ho, Instr.lookup, e1, ek, Sem.run_bind, run_underlying hu, Result.andThen_ok, Go.MapKept.run_getObj_map e2, Sem.run_pure, hchk, xr, kl, hzr]
  ·have hrz := IU E zx z hzo
   cases ok with
   | true =>
    simp only [if_true, AA]
    refine ⟨_, rfl, ?_⟩
    simp only [AM, AA]
    exact ⟨_, _, rfl, hrz, _, _, rfl, rfl, rfl⟩
   | false => exact hrz
def Ab.Dx (E : Ab) (b : Nat) (kvs' : List (V × V)) : Ab := { E with w := { E.w with heap := E.w.heap.setIfInBounds (E.φ b) (.map (GK kvs') kvs'.length) }, H := E.H.set b (.mp kvs') }
theorem nX {b : Nat} {BC kvs' : List (V × V)} (uy : E.w.heap[E.φ b]? = some (.map (GK BC) BC.length)) (hb : E.H[b]? = some (.mp BC)) (uf : AT E.lk b = true) (hnh : E.φ b ∉ E.Bl) : Hj E (E.Dx b kvs') b BC kvs' where
 heap := fun g => by
  show (E.w.heap.setIfInBounds (E.φ b) _)[g]? = _
  rw [Array.getElem?_setIfInBounds]
  have := (ef.1 uy).1
  by_cases hg : E.φ b = g
  ·rw [ru hg, ru hg.symm, ru (by omega)]
  ·rw [rr hg, rr (fun e => hg e.symm)]
 size := by show (E.w.heap.setIfInBounds _ _).size = _; simp
 os := rfl
 tape := rfl
 output := rfl
 Ce := rfl
 H := rfl
 lk := rfl
 n := rfl
 m := rfl
 Wt := hb
 Bl := rfl
 Nh := hnh
 row := uy
 free := uf
theorem Mr (hs : D1 c E S a) {b : Nat} {BC kvs' : List (V × V)} (hb : S.H[b]? = some (.mp BC)) (uy : E.w.heap[E.φ b]? = some (.map (GK BC) BC.length)) (hm : c.Bi b = true) (hp : ∀ x ∈ kvs', Be x.1 = true ∧ Be x.2 = true) : B9 c E (E.Dx b kvs') (S.H.set b (.mp kvs')) := by
 have hw := nX (kvs' := kvs') uy (by rw [hs.H]; exact hb) (by rw [hs.lk]; exact Il hs.Dv hm) (fun e => (hs.heap.Bl _ e).2 b (by rw [hs.H, hb]; trivial) rfl)
 exact hw.after hs hm (hw.rel hs.heap hp)
theorem TM (hs : D1 c E S a) {t : ea} {x k y : ed} {m kv v : V} {H' : A5} (ho : o.op = .mapUpdate t x k y) (hx : ev S.T x = some m) (hk : ev S.T k = some kv) (hy : ev S.T y = some v) (h : Tl c t S.H m kv v = some H') : GA c E a o CT H' := by
  have r1 := BB hs x _ hx
  have r2 := BB hs k _ hk
  have r3 := BB hs y _ hy
  unfold Tl at h
  split at h
  case h_2 => cases h
  rename_i b
  split at h
  case h_2 => cases h
  rename_i BC hb
  simp only [dj] at h
  obtain ⟨q, hq, h⟩ := h
  split at h
  case isFalse => cases h
  rename_i hc
  obtain ⟨c1, c2, c3, c4⟩ := hc
  simp only [dn] at h
  obtain ⟨r, hr, h⟩ := h
  obtain ⟨e1, e2, e3⟩ := Od hs hb r1
  obtain ⟨kt, hu, hkt⟩ := KY hq
  have ek := Hg c1 r2
  have ev' := Hg c2 r3
  have hchk := NL (P := c.P) (w := E.w) hkt c3 false
  have xr := R3 (P := c.P) (w := E.w) E hkt c1 e3 hr
  have hmem : ∀ (l : List (V × V)), (∀ x ∈ l, x ∈ BC ∨ x = (kv, v)) → ∀ x ∈ l, Be x.1 = true ∧ Be x.2 = true := fun l hl x hx => by
    rcases hl x hx with h | rfl
    · exact e3 x h
    · exact ⟨c1, c2⟩
  cases r with
  | some r =>
    obtain ⟨j, vv⟩ := r
    simp only [] at h
    subst h
    obtain ⟨n, kk, h1, h2, h3⟩ := Is BC 0 j vv hr
    have hj : j = n := by omega
    subst hj
    have hkk := NW hkt h3
    refine ⟨_, Mr hs hb e2 c4 (hmem _ fun x hx => ?_), .inr ⟨?_, LS _⟩⟩
    · rcases mq hx with h | h
      · exact .inl h
      · exact .inr h
    · have wi := SG (P := c.P) (w := E.w) c1
      have hes : (GK BC)[j]? = some { key := B6 kv, val := B6 vv, born := j } := by rw [Ho, h2, hkk]; rfl
      have hset := PA BC j kv v (fun e => { e with key := B6 kv, val := B6 v }) (fun _ _ => rfl)
      simp only [execOp, ho, Instr.mapUpdate, e1, ek, ev', Sem.run_bind, run_underlying hu, Result.andThen_ok, Go.MapKept.run_getObj_map e2, Sem.run_pure, hchk, xr, dq, hes, ji, wi, Go.MapKept.run_setObj_map _ e2]
      rw [hset]
      show _ = Result.ok _ ({ E.w with heap := E.w.heap.setIfInBounds (E.φ b) (.map (GK (BC.set j (kv, v))) (BC.set j (kv, v)).length) })
      rw [fa]
  | none =>
    simp only [] at h
    subst h
    refine ⟨_, Mr hs hb e2 c4 (hmem _ fun x hx => ?_), .inr ⟨?_, LS _⟩⟩
    · rcases eb.1 hx with h | h
      · exact .inl h
      · exact .inr (dt.1 h)
    · have hpush := Rk BC kv v
      simp only [execOp, ho, Instr.mapUpdate, e1, ek, ev', Sem.run_bind, run_underlying hu, Result.andThen_ok, Go.MapKept.run_getObj_map e2, Sem.run_pure, hchk, xr, kl, Go.MapKept.run_setObj_map _ e2]
      rw [hpush]
      show _ = Result.ok _ ({ E.w with heap := E.w.heap.setIfInBounds (E.φ b) (.map (GK (BC ++ [(kv, v)])) (BC ++ [(kv, v)]).length) })
      rw [dw]
      rfl
theorem V4 {E : Ab} {z : V} {u : eu} {i : Nat} (h : AA E z u) : AA E (.Ei [z, .int .i64 i]) (.tuple #[u, .int .i64 i]) := by
 simp only [AA]
 refine ⟨_, rfl, ?_⟩
 simp only [AM, AA]
 exact ⟨_, _, rfl, h, _, _, rfl, rfl, rfl⟩
theorem Uq (hs : D1 c E S a) {t : ea} {x k : ed} {m kv v : V} {H' : A5} (ho : o.op = .mapEntry t x k) (hx : ev S.T x = some m) (hk : ev S.T k = some kv) (h : IZ c t S.H m kv = some (v, H')) : GA c E a o v H' := by
  have r1 := BB hs x _ hx
  have r2 := BB hs k _ hk
  unfold IZ at h
  split at h
  case h_2 => cases h
  rename_i b
  split at h
  case h_2 => cases h
  rename_i BC hb
  simp only [dj] at h
  obtain ⟨q, hq, h⟩ := h
  split at h
  case isFalse => cases h
  rename_i hc
  obtain ⟨c1, c3, c4⟩ := hc
  simp only [dj] at h
  obtain ⟨r, hr, h⟩ := h
  obtain ⟨e1, e2, e3⟩ := Od hs hb r1
  obtain ⟨kt, hu, hkt⟩ := KY hq
  have ek := Hg c1 r2
  have hchk := NL (P := c.P) (w := E.w) hkt c3 false
  have xr := R3 (P := c.P) (w := E.w) E hkt c1 e3 hr
  cases r with
  | some r =>
    obtain ⟨j, vv⟩ := r
    simp only [an, dk] at h
    obtain ⟨rfl, rfl⟩ := h
    obtain ⟨n, kk, h1, h2, h3⟩ := Is BC 0 j vv hr
    have hj : j = n := by omega
    subst hj
    have hkk := NW hkt h3
    have hpl := (e3 _ (ee h2)).2
    have hA := Mr (kvs' := BC.set j (kv, vv)) hs hb e2 c4 (fun x hx => by
      rcases mq hx with h | h
      · exact e3 x h
      · subst h; exact ⟨c1, hpl⟩)
    refine ⟨_, hA, .inl ⟨.tuple #[B6 vv, .int .i64 j], ?_, V4 (Ke _ hpl)⟩⟩
    have wi := SG (P := c.P) (w := E.w) c1
    have hes : (GK BC)[j]? = some { key := B6 kv, val := B6 vv, born := j } := by rw [Ho, h2, hkk]; rfl
    have hset := PA BC j kv vv (fun e => { e with key := B6 kv }) (fun x hx => by rw [h2] at hx; cases hx; rfl)
    simp only [execOp, ho, Instr.mapEntry, e1, ek, Sem.run_bind, run_underlying hu, Result.andThen_ok, Go.MapKept.run_getObj_map e2, Sem.run_pure, hchk, xr, dq, hes, ji, wi, Go.MapKept.run_setObj_map _ e2]
    rw [hset]
    show _ = Result.ok _ ({ E.w with heap := E.w.heap.setIfInBounds (E.φ b) (.map (GK (BC.set j (kv, vv))) (BC.set j (kv, vv)).length) })
    rw [fa]
    rfl
  | none =>
    simp only [dj] at h
    obtain ⟨z, hz, h⟩ := h
    split at h
    case isFalse => cases h
    rename_i hzp
    simp only [an, dk] at h
    obtain ⟨rfl, rfl⟩ := h
    obtain ⟨zx, hzr, hzo⟩ := SV hz E.w
    have ez : zx = B6 z := Hg hzp (IU E zx z hzo)
    have hA := Mr (kvs' := BC ++ [(kv, z)]) hs hb e2 c4 (fun x hx => by
      rcases eb.1 hx with h | h
      · exact e3 x h
      · rw [dt.1 h]; exact ⟨c1, hzp⟩)
    refine ⟨_, hA, .inl ⟨.tuple #[zx, .int .i64 BC.length], ?_, V4 (by rw [ez]; exact Ke _ hzp)⟩⟩
    have hpush := Rk BC kv z
    rw [← ez] at hpush
    simp only [execOp, ho, Instr.mapEntry, e1, ek, Sem.run_bind, run_underlying hu, Result.andThen_ok, Go.MapKept.run_getObj_map e2, Sem.run_pure, hchk, xr, kl, hzr, Go.MapKept.run_setObj_map _ e2]
    rw [hpush]
    show _ = Result.ok _ ({ E.w with heap := E.w.heap.setIfInBounds (E.φ b) (.map (GK (BC ++ [(kv, z)])) (BC ++ [(kv, z)]).length) })
    rw [dw]
    rfl
theorem Up (hs : D1 c E S a) {t : ea} {x st y : ed} {m sv v : V} {H' : A5} (ho : o.op = .entryStore t x st y) (hx : ev S.T x = some m) (wi : ev S.T st = some sv) (hy : ev S.T y = some v) (h : L7 c S.H m sv v = some H') : GA c E a o CT H' := by
 have r1 := BB hs x _ hx
 have r2 := BB hs st _ wi
 have r3 := BB hs y _ hy
 unfold L7 at h
 split at h
 case h_2 => cases h
 rename_i b kd i
 split at h
 case h_2 => cases h
 rename_i BC hb
 split at h
 case isFalse => cases h
 rename_i hc
 obtain ⟨c1, c2, c4⟩ := hc
 simp only [dn] at h
 obtain ⟨e, he, rfl⟩ := h
 obtain ⟨e1, e2, e3⟩ := Od hs hb r1
 simp only [AA] at r2
 have ev' := Hg c2 r3
 have hel := e3 _ (ee he)
 have hA := Mr (kvs' := BC.set i.toNat (e.1, v)) hs hb e2 c4 (fun x hx => by
  rcases mq hx with h | h
  ·exact e3 x h
  ·subst h; exact ⟨hel.1, c2⟩)
 refine ⟨_, hA, .inr ⟨?_, LS _⟩⟩
 have sd := (du.1 he).1
 have hfi : (GK BC).findIdx? (fun e => (e.born : Int) == i) = some i.toNat := by
  rw [Array.findIdx?_eq_some_iff_getElem]
  have hg : ∀ j (hj : j < (GK BC).size), (GK BC)[j].born = j := by
   intro j hj
   have h1 := Ho BC j
   rw [lf hj] at h1
   have zg : j < BC.length := by rw [← Mv]; exact hj
   rw [dr zg] at h1
   simp only [dq, an] at h1
   rw [h1]
  refine ⟨by rw [Mv]; exact sd, ?_, fun j hj => ?_⟩
  ·rw [hg]
   simp only [beq_iff_eq]
   omega
  ·rw [hg]
   simp only [beq_iff_eq]
   omega
 have hset := PA BC i.toNat e.1 v (fun e => { e with val := B6 v }) (fun x hx => by rw [he] at hx; cases hx; rfl)
 simp only [execOp, ho, Instr.entryStore, e1, r2, ev', asInt, asIntOf, Sem.run_bind, Result.andThen_ok, Go.MapKept.run_getObj_map e2, Sem.run_pure, hfi, Go.MapKept.run_setObj_map _ e2]
 rw [hset]
 show _ = Result.ok _ ({ E.w with heap := E.w.heap.setIfInBounds (E.φ b) (.map (GK (BC.set i.toNat (e.1, v))) (BC.set i.toNat (e.1, v)).length) })
 rw [fa]
end
end Go.Proofs.YtjklepgidjimfaaGreat.K
