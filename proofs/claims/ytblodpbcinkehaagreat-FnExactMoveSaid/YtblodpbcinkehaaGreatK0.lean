/-
 An interpreter of the Go code, proved sound, and the rules by which typed functions are shown to be what it computes. Part 1 of 3. No conditions.
-/
import Derived.Calls
import Derived.Orders
import Derived.Deep.Draws
import Derived.Laws.BytesString
import Derived.RowKit3
import Derived.Laws.Rows
import Derived.Laws.StructEq
import Derived.Laws.Append
import Derived.Laws.CopyRow
import Derived.Laws.Cells
import Derived.WideLaws
import Derived.Lib.MinMax
import Derived.Laws.Alloc2
import Derived.Laws.MakeOwn
import Derived.Laws.AppendOwn
import Derived.Great.BuildSlice
import Derived.MapKept
set_option linter.unusedVariables false
set_option linter.unusedSimpArgs false
namespace Go.Proofs.YtblodpbcinkehaaGreat.K
open Go renaming IntKind → fc, FuncId → fh, Value → bm, Operand → aw, Program → bg, TypeId → ao, Oper → bq, ResultVar → dv, World → ej
open List renaming range → da, replicate → ch, all_eq_true → cb, mem_of_mem_take → lY, map_nil → fq, map_cons → df, getElem?_cons_zero → ee, tail → ma, eq_nil_of_length_eq_zero → bx, getElem?_map → dj, getElem?_eq_getElem → aj, getElem?_eq_none → bf, length_take → dq, getElem?_take → dn, getElem?_drop → eg, getElem?_range → et, map_toArray → il, getElem?_toArray → ik, foldlM_cons → m8, foldlM_nil → mD, getElem?_set → jj, length_map → fe, length_range → ia, length_append → aq, length_singleton → dw, take_of_length_le → eh, getElem?_append_left → az, append_assoc → bj, getElem?_take_of_lt → eo, getElem?_append_right → cd, getElem?_of_mem → lZ, getElem?_eq_some_iff → al, getElem_mem → dc, size_toArray → je, length_drop → kn, replicate_succ → jz, flatten_cons → lu, take_left → kl, all_cons → fg, mem_cons_self → bu, mem_cons_of_mem → ca, mem_of_getElem? → bh, mem_or_eq_of_mem_set → jc, length_set → cp, mem_append → au, mem_singleton → bl
open Nat renaming le_refl → ak, le_trans → bt, not_lt → dt, lt_of_lt_of_le → ck, zero_le → db, add_assoc → gk, lt_or_ge → bz, zero_add → fy, mul_le_mul_right → fx, le_of_lt → jy, ne_of_lt → mV, add_zero → ju, add_mul → gz, one_mul → mX, zero_mul → lQ, mul_eq_zero → mL, lt_irrefl → ig, mul_add → mY, mul_one → mZ
open Option.some renaming injEq → aa
open Option renaming bind_eq_some_iff → ae, map_eq_some_iff → af, map_some → ai, getD_some → er, map_none → gg
open Bool renaming false_eq_true → ba, and_eq_true → av, not_eq_true' → ft, or_eq_true → de, not_eq_false → lq
open _root_.Array renaming ext' → iu, getElem?_eq_some_iff → ar, getElem?_push → gl, size_push → jk, getElem?_toList → en, length_toList → gm, getElem?_eq_getElem → gu, eq_empty_of_size_eq_zero → ka, range_zero' → ja, size_append → lh, toList_append → la, ext_getElem? → ld
open Prod.mk renaming injEq → ag
inductive V where
 | int (k : fc) (n : Int)
 | bool (b : Bool)
 | str (s : ByteArray)
 | Gg
 | ptr (b off : Nat)
 | lp (lv : Nat) (cells : List V) (off : Nat)
 | lit (lv len : Nat) (cells : List V)
 | tl (len : Nat) (cells : List V)
 | snap (b len : Nat) (cells : List V)
 | pre (b n len : Nat) (cells : List V)
 | sl (b off len : Nat)
 | agg (cells : List V)
 | EZ (vs : List V)
 | fn (f : fh) (caps : List V)
 | Dw
 | D3 (b : Nat)
 deriving Inhabited
inductive Bb where
 | cells (sz : Nat) (cs : List V)
 | BT (lv n sz : Nat)
 | dead
 | mp (As : List (V × V))
 deriving Inhabited
abbrev A4 := List Bb
abbrev Lk := List (List Nat)
inductive Qq where | M8 | exact | share | part
 deriving DecidableEq
structure BI where
 Es : fh → List Qq
 Qj : fh → Bool
 grow : fh → Bool
 IA : fh → Bool
 lits : fh → Bool := fun _ => false
def V.cellsOf : V → List V
 | .agg cs => cs
 | v => [v]
def V.Ba : V → Bool
 | .agg _ | .EZ _ => false
 | _ => true
def C7 : V := .EZ []
def DR : bm → Option V
 | .int k n => some (.int k n)
 | .bool b => some (.bool b)
 | .string s => some (.str s)
 | .pointer none => some .Gg
 | .slice none 0 0 => some (.tl 0 [])
 | .nilFunc => some .Dw
 | _ => none
def KZ : List bm → Option (List V)
 | [] => some []
 | v :: vs => (DR v).bind fun x => (KZ vs).map (x :: ·)
def Dq : bm → Option V
 | .agg cs => (KZ cs.toList).map .agg
 | v => DR v
structure St where
 T : Nat → V
 H : A4
def St.set (S : St) (d : Nat) (v : V) : St := { S with T := fun i => if i = d then v else S.T i }
def St.put (S : St) (d : Option Nat) (v : V) : St := match d with | some d => S.set d v | none => S
def ev (T : Nat → V) : aw → Option V
 | .tmp t => some (T t)
 | .const v => Dq v
 | .func f => some (.fn f [])
 | .global _ => none
section types
variable (P : bg)
def Aw (t : ao) : Option Nat := (P.info? t).map (·.size)
def CU (t : ao) : Option Nat := (P.info? t).map (·.bytes)
def D6 (t : ao) : Option Bool :=
 match P.underlying t with
 | some (.struct _) | some (.array _ _) => some true
 | some _ => some false
 | none => none
def BG (t : ao) : Option (List V) := ((P.info? t).bind (·.zero)).bind fun z => (Dq z).map V.cellsOf
def B4 (t : ao) : Option ao := match P.underlying t with | some (.slice e) => some e | _ => none
def AK (s : ao) (f : Nat) : Option Nat :=
 match P.underlying s with
 | some (.struct fs) => match fs[f]? with
  | some g => match Aw P g.type with
   | some (_ + 1) => some g.offset
   | _ => none
  | none => none
 | _ => none
def Dg (t : ao) : Option (List (Nat × Nat)) :=
 match P.underlying t with
 | some (.struct fs) => fs.toList.mapM fun f => (P.info? f.type).map fun i => (f.offset, i.size)
 | _ => none
def jB (e : ao) : Bool := match P.underlying e with | some (.int .u8) => true | _ => false
inductive Sc where | b | i | s
 deriving DecidableEq
def EB (t : ao) : Option Sc :=
 match P.underlying t with
 | some .bool => some .b
 | some (.int _) => some .i
 | some .string => some .s
 | _ => none
def Ds (n : Nat) : List Field → Option (List Sc)
 | [] => some []
 | f :: fs => if f.name ≠ "_" ∧ f.offset = n ∧ Aw P f.type = some 1 then (EB P f.type).bind fun k => (Ds (n + 1) fs).map (k :: ·) else none
def IQ (t : ao) : Option (List Sc) :=
 match P.underlying t with
 | some (.struct fs) => if !P.stoodInHeld t && !P.eqGuardType P.depth t then Ds P 0 fs.toList else none
 | _ => none
end types
def Ic (acc : ByteArray) : List V → Option ByteArray
 | [] => some acc
 | .int .u8 n :: cs => Ic (acc.push (UInt8.ofNat n.toNat)) cs
 | _ => none
def C6 (cs : List V) (off : Nat) (xs : List V) : List V := cs.take off ++ xs ++ cs.drop (off + xs.length)
def Ee : Sc → V → V → Option Bool
 | .i, .int k a, .int k' b => if k = k' then some (a == b) else none
 | .b, .bool a, .bool b => some (a == b)
 | .s, .str a, .str b => some (a.toList == b.toList)
 | _, _, _ => none
def CV : List Sc → List V → List V → Option Bool
 | [], _, _ => some true
 | k :: ks, x :: xs, y :: ys => (Ee k x y).bind fun b => if b then CV ks xs ys else some false
 | _, _, _ => none
def U0 (op : BinOp) (k : fc) (a b : Int) : Option V :=
 match op with
 | .add => some (.int k (k.wrap (a + b)))
 | .sub => some (.int k (k.wrap (a - b)))
 | .mul => some (.int k (k.wrap (a * b)))
 | .quo => if b = 0 then none else some (.int k (k.wrap (a.tdiv b)))
 | .rem => if b = 0 then none else some (.int k (a.tmod b))
 | .xor => some (.int k (k.wrap (BitVec.ofInt k.bits a ^^^ BitVec.ofInt k.bits b).toNat))
 | .eql => some (.bool (a == b))
 | .neq => some (.bool (a != b))
 | .lss => some (.bool (decide (a < b)))
 | .leq => some (.bool (decide (a ≤ b)))
 | .gtr => some (.bool (decide (a > b)))
 | .geq => some (.bool (decide (a ≥ b)))
 | _ => none
def Qw (P : bg) (op : BinOp) (t : ao) (x y : V) : Option V :=
 match x, y with
 | .int k a, .int k' b => if k = k' then U0 op k a b else none
 | .bool a, .bool b =>
  match op, P.underlying t with
  | .eql, some .bool => some (.bool (a == b))
  | .neq, some .bool => some (.bool (!(a == b)))
  | _, _ => none
 | .str a, .str b =>
  match op with
  | .eql => some (.bool (a.toList == b.toList))
  | .neq => some (.bool !(a.toList == b.toList))
  | .add => if a.size + b.size ≤ 1099511627776 then some (.str (a ++ b)) else none
  | _ => none
 | .agg xs, .agg ys =>
  (IQ P t).bind fun ks =>
   match op with
   | .eql => (CV ks xs ys).map .bool
   | .neq => (CV ks xs ys).map fun b => .bool !b
   | _ => none
 | _, _ => none
def iO (op : UnOp) (x : V) : Option V :=
 match op, x with
 | .not, .bool b => some (.bool !b)
 | .neg, .int k n => some (.int k (k.wrap (0 - n)))
 | _, _ => none
def Cd : V → Option Nat
 | .lit _ n _ | .tl n _ | .snap _ n _ | .pre _ _ n _ | .sl _ _ n => some n
 | _ => none
def Fu (H : A4) (sz : Nat) : V → Option (List V)
 | .lit _ _ cs | .tl _ cs | .snap _ _ cs | .pre _ _ _ cs => some cs
 | .sl b off len => match H[b]? with
  | some (.cells z cs) => if z = sz ∧ off + len * sz ≤ cs.length then some ((cs.drop off).take (len * sz)) else none
  | _ => none
 | _ => none
def BH (P : bg) (t : ao) (cs : List V) (off : Nat) : Option V :=
 match D6 P t with
 | some true => (Aw P t).bind fun n => if off + n ≤ cs.length then some (.agg ((cs.drop off).take n)) else none
 | some false => cs[off]?
 | none => none
def Ep (P : bg) (t : ao) (H : A4) : V → Option V
 | .ptr b off => match H[b]? with
  | some (.cells _ cs) => BH P t cs off
  | _ => none
 | .lp _ cs off => BH P t cs off
 | _ => none
def clean (d : Nat) : V → Bool
 | .int .. | .bool _ | .str _ | .Gg | .Dw => true
 | .lit lv _ cs => (lv == 0 || decide (lv < d)) && cleanL cs
 | .agg cs => cleanL cs
 | .EZ cs => cleanL cs
 | _ => false
where
 cleanL : List V → Bool
  | [] => true
  | v :: vs => clean d v && cleanL vs
def Af (lo : Nat) : Nat → A4 → V → Option (V × A4)
 | 0, _, _ => none
 | k + 1, H, v =>
  match v with
  | .int .. | .bool _ | .str _ | .Gg | .Dw => some (v, H)
  | .lit .. => if clean 1 v then some (v, H) else none
  | .tl n cs => (giveL (Af lo k) H cs).map fun r => (.lit 0 n r.1, r.2)
  | .snap b n cs => match H[b]? with
   | some (.BT _ m _) => if b < lo ∨ m ≠ n then none else (giveL (Af lo k) (H.set b .dead) cs).map fun r => (.lit 0 n r.1, r.2)
   | _ => none
  | .sl b off n => match H[b]? with
   | some (.cells sz cs) => if b < lo ∨ cs.length < off + n * sz then none else
     (giveL (Af lo k) (H.set b .dead) ((cs.drop off).take (n * sz))).map fun r => (.lit 0 n r.1, r.2)
   | _ => none
  | .agg cs => (giveL (Af lo k) H cs).map fun r => (.agg r.1, r.2)
  | _ => none
where
 giveL (f : A4 → V → Option (V × A4)) : A4 → List V → Option (List V × A4)
  | H, [] => some ([], H)
  | H, v :: vs => (f H v).bind fun r => (giveL f r.2 vs).map fun q => (r.1 :: q.1, q.2)
def Bk (d : Nat) : V → Bool
 | .int .. | .bool _ | .str _ | .Gg | .Dw | .ptr .. | .sl .. | .D3 _ => true
 | .lit lv _ cs => (lv == 0 || decide (lv < d)) && cleanGL cs
 | .agg cs => cleanGL cs
 | .EZ cs => cleanGL cs
 | .tl _ cs => cleanGL cs
 | .snap _ _ cs => cleanGL cs
 | .fn _ cs => cleanGL cs
 | _ => false
where
 cleanGL : List V → Bool
  | [] => true
  | v :: vs => Bk d v && cleanGL vs
def AY (lv : Nat) (H : A4) : Nat → V → Option (V × List Nat)
 | 0, _ => none
 | k + 1, v =>
  match v with
  | .int .. | .bool _ | .str _ | .Gg | .Dw | .ptr .. | .D3 .. | .lp .. | .lit .. | .fn .. => some (v, [])
  | .tl n cs => (lendL (AY lv H k) cs).map fun r => (.lit lv n r.1, r.2)
  | .snap _ n cs => (lendL (AY lv H k) cs).map fun r => (.lit lv n r.1, r.2)
  | .pre _ _ n cs => (lendL (AY lv H k) cs).map fun r => (.lit lv n r.1, r.2)
  | .sl b off n => match H[b]? with
   | some (.cells sz cs) => if cs.length < off + n * sz then none else
     (lendL (AY lv H k) ((cs.drop off).take (n * sz))).map fun r => (.lit lv n r.1, b :: r.2)
   | _ => none
  | .agg cs => (lendL (AY lv H k) cs).map fun r => (.agg r.1, r.2)
  | .EZ _ => none
where
 lendL (f : V → Option (V × List Nat)) : List V → Option (List V × List Nat)
  | [] => some ([], [])
  | v :: vs => (f v).bind fun r => (lendL f vs).map fun q => (r.1 :: q.1, r.2 ++ q.2)
def Au (th : Bool) (lo d : Nat) : Nat → A4 × List Bb → V → Option (V × A4 × List Bb)
 | 0, _, _ => none
 | k + 1, X, v =>
  match v with
  | .int .. | .bool _ | .str _ | .Gg | .Dw => some (v, X)
  | .ptr b _ => if b < lo then some (v, X) else none
  | .D3 b => if b < lo then some (v, X) else none
  | .lit .. => if clean d v then some (v, X) else none
  | .tl n cs => if n = 0 then some (if th then .tl 0 [] else .lit 0 0 [], X) else (resL (Au th lo d k) X cs).map fun r => (.lit 0 n r.1, r.2)
  | .snap b n cs => match X.1[b]? with
   | some (.BT l m sz) => if b < lo ∨ m ≠ n ∨ l < d then none else
     (resL (Au th lo d k) (X.1.set b .dead, X.2) cs).bind fun r =>
      if th then if cs.length = n * sz then some (.sl (lo + r.2.2.length) 0 n, r.2.1, r.2.2 ++ [.cells sz r.1]) else none else some (.lit 0 n r.1, r.2)
   | _ => none
  | .pre b m0 n cs => match X.1[b]? with
   | some (.BT l m sz) => if m ≠ m0 then none else if b < lo then (if clean.cleanL d cs then some (v, X) else none) else if l < d then none else
     (resL (Au th lo d k) (X.1.set b .dead, X.2) cs).bind fun r =>
      if th then if cs.length = n * sz then some (.sl (lo + r.2.2.length) 0 n, r.2.1, r.2.2 ++ [.cells sz r.1]) else none else some (.lit 0 n r.1, r.2)
   | _ => none
  | .sl b off n => if b < lo then some (v, X) else match X.1[b]? with
   | some (.cells sz cs) => if cs.length < off + n * sz then none else
     (resL (Au th lo d k) (X.1.set b .dead, X.2) ((cs.drop off).take (n * sz))).bind fun r =>
      if th then if off = 0 ∧ n * sz = cs.length then some (.sl (lo + r.2.2.length) 0 n, r.2.1, r.2.2 ++ [.cells sz r.1]) else none else some (.lit 0 n r.1, r.2)
   | _ => none
  | .agg cs => (resL (Au th lo d k) X cs).map fun r => (.agg r.1, r.2)
  | .EZ cs => (resL (Au th lo d k) X cs).map fun r => (.EZ r.1, r.2)
  | _ => none
where
 resL (f : A4 × List Bb → V → Option (V × A4 × List Bb)) : A4 × List Bb → List V → Option (List V × A4 × List Bb)
  | X, [] => some ([], X)
  | X, v :: vs => (f X v).bind fun r => (resL f r.2 vs).map fun q => (r.1 :: q.1, q.2)
def CA : Nat := 8
structure Cx where
 P : bg
 hints : BI
 fn : fh
 ntmps : Nat
 base : Nat
 lk : Lk
 still : Bool := false
 calm : Bool := false
 Γ : fh → List V → A4 → Lk → Option (V × A4)
def Cx.d (c : Cx) : Nat := c.lk.length
def Cx.lits (c : Cx) : Bool := c.hints.lits c.fn
def Cx.own (c : Cx) (n : Nat) : Bool := n != 0 && c.hints.lits c.fn
def AT (lk : Lk) (b : Nat) : Bool := lk.all fun l => !l.contains b
def Cx.BX (c : Cx) (b : Nat) : Bool := decide (c.base ≤ b) || AT c.lk b
def Oq (T : Nat → V) : List aw → Option (List V)
 | [] => some []
 | o :: os => (ev T o).bind fun v => (Oq T os).map (v :: ·)
def O8 : V → V
 | .snap b n cs => .pre b n n cs
 | v => v
def UA : V → V
 | .agg cs => .agg (cs.map O8)
 | v => O8 v
def Fo (c : Cx) (m : Qq) (H : A4) (v : V) : Option (V × List Nat × A4) :=
 match m with
 | .M8 => (AY (c.d + 1) H CA v).map fun r => (r.1, r.2, H)
 | .exact => some (v, [], H)
 | .part => some (UA v, [], H)
 | .share => if c.calm then none else (Af c.base CA H v).map fun r => (r.1, [], r.2)
def Cx.DB (c : Cx) (g : fh) (L : List Nat) (H : A4) : List Nat :=
 if c.calm then L ++ da H.length else if c.hints.grow g && !c.hints.grow c.fn then L ++ da c.base else L
def Ah (c : Cx) : List Qq → A4 → List V → Option (List V × List Nat × A4)
 | _, H, [] => some ([], [], H)
 | ms, H, v :: vs =>
  (Fo c (ms.headD .M8) H v).bind fun r => (Ah c ms.tail r.2.2 vs).map fun q => (r.1 :: q.1, r.2.1 ++ q.2.1, q.2.2)
def FL (c : Cx) (H : A4) (v : V) : Option (V × A4) := if c.hints.IA c.fn then some (v, H) else if c.still then (if clean 1 v then some (v, H) else none) else Af c.base CA H v
def FE (c : Cx) (t : ao) (H : A4) (a x : V) : Option A4 :=
 match a with
 | .ptr b off =>
  if c.BX b then
   (if b < c.base then (if c.hints.grow c.fn then if Bk 1 x then some (x, H) else none else Af c.base CA H x) else some (x, H)).bind fun r =>
   match r.2[b]? with
   | some (.cells sz cs) =>
    if Aw c.P t = some r.1.cellsOf.length ∧ off + r.1.cellsOf.length ≤ cs.length ∧ r.1.cellsOf.all V.Ba = true then
     some (r.2.set b (.cells sz (C6 cs off r.1.cellsOf)))
    else none
   | _ => none
  else none
 | _ => none
def E6 (c : Cx) (st xt : ao) (H : A4) (s x : V) : Option (V × A4) :=
 (B4 c.P st).bind fun e => (Aw c.P e).bind fun sz => (CU c.P e).bind fun by_ => (BG c.P e).bind fun z =>
 if (B4 c.P xt).isSome ∧ sz ≠ 0 ∧ z.length = sz then
  (Cd x).bind fun n => (Fu H sz x).bind fun xs =>
  if xs.length = n * sz ∧ xs.all V.Ba = true then
   match s with
   | .tl m cs =>
    if n = 0 then some (s, H) else
    if cs.length = m * sz ∧ (m + n) * (by_ + 1) ≤ 70368744177664 then some (.snap H.length (m + n) (cs ++ xs), H ++ [.BT c.d (m + n) sz]) else none
   | .snap b m cs =>
    if n = 0 then some (s, H) else
    match H[b]? with
    | some (.BT l m' sz') =>
     if cs.length = m * sz ∧ (m + n) * (by_ + 1) ≤ 70368744177664 ∧ m' = m ∧ sz' = sz ∧ c.BX b = true then
      some (.snap b (m + n) (cs ++ xs), H.set b (.BT l (m + n) sz)) else none
    | _ => none
   | _ => none
  else none
 else none
def Ss : V → V
 | .tl 0 [] => .lit 0 0 []
 | v => v
def H8 (kp : Bool) (v : V) : V := if kp then v else Ss v
def Iv (P : bg) (kp : Bool) (t : ao) (H : A4) (n m : V) : Option (V × A4) :=
 match n, m with
 | .int .i64 a, .int .i64 b =>
  (B4 P t).bind fun e => (Aw P e).bind fun sz => (CU P e).bind fun by_ => (BG P e).bind fun z =>
  if a = b ∧ 0 ≤ a ∧ a * (by_ + 1) ≤ 70368744177664 ∧ z.length = sz ∧ sz ≠ 0 then
   some (.sl H.length 0 a.toNat, H ++ [.cells sz (ch a.toNat (z.map (H8 kp))).flatten])
  else none
 | _, _ => none
def DS (place : Nat → Option (Nat × Nat)) (cells : List V) : List (Nat × V) → Option (List V)
 | [] => some cells
 | (i, v) :: rest => match place i with
  | none => none
  | some (off, sz) => if v.cellsOf.length ≠ sz ∨ cells.length < off + sz ∨ v.cellsOf.all V.Ba = false then none else DS place (C6 cells off v.cellsOf) rest
def CH (c : Cx) : A4 → List (Nat × V) → Option (List (Nat × V) × A4)
 | H, [] => some ([], H)
 | H, (i, v) :: r => (FL c H v).bind fun x => (CH c x.2 r).map fun q => ((i, x.1) :: q.1, q.2)
def Qp (T : Nat → V) : List (Nat × aw) → Option (List (Nat × V))
 | [] => some []
 | (i, o) :: os => (ev T o).bind fun v => (Qp T os).map ((i, v) :: ·)
def BE : V → Bool
 | .int .. | .bool _ | .str _ => true
 | .agg cs => cs.all fun | .int .. | .bool _ | .str _ => true | _ => false
 | _ => false
def CZ : V → bm
 | .int k n => .int k n
 | .bool b => .bool b
 | .str s => .string s
 | _ => .pointer none
def Aj : V → bm
 | .agg cs => .agg (cs.map CZ).toArray
 | v => CZ v
def FG (As : List (V × V)) : Array MapEntry := (As.zipIdx.map fun x => { key := Aj x.1.1, val := Aj x.1.2, born := x.2 }).toArray
inductive KT where | one (q : Sc) | many (ks : List Sc)
 deriving DecidableEq
def OX (P : bg) (k : ao) : Option KT := match EB P k with
 | some q => some (.one q)
 | none => (IQ P k).bind fun ks => if ks.all (fun q => decide (q ≠ .s)) then some (.many ks) else none
def Dc : KT → V → V → Option Bool
 | .one .s, .str a, .str b => some (a == b)
 | .one .s, _, _ => none
 | .one q, x, y => Ee q x y
 | .many ks, .agg xs, .agg ys => if xs.length = ks.length ∧ ys.length = ks.length then CV ks xs ys else none
 | _, _, _ => none
def EN (kt : KT) (k : V) : List (V × V) → Nat → Option (Option (Nat × V))
 | [], _ => some none
 | e :: es, i => (Dc kt k e.1).bind fun b => if b then some (some (i, e.2)) else EN kt k es (i + 1)
def LF (P : bg) (t : ao) : Option (KT × ao) := match P.underlying t with
 | some (.map k e) => (OX P k).map fun kt => (kt, e)
 | _ => none
def Je (P : bg) (e : ao) : Option V := ((P.info? e).bind (·.zero)).bind Dq
def IT (P : bg) (t : ao) (H : A4) (x k : V) (ok : Bool) : Option V :=
 match x with
 | .D3 b => match H[b]? with
  | some (.mp As) => (LF P t).bind fun q => if BE k ∧ Dc q.1 k k = some true then (EN q.1 k As 0).bind fun
    | some (_, v) => some (if ok then .EZ [v, .bool true] else v)
    | none => (Je P q.2).map fun z => if ok then .EZ [z, .bool false] else z
   else none
  | _ => none
 | _ => none
def TQ (c : Cx) (t : ao) (H : A4) (x k v : V) : Option A4 :=
 match x with
 | .D3 b => match H[b]? with
  | some (.mp As) => (LF c.P t).bind fun q => if BE k ∧ BE v ∧ Dc q.1 k k = some true ∧ c.BX b = true then (EN q.1 k As 0).map fun
    | some (i, _) => H.set b (.mp (As.set i (k, v)))
    | none => H.set b (.mp (As ++ [(k, v)]))
   else none
  | _ => none
 | _ => none
def HO (c : Cx) (t : ao) (H : A4) (x k : V) : Option (V × A4) :=
 match x with
 | .D3 b => match H[b]? with
  | some (.mp As) => (LF c.P t).bind fun q => if BE k ∧ Dc q.1 k k = some true ∧ c.BX b = true then (EN q.1 k As 0).bind fun
    | some (i, v) => some (.EZ [v, .int .i64 i], H.set b (.mp (As.set i (k, v))))
    | none => (Je c.P q.2).bind fun z => if BE z then some (.EZ [z, .int .i64 As.length], H.set b (.mp (As ++ [(k, z)]))) else none
   else none
  | _ => none
 | _ => none
def Jk (c : Cx) (H : A4) (x stamp v : V) : Option A4 :=
 match x, stamp with
 | .D3 b, .int _ i => match H[b]? with
  | some (.mp As) => if 0 ≤ i ∧ BE v ∧ c.BX b = true then (As[i.toNat]?).map fun e => H.set b (.mp (As.set i.toNat (e.1, v))) else none
  | _ => none
 | _, _ => none
def Cl (T : Nat → V) (n : Nat) : Option aw → Option Nat
 | none => some n
 | some o => match ev T o with
  | some (.int _ i) => if 0 ≤ i then some i.toNat else none
  | _ => none
def C5 (c : Cx) (o : bq) (S : St) : Option (V × A4) :=
 let q (x : Option V) : Option (V × A4) := x.map fun v => (v, S.H)
 match o.op with
 | .move x | .assign x => q (ev S.T x)
 | .pick cnd a b => match ev S.T cnd with
  | some (.bool true) => q (ev S.T a)
  | some (.bool false) => q (ev S.T b)
  | _ => none
 | .alloc t => (Aw c.P t).bind fun sz => (BG c.P t).bind fun z => some (.ptr S.H.length 0, S.H ++ [.cells sz z])
 | .box t x => (Aw c.P t).bind fun sz => (ev S.T x).bind fun v => if v.cellsOf.all V.Ba then some (.ptr S.H.length 0, S.H ++ [.cells sz v.cellsOf]) else none
 | .build t parts => (Qp S.T parts.toList).bind fun ps => (BG c.P t).bind fun z => (Dg c.P t).bind fun pl =>
   q ((DS (fun i => pl[i]?) z ps).map .agg)
 | .buildSlice t n parts => (Qp S.T parts.toList).bind fun ps => (CH c S.H ps).bind fun r =>
   (B4 c.P t).bind fun e => (Aw c.P e).bind fun sz => (BG c.P e).bind fun z =>
   if z.length = sz ∧ sz ≠ 0 ∧ n * sz ≤ 1048576 then
    (DS (fun i => some (i * sz, sz)) (ch n z).flatten r.1).map fun cs => if c.own n = true then (.snap r.2.length n cs, r.2 ++ [.BT c.d n sz]) else (.tl n cs, r.2)
   else none
 | .load t a => (ev S.T a).bind fun v => q (Ep c.P t S.H v)
 | .store t a x => (ev S.T a).bind fun p => (ev S.T x).bind fun v => (FE c t S.H p v).map fun H => (C7, H)
 | .nilCheck x => match ev S.T x with
  | some (.ptr b off) => q (some (.ptr b off))
  | some (.lp lv cs off) => q (some (.lp lv cs off))
  | _ => none
 | .binOp op t x y _ => (ev S.T x).bind fun a => (ev S.T y).bind fun b => q (Qw c.P op t a b)
 | .unOp op _ x => (ev S.T x).bind fun a => q (iO op a)
 | .convert src dst x => match c.P.underlying src, c.P.underlying dst, ev S.T x with
  | some (.int _), some (.int k), some (.int _ n) => q (some (.int k (k.wrap n)))
  | some (.slice e), some .string, some (.tl n cs) => if n = cs.length ∧ jB c.P e = true then q ((Ic .empty cs).map .str) else none
  | _, _, _ => none
 | .makeFunc fn first caps => match fn, first.toList with
  | .func f, [] => (Oq S.T caps.toList).bind fun vs => q (some (.fn f vs))
  | _, _ => none
 | .makeSlice t n m => (ev S.T n).bind fun a => (ev S.T m).bind fun b => Iv c.P (c.hints.IA c.fn) t S.H a b
 | .slice t x lo hi mx => match mx with
  | none => (ev S.T x).bind fun v => (Cd v).bind fun n => (Cl S.T 0 lo).bind fun l => (Cl S.T n hi).bind fun h =>
   (B4 c.P t).bind fun e => (Aw c.P e).bind fun sz =>
   if l ≤ h ∧ h ≤ n then
    match v with
    | .lit lv _ cs => q (some (.lit lv (h - l) ((cs.drop (l * sz)).take ((h - l) * sz))))
    | .tl _ cs => q (some (.lit 0 (h - l) ((cs.drop (l * sz)).take ((h - l) * sz))))
    | .snap _ _ cs => q (some (.lit c.d (h - l) ((cs.drop (l * sz)).take ((h - l) * sz))))
    | .pre b m0 _ cs => q (if l = 0 then some (.pre b m0 h (cs.take (h * sz))) else none)
    | .sl b off _ => q (some (if l = h then .lit 0 0 [] else .sl b (off + l * sz) (h - l)))
    | _ => none
   else none
  | some mx => match lo, hi with
   | none, some hi => (ev S.T x).bind fun v => (Cd v).bind fun _ => (B4 c.P t).bind fun e => (Aw c.P e).bind fun _ =>
    match ev S.T hi, ev S.T mx with
    | some (.int _ i), some (.int _ j) => if i = 0 ∧ j = 0 then q (some (.tl 0 [])) else none
    | _, _ => none
   | _, _ => none
 | .fieldAddr s x f => (AK c.P s f).bind fun off => match ev S.T x with
  | some (.ptr b o) => q (some (.ptr b (o + off)))
  | some (.lp lv cs o) => q (some (.lp lv cs (o + off)))
  | _ => none
 | .field s x f => (AK c.P s f).bind fun off => match c.P.underlying s with
  | some (.struct fs) => match fs[f]?, ev S.T x with
   | some g, some (.agg cs) => q (BH c.P g.type cs off)
   | _, _ => none
  | _ => none
 | .indexAddr t x i => (B4 c.P t).bind fun e => (Aw c.P e).bind fun sz => (ev S.T x).bind fun v => match ev S.T i with
  | some (.int _ n) => (Cd v).bind fun len => if 0 ≤ n ∧ n < len then
    match v with
    | .lit lv _ cs => q (some (.lp lv cs (n.toNat * sz)))
    | .tl _ cs => q (some (.lp 0 cs (n.toNat * sz)))
    | .snap _ _ cs => q (some (.lp c.d cs (n.toNat * sz)))
    | .pre _ _ _ cs => q (some (.lp c.d cs (n.toNat * sz)))
    | .sl b off _ => q (some (.ptr b (off + n.toNat * sz)))
    | _ => none
   else none
  | _ => none
 | .index t x i => match c.P.underlying t, ev S.T x, ev S.T i with
  | some .string, some (.str s), some (.int _ n) => if 0 ≤ n then q ((s[n.toNat]?).map fun b => .int .u8 b.toNat) else none
  | _, _, _ => none
 | .extract x i => match ev S.T x with
  | some (.EZ vs) => q vs[i]?
  | _ => none
 | .makeMap _ none => some (.D3 S.H.length, S.H ++ [.mp []])
 | .lookup t x k ok => (ev S.T x).bind fun m => (ev S.T k).bind fun kv => q (IT c.P t S.H m kv ok)
 | .mapUpdate t x k v => (ev S.T x).bind fun m => (ev S.T k).bind fun kv => (ev S.T v).bind fun w => (TQ c t S.H m kv w).map fun H => (C7, H)
 | .mapEntry t x k => (ev S.T x).bind fun m => (ev S.T k).bind fun kv => HO c t S.H m kv
 | .entryStore _ x st v => (ev S.T x).bind fun m => (ev S.T st).bind fun s => (ev S.T v).bind fun w => (Jk c S.H m s w).map fun H => (C7, H)
 | .call k => match k.callee with
  | .builtin .len => match k.args.toList, k.argTypes[0]? with
   | [x], some t => match c.P.underlying t, ev S.T x with
    | some .string, some (.str s) => q (some (.int .i64 s.size))
    | some (.slice _), some v => (Cd v).bind fun n => q (some (.int .i64 n))
    | _, _ => none
   | _, _ => none
  | .builtin .append => match k.args.toList, k.argTypes.toList with
   | [s, x], [st, xt] => (ev S.T s).bind fun a => (ev S.T x).bind fun b => E6 c st xt S.H a b
   | _, _ => none
  | .builtin .min => match k.args.toList with
   | [x, y] => match ev S.T x, ev S.T y with
    | some (.int k a), some (.int _ b) => q (some (.int k (if b < a then b else a)))
    | _, _ => none
   | _ => none
  | .builtin .max => match k.args.toList with
   | [x, y] => match ev S.T x, ev S.T y with
    | some (.int k a), some (.int _ b) => q (some (.int k (if b > a then b else a)))
    | _, _ => none
   | _ => none
  | .value f => match ev S.T f with
   | some (.fn g caps) => (Oq S.T k.args.toList).bind fun vs =>
    (Ah c (c.hints.Es g) S.H (vs ++ caps)).bind fun r =>
     c.Γ g r.1 r.2.2 (c.lk ++ [c.DB g r.2.1 r.2.2])
   | _ => none
  | _ => none
 | _ => none
def IV (c : Cx) (o : bq) (S : St) : Option St :=
 match o.dst with
 | none => (C5 c o S).map fun r => { S with H := r.2 }
 | some d => if d < c.ntmps then (C5 c o S).map fun r => { S with H := r.2 }.set d r.1 else none
def CW (ops : Array bq) (T : Nat → V) (o : bq) : Option Bool :=
 match o.guard with
 | none => some true
 | some (j, want) => match (ops[j]?).bind (·.dst) with
  | some t => match T t with
   | .bool b => some (b == want)
   | .EZ [] => some false
   | _ => none
  | none => none
def BZ (c : Cx) (ops : Array bq) (o : bq) (S : St) : Option St :=
 (CW ops S.T o).bind fun b =>
  if b then IV c o S else match o.dst with | some d => if d < c.ntmps then some (S.set d C7) else none | none => some S
def DK (cf : Nat → Cx) (ops : Array bq) : List Nat → St → Option St
 | [], S => some S
 | i :: rest, S => match ops[i]? with
  | none => none
  | some o => (BZ (cf i) ops o S).bind fun S' => DK cf ops rest S'
def Ge (ow : Bool) (o : bq) : Bool :=
 match o.op with
 | .buildSlice .. => !ow
 | .move _ | .assign _ | .pick .. | .build .. | .nilCheck _ | .binOp .. | .unOp .. | .convert .. | .makeFunc .. | .slice .. | .fieldAddr .. | .field .. | .indexAddr .. | .index .. | .extract .. => true
 | .call k => match k.callee with
  | .builtin .len | .builtin .min | .builtin .max => true
  | _ => false
 | _ => false
def Gd (o : bq) : Bool := match o.op with | .load .. | .lookup .. => true | _ => false
def Df (o : bq) : Bool :=
 match o.op with
 | .alloc _ | .box .. | .makeSlice .. | .makeMap .. | .buildSlice .. => true
 | .call k => match k.callee with
  | .builtin .append | .value _ => true
  | _ => false
 | _ => false
def HN (ops : Array bq) (i : Nat) : List Nat := match ops[i]? with | some o => (o.after.toList.filter (Region.binds .any)).map (·.on) | none => []
def Ex (ops : Array bq) : List (List Nat) :=
 (da ops.size).foldl (fun tab i => tab ++ [((HN ops i) ++ (HN ops i).flatMap fun e => tab.getD e []).eraseDups]) []
def Ws (ow : Bool) (ops : Array bq) (tab : List (List Nat)) (done : List Nat) (left : List Nat) : Option Nat :=
 let ready := left.filter fun i => (HN ops i).all fun e => done.contains e
 match ready.find? (fun i => match ops[i]? with | some o => Ge ow o || Gd o | none => false) with
 | some i => some i
 | none => ready.head?
def Zc (ow : Bool) (ops : Array bq) (tab : List (List Nat)) : Nat → List Nat → List Nat → List Nat
 | 0, done, _ => done.reverse
 | n + 1, done, left => match Ws ow ops tab done left with
  | some i => Zc ow ops tab n (i :: done) (left.filter (· != i))
  | none => done.reverse
def Oc (ow : Bool) (ops : Array bq) : List Nat := Zc ow ops (Ex ops) ops.size [] (da ops.size)
def Nk (x y : bq) : Bool :=
 match x.op, y.op with
 | .lookup t (.tmp a) (.tmp k) false, .mapEntry t' (.tmp a') (.tmp k') => t == t' && a == a' && k == k'
 | _, _ => false
def HQ {α : Type} (x : Option α) : Bool := match x with | none => true | some _ => false
def IK (ow : Bool) (ops : Array bq) (x y : bq) : Bool :=
 Oper.apart ops x y && Oper.apart ops y x && (Ge ow x || Ge ow y || (Gd x && (Gd y || Df y)) || (Nk x y && HQ x.guard && HQ y.guard))
def KM (o : bq) : Bool := match o.op with | .alloc _ | .makeSlice .. => true | _ => false
def LO (ops : Array bq) (tab : List (List Nat)) (j m : Nat) : Bool :=
 match ops[j]?, ops[m]? with
 | some x, some y => KM y && HQ y.guard && !HQ y.dst && Oper.apart ops x y && Oper.apart ops y x && (da ops.size).all fun k => !(tab.getD k []).contains m || (tab.getD k []).contains j
 | _, _ => false
def Jh (ops : Array bq) (tab : List (List Nat)) (i : Nat) : Bool :=
 (da ops.size).any fun j => (match ops[j]? with | some o => Gd o | none => false) && !(tab.getD i []).contains j && !(tab.getD j []).contains i
def Du (o : bq) : Bool :=
 match o.op with
 | .call ⟨.value _, _, _⟩ => true
 | _ => false
def L4 (ops : Array bq) (tab : List (List Nat)) (j a : Nat) : Bool := (da ops.size).all fun k => (tab.getD j []).contains k || match ops[k]? with | some o => o.dst != some a | none => true
def Jt (ops : Array bq) (tab : List (List Nat)) (j i : Nat) : Option (Nat × Nat) :=
 match ops[j]?, ops[i]? with
 | some x, some y => match x.op, y.op with
  | .load _ (.tmp a), .store _ (.tmp b) _ => if HQ x.guard && HQ y.guard && Oper.apart ops x y && Oper.apart ops y x && L4 ops tab j a && L4 ops tab i b && x.dst != some a && HQ y.dst then some (a, b) else none
  | _, _ => none
 | _, _ => none
def G0 (base : Nat) : V → V → Bool
 | .ptr p _, .ptr q _ => p != q && decide (base ≤ q)
 | .lp .., .ptr q _ => decide (base ≤ q)
 | _, _ => false
def Wf (ops : Array bq) (tab : List (List Nat)) : List (Nat × Nat) :=
 (da ops.size).flatMap fun i => (da ops.size).filterMap fun j => if (tab.getD i []).contains j || (tab.getD j []).contains i then none else Jt ops tab j i
def Jw (ops : Array bq) (base : Nat) (T : Nat → V) : Bool := (Wf ops (Ex ops)).all fun p => G0 base (T p.1) (T p.2)
def CO (ow : Bool) (ops : Array bq) (tab : List (List Nat)) : List Nat → Bool
 | [] => true
 | j :: l => (l.all fun i => i != j && !(tab.getD j []).contains i && ((tab.getD i []).contains j || LO ops tab j i || (Jt ops tab j i).isSome || match ops[j]?, ops[i]? with | some x, some y => IK ow ops x y && (!Gd x || !Du y || Jh ops tab i) | _, _ => false)) && CO ow ops tab l
def Ih (ow : Bool) (ops : Array bq) : Bool :=
 let tab := Ex ops
 let ord := Oc ow ops
 (da ops.size).all (ord.contains ·) && ord.all (· < ops.size) &&
  (da ops.size).all (fun i => (HN ops i).all (· < i) && (tab.getD i []).all fun j => (HN ops i).any fun e => e == j || (tab.getD e []).contains j) && CO ow ops tab ord
def Ed (c : Cx) (ops : Array bq) (i : Nat) : Cx := { c with still := true, calm := Jh ops (Ex ops) i }
inductive X where | normal | exit (id : Nat) | ret
 deriving DecidableEq
def ED (f : St → Option (X × St)) : Nat → St → Option (X × St)
 | 0, _ => none
 | n + 1, S => match f S with
  | some (.normal, S') => ED f n S'
  | r => r
def AZ (c : Cx) (n : Nat) : Code → St → Option (X × St)
 | .skip, S => some (.normal, S)
 | .region _ ops draw, S => (if draw then (if Ih c.lits ops then (DK (Ed c ops) ops (Oc c.lits ops) S).bind fun S' => if Jw ops c.base S'.T then some S' else none else none) else DK (fun _ => c) ops (da ops.size) S).map fun S' => (.normal, S')
 | .seq a b, S => match AZ c n a S with
  | some (.normal, S') => AZ c n b S'
  | r => r
 | .cond x t e, S => match ev S.T x with
  | some (.bool true) => AZ c n t S
  | some (.bool false) => AZ c n e S
  | _ => none
 | .block id a, S => match AZ c n a S with
  | some (.exit i, S') => if i = id then some (.normal, S') else some (.exit i, S')
  | r => r
 | .loop a, S => ED (AZ c n a) n S
 | .exit id, S => some (.exit id, S)
 | .ret, S => some (.ret, S)
 | _, _ => none
def Av (P : bg) (H : A4) (T : Nat → V) : List dv → Option (List V)
 | [] => some []
 | .tmp t :: r => (Av P H T r).map (T t :: ·)
 | .cell a t :: r => (Ep P t H (T a)).bind fun v => (Av P H T r).map (v :: ·)
def Et : List V → V
 | [v] => v
 | vs => .EZ vs
def JX (vs : List V) : Nat → V := fun i => vs.getD i C7
def Wt (d : Nat) : Bb → Bb
 | .BT l n sz => .BT (min l (d - 1)) n sz
 | .cells sz cs => if cs.all (Bk d) then .cells sz cs else .dead
 | x => x
def EE (h : BI) (k : fh) (base d : Nat) (v : V) (H : A4) : Option (V × A4) :=
 if h.grow k then
  if Bk d v then some (v, H.take base ++ (H.drop base).map (Wt d)) else none
 else (Au (h.Qj k) base d CA (H, []) v).map fun r => (r.1, r.2.1.take base ++ r.2.2)
structure Kp where
 R0 : Code
 i : Nat
 o1 : bq
 o2 : bq
 p : Nat
 z : Nat
 q : Nat
 t : ao
 t2 : ao
 A : Code
 B : Code
def Sv (i : Nat) (R0 A B : Code) (q' : Nat) : List bq → Option Kp
 | [o1, o2] => match o1.dst, o1.op, o1.guard, o2.dst, o2.op, o2.guard with
  | some p, .move (.tmp z), none, some q, .binOp .eql t (.tmp p') (.const (.slice none 0 0)) t2, none => if p = p' ∧ q = q' then some ⟨R0, i, o1, o2, p, z, q, t, t2, A, B⟩ else none
  | _, _, _, _, _, _ => none
 | _ => none
def EO : Code → Option Kp
 | .seq R0 (.seq (.seq (.region i ops false) (.cond (.tmp q') A .skip)) B) => Sv i R0 A B q' ops.toList
 | _ => none
def Jo (P : bg) (rs : List dv) : Option (X × St) → Option (List V × A4)
 | some (.normal, S) | some (.ret, S) => (Av P S.H S.T rs).map fun vs => (vs, S.H)
 | _ => none
def MC (c : Cx) (n : Nat) (rs : List dv) (N : Kp) (S : St) (b : Bool) : Option (List V × A4) :=
 Jo c.P rs (AZ c n (if b then .seq N.A N.B else N.B) ((S.set N.p (S.T N.z)).set N.q (.bool b)))
open Classical in
noncomputable def Ik (c : Cx) (n : Nat) (rs : List dv) (body : Code) (S : St) : Option (List V × A4) :=
 match EO body with
 | none => Jo c.P rs (AZ c n body S)
 | some N => match AZ c n N.R0 S with
  | some (.normal, S0) => if N.p < c.ntmps ∧ N.q < c.ntmps ∧ N.p ≠ N.q ∧ (B4 c.P N.t).isSome = true then
    match Cd (S0.T N.z) with
    | some (_ + 1) => MC c n rs N S0 false
    | some 0 => if MC c n rs N S0 true = MC c n rs N S0 false then MC c n rs N S0 false else none
    | none => none
   else none
  | _ => none
noncomputable def Db (P : bg) (h : BI) : Nat → fh → List V → A4 → Lk → Option (V × A4)
  | 0, _, _, _, _ => none
  | n + 1, k, args, H, lk => match P.funcs[k]? with
    | some fn => match fn.body with
      | some body =>
        if args.length ≤ fn.ntmps ∧ (fn.name == "runtime.NumGoroutine") = false then
          let c : Cx := { P, hints := h, fn := k, ntmps := fn.ntmps, base := H.length, lk, Γ := Db P h n }
          (Ik c n fn.results.toList body { T := JX args, H }).bind fun r => EE h k H.length lk.length (Et r.1) r.2
        else none
      | none => none
    | none => none
def Wr (φ : Nat → Nat) (H : A4) (lk : Lk) (lv g i : Nat) : Prop :=
 ∃ b, φ b = g ∧ AT lk b = true ∧ match H[b]? with
  | some (.cells _ _) | some (.mp _) => True
  | some (.BT l n sz) => lv < l ∨ n * sz ≤ i
  | _ => False
def Sr (φ : Nat → Nat) (H : A4) (g i : Nat) : Prop :=
 ∃ b, φ b = g ∧ match H[b]? with
  | some (.cells _ _) | some (.mp _) => True
  | some (.BT _ n sz) => n * sz ≤ i
  | _ => False
structure AN where
 w : ej
 φ : Nat → Nat
 H : A4
 lk : Lk
 n : Nat
 m : Nat
 BM : List Nat
def AN.U (E : AN) (lv : Option Nat) (g i : Nat) : Prop :=
 g ∈ E.BM ∨ match lv with
 | some lv => Wr E.φ E.H (E.lk.take lv) lv g i
 | none => Sr E.φ E.H g i
def Nv (m : Nat) : Option Nat → Prop
 | some lv => lv ≤ m
 | none => True
def J0 (H : A4) (b : Nat) : Prop := ∀ l n sz, H[b]? ≠ some (.BT l n sz)
def Hp (H : A4) (b : Nat) : Prop := ∀ sz cs, H[b]? ≠ some (.cells sz cs)
def live : Option Bb → Prop
 | some (.cells _ _) | some (.BT _ _ _) | some (.mp _) => True
 | _ => False
def AN.MZ (E : AN) (g : Nat) : Prop := ∀ b, E.n ≤ b → live E.H[b]? → E.φ b ≠ g
mutual
def A6 (E : AN) : V → bm → Prop
 | .int k n, v => v = .int k n
 | .bool b, v => v = .bool b
 | .str s, v => v = .string s
 | .Gg, v => v = .pointer none
 | .Dw, v => v = .nilFunc
 | .ptr b off, v => b < E.n ∧ v = .pointer (some ⟨E.φ b, off, none⟩) ∧ J0 E.H b
 | .D3 b, v => b < E.n ∧ v = .map (some (E.φ b)) ∧ J0 E.H b
 | .lp lv cs off, v => lv ≤ E.m ∧ ∃ g o, v = .pointer (some ⟨g, o + off, none⟩) ∧ Br E (some lv) g o cs
 | .lit lv len cs, v => lv ≤ E.m ∧ ∃ A cap, v = .slice A len cap ∧ len ≤ cap ∧ (len = 0 ∨ ∃ g o, A = some ⟨g, o, none⟩ ∧ Br E (some lv) g o cs)
 | .tl len cs, v => ∃ A, v = .slice A len len ∧ (len = 0 ∨ ∃ g o, A = some ⟨g, o, none⟩ ∧ Br E (some 0) g o cs)
 | .snap b len cs, v => b < E.n ∧ (∃ A cap, v = .slice A len cap ∧ len ≤ cap ∧ (∃ g o, A = some ⟨g, o, none⟩ ∧ (0 < cs.length → E.MZ g) ∧ Br E none g o cs) ∧
   (∀ l n sz, E.H[b]? = some (.BT l n sz) → len ≤ n ∧ (len = n → A = some ⟨E.φ b, 0, none⟩ ∧ ∃ c t, E.w.heap[E.φ b]? = some (.cells c t (0, 0)) ∧ cap * sz = c.size))) ∧ Hp E.H b
 | .pre b m0 len cs, v => b < E.n ∧ (∃ A cap, v = .slice A len cap ∧ len ≤ cap ∧ (∃ g o, A = some ⟨g, o, none⟩ ∧ (0 < cs.length → E.MZ g) ∧ Br E none g o cs) ∧
   (∀ l n sz, E.H[b]? = some (.BT l n sz) → m0 ≤ n ∧ (m0 = n → A = some ⟨E.φ b, 0, none⟩ ∧ ∃ c t, E.w.heap[E.φ b]? = some (.cells c t (0, 0))))) ∧ Hp E.H b
 | .sl b off len, v => b < E.n ∧ (∃ cap, v = .slice (some ⟨E.φ b, off, none⟩) len cap ∧ len ≤ cap) ∧ J0 E.H b
 | .agg cs, v => ∃ vs : Array bm, v = .agg vs ∧ AH E cs vs.toList
 | .EZ cs, v => ∃ vs : Array bm, v = .tuple vs ∧ AH E cs vs.toList
 | .fn f cs, v => ∃ vs : Array bm, v = .func (.func f) #[] vs ∧ AH E cs vs.toList
def Br (E : AN) (lv : Option Nat) (g o : Nat) : List V → Prop
 | [] => True
 | c :: cs => (∃ u, E.w.cell? ⟨g, o, none⟩ = some u ∧ A6 E c u) ∧ ¬ E.U lv g o ∧ Br E lv g (o + 1) cs
def AH (E : AN) : List V → List bm → Prop
 | [], vs => vs = []
 | c :: cs, vs => ∃ u us, vs = u :: us ∧ A6 E c u ∧ AH E cs us
end
structure C1 (E : AN) : Prop where
 cells : ∀ b sz cs, E.H[b]? = some (.cells sz cs) → ∃ c t, E.w.heap[E.φ b]? = some (.cells c t (0, 0)) ∧ cs.length ≤ c.size ∧ ∀ (i : Nat) v, cs[i]? = some v → ∃ u, c[i]? = some u ∧ A6 E v u
 BT : ∀ (b l n sz : Nat), E.H[b]? = some (Bb.BT l n sz) → ∃ c t, E.w.heap[E.φ b]? = some (.cells c t (0, 0)) ∧ n * sz ≤ c.size
 lvl : ∀ (b l n sz : Nat), E.H[b]? = some (Bb.BT l n sz) → l ≤ E.lk.length
 dm : E.m ≤ E.lk.length
 inj : ∀ b b', live E.H[b]? → live E.H[b']? → E.φ b = E.φ b' → b = b'
 maps : ∀ b As, E.H[b]? = some (.mp As) → E.w.heap[E.φ b]? = some (.map (FG As) As.length) ∧ ∀ x ∈ As, BE x.1 = true ∧ BE x.2 = true
 BM : ∀ g ∈ E.BM, g < E.w.heap.size ∧ ∀ b, live E.H[b]? → E.φ b ≠ g
structure FR (E E' : AN) : Prop where
 lk : E'.lk = E.lk
 os : E'.w.os = E.w.os
 tape : E'.w.tape = E.w.tape
 output : E'.w.output = E.w.output
 size : E.w.heap.size ≤ E'.w.heap.size
 len : E.n ≤ E'.n
 mm : E'.m = E.m
 cell : ∀ g i u, E.w.cell? ⟨g, i, none⟩ = some u → ¬ E.U (some E.lk.length) g i → E'.w.cell? ⟨g, i, none⟩ = some u
 block : ∀ g, g < E.w.heap.size → (∀ i, ¬ E.U (some E.lk.length) g i) → E'.w.heap[g]? = E.w.heap[g]?
 mono : ∀ lv g i, Nv E.lk.length lv → E'.U lv g i → E.U lv g i ∨ E.w.heap.size ≤ g
 By : ∀ b, b < E.n → J0 E.H b → E'.φ b = E.φ b ∧ J0 E'.H b
 cells : ∀ b, b < E.n → Hp E.H b → Hp E'.H b
 BT : ∀ (b l n' sz' : Nat), b < E.n → E'.H[b]? = some (Bb.BT l n' sz') → ∃ n, E.H[b]? = some (.BT l n sz') ∧ n ≤ n' ∧
  (n = n' → E'.φ b = E.φ b ∧ ∀ c t, E.w.heap[E.φ b]? = some (.cells c t (0, 0)) → ∃ c', E'.w.heap[E.φ b]? = some (.cells c' t (0, 0)) ∧ c'.size = c.size)
 fresh : ∀ b, live E'.H[b]? → (E'.φ b = E.φ b ∧ live E.H[b]?) ∨ E.w.heap.size ≤ E'.φ b
 BM : ∀ g, g ∈ E.BM → g ∈ E'.BM
 Hn : ∀ g, g ∈ E'.BM → g ∈ E.BM ∨ E.w.heap.size ≤ g
 Gp : ∀ g, g ∈ E.BM → g < E.w.heap.size → E'.w.heap[g]? = E.w.heap[g]?
theorem EU {lk : Lk} {b : Nat} (n : Nat) (h : AT lk b = true) : AT (lk.take n) b = true := by
 unfold AT at *
 rw [cb] at *
 exact fun x hx => h x (lY hx)
theorem Lc {lk : Lk} {b n m : Nat} (hnm : n ≤ m) (h : AT (lk.take m) b = true) : AT (lk.take n) b = true := by
 unfold AT at *
 rw [cb] at *
 intro x hx
 refine h x ?_
 rw [show lk.take n = (lk.take m).take n by rw [List.take_take, Nat.min_eq_left hnm]] at hx
 exact lY hx
theorem AN.PW {E : AN} {lv lv' g i : Nat} (hl : lv ≤ lv') (h : E.U (some lv') g i) : E.U (some lv) g i := by
 rcases h with h | h
 ·exact .inl h
 obtain ⟨b, h1, h2, h3⟩ := h
 refine .inr ⟨b, h1, Lc hl h2, ?_⟩
 split at h3
 ·trivial
 ·trivial
 ·rcases h3 with h3 | h3
  ·exact .inl (Nat.lt_of_le_of_lt hl h3)
  ·exact .inr h3
 ·exact h3.elim
theorem C1.sub {E : AN} (h : C1 E) {lv g i : Nat} (hl : E.lk.length ≤ lv) (hu : E.U (some lv) g i) : E.U none g i := by
 rcases hu with hu | hu
 ·exact .inl hu
 obtain ⟨b, h1, h2, h3⟩ := hu
 refine .inr ⟨b, h1, ?_⟩
 split at h3
 ·trivial
 ·trivial
 ·rename_i he
  rcases h3 with h3 | h3
  ·have := h.lvl _ _ _ _ he; omega
  ·exact h3
 ·exact h3.elim
theorem GJ {w : ej} {a : Addr} {v : bm} (h : w.cell? a = some v) : a.block < w.heap.size := block_lt_of_cell h
theorem FR.refl (E : AN) : FR E E where
 lk := rfl
 os := rfl
 tape := rfl
 output := rfl
 size := ak _
 len := ak _
 mm := rfl
 cell := fun _ _ _ h _ => h
 block := fun _ _ _ => rfl
 mono := fun _ _ _ _ h => .inl h
 By := fun _ _ h => ⟨rfl, h⟩
 cells := fun _ _ h => h
 BT := fun _ _ n _ _ h => ⟨n, h, ak _, fun _ => ⟨rfl, fun c _ hc => ⟨c, hc, rfl⟩⟩⟩
 fresh := fun _ h => .inl ⟨rfl, h⟩
 BM := fun _ h => h
 Hn := fun _ h => .inl h
 Gp := fun _ _ _ => rfl
theorem FR.trans {A B C : AN} (h : FR A B) (k : FR B C) : FR A C where
 lk := k.lk.trans h.lk
 os := k.os.trans h.os
 tape := k.tape.trans h.tape
 output := k.output.trans h.output
 size := bt h.size k.size
 len := bt h.len k.len
 mm := k.mm.trans h.mm
 cell := by
  intro g i u hc hu
  refine k.cell g i u (h.cell g i u hc hu) ?_
  rw [h.lk]
  intro hB
  rcases h.mono (some _) _ _ (ak _) hB with h' | h'
  ·exact hu h'
  ·exact absurd (GJ hc) (dt.2 h')
 block := by
  intro g hg hu
  rw [k.block g (ck hg h.size), h.block g hg hu]
  intro i
  rw [h.lk]
  intro hB
  rcases h.mono (some _) _ _ (ak _) hB with h' | h'
  ·exact hu i h'
  ·exact absurd hg (dt.2 h')
 mono := by
  intro lv g i hl hC
  rcases k.mono _ _ _ (by rw [h.lk]; exact hl) hC with h' | h'
  ·exact h.mono _ _ _ hl h'
  ·exact .inr (bt h.size h')
 By := by
  intro b hb hn
  obtain ⟨h1, h2⟩ := h.By b hb hn
  obtain ⟨k1, k2⟩ := k.By b (ck hb h.len) h2
  exact ⟨k1.trans h1, k2⟩
 cells := fun b hb hn => k.cells b (ck hb h.len) (h.cells b hb hn)
 BT := by
  intro b l n' sz' hb hC
  obtain ⟨m, hm, hle, hk⟩ := k.BT b l n' sz' (ck hb h.len) hC
  obtain ⟨n, hn, hle', hk'⟩ := h.BT b l m sz' hb hm
  refine ⟨n, hn, bt hle' hle, fun e => ?_⟩
  have e1 : n = m := by omega
  have e2 : m = n' := by omega
  obtain ⟨p1, p2⟩ := hk' e1
  obtain ⟨q1, q2⟩ := hk e2
  refine ⟨q1.trans p1, fun c t hc => ?_⟩
  obtain ⟨c1, hc1, hs1⟩ := p2 c t hc
  rw [p1] at q2
  obtain ⟨c2, hc2, hs2⟩ := q2 c1 t hc1
  exact ⟨c2, hc2, hs2.trans hs1⟩
 fresh := by
  intro b hC
  rcases k.fresh b hC with ⟨h1, h2⟩ | h1
  ·rcases h.fresh b h2 with ⟨h3, h4⟩ | h3
   ·exact .inl ⟨h1.trans h3, h4⟩
   ·rw [← h1] at h3; exact .inr h3
  ·exact .inr (bt h.size h1)
 BM := fun g hg => k.BM g (h.BM g hg)
 Hn := by
  intro g hg
  rcases k.Hn g hg with h1 | h1
  ·exact h.Hn g h1
  ·exact .inr (bt h.size h1)
 Gp := fun g hg hl => (k.Gp g (h.BM g hg) (ck hl h.size)).trans (h.Gp g hg hl)
structure C9 (E E' : AN) : Prop where
 len : E.n ≤ E'.n
 lvl : E.m ≤ E'.m
 cell : ∀ lv g i u, Nv E.m lv → (lv = none → E.MZ g) → E.w.cell? ⟨g, i, none⟩ = some u → ¬ E.U lv g i → E'.w.cell? ⟨g, i, none⟩ = some u ∧ ¬ E'.U lv g i
 By : ∀ b, b < E.n → J0 E.H b → E'.φ b = E.φ b ∧ J0 E'.H b
 cells : ∀ b, b < E.n → Hp E.H b → Hp E'.H b
 BT : ∀ (b l n' sz' : Nat), b < E.n → E'.H[b]? = some (Bb.BT l n' sz') → ∃ l0 n, E.H[b]? = some (.BT l0 n sz') ∧ n ≤ n' ∧
  (n = n' → E'.φ b = E.φ b ∧ ∀ c t, E.w.heap[E.φ b]? = some (.cells c t (0, 0)) → ∃ c', E'.w.heap[E.φ b]? = some (.cells c' t (0, 0)) ∧ c'.size = c.size)
 fresh : ∀ b g i u, E.w.cell? ⟨g, i, none⟩ = some u → ¬ E.U none g i → E'.n ≤ b → live E'.H[b]? → E'.φ b = g → ∃ b', E.n ≤ b' ∧ live E.H[b']? ∧ E.φ b' = g
theorem Nv.up {m m' : Nat} {lv : Option Nat} (h : Nv m lv) (hm : m ≤ m') : Nv m' lv := by
 cases lv with
 | none => trivial
 | some l => exact bt h hm
theorem FR.keeps {E E' : AN} (h : FR E E') (hh : C1 E) : C9 E E' where
 len := h.len
 lvl := by rw [h.mm]; exact ak _
 By := h.By
 cells := h.cells
 BT := fun b l n' sz' hb hB => let ⟨n, h1, h2, h3⟩ := h.BT b l n' sz' hb hB; ⟨l, n, h1, h2, h3⟩
 cell := by
  intro lv g i u hlv _ h1 h3
  refine ⟨h.cell g i u h1 (fun hu => h3 ?_), fun hu => ?_⟩
  ·cases lv with
   | none => exact hh.sub (ak _) hu
   | some lv => exact AN.PW (bt hlv hh.dm) hu
  ·rcases h.mono _ _ _ (hlv.up hh.dm) hu with h' | h'
   ·exact h3 h'
   ·exact absurd (GJ h1) (dt.2 h')
 fresh := by
  intro b g i u h1 _ hb hl he
  rcases h.fresh b hl with ⟨h2, h3⟩ | h2
  ·exact ⟨b, bt h.len hb, h3, by rw [← h2]; exact he⟩
  ·exact absurd (GJ h1) (dt.2 (by rw [← he]; exact h2))
theorem C9.DV (E : AN) (L : List Nat) (hd : E.m ≤ E.lk.length) : C9 E { E with lk := E.lk ++ [L], m := E.m + 1 } where
 len := ak _
 lvl := Nat.le_succ _
 By := fun _ _ h => ⟨rfl, h⟩
 cells := fun _ _ h => h
 BT := fun _ l n _ _ h => ⟨l, n, h, ak _, fun _ => ⟨rfl, fun c _ hc => ⟨c, hc, rfl⟩⟩⟩
 cell := by
  intro lv g i u hlv _ h1 h3
  refine ⟨h1, fun hu => h3 ?_⟩
  cases lv with
  | none => exact hu
  | some lv =>
   have hle : lv ≤ E.lk.length := bt hlv hd
   rcases hu with hu | hu
   ·exact .inl hu
   obtain ⟨b, p1, p2, p3⟩ := hu
   refine .inr ⟨b, p1, ?_, p3⟩
   have : (E.lk ++ [L]).take lv = E.lk.take lv := List.take_append_of_le_length hle
   rw [← this]
   exact p2
 fresh := fun b _ _ _ _ _ hb hl he => ⟨b, hb, hl, he⟩
theorem C9.MZ {E E' : AN} (h : C9 E E') {g i : Nat} {u : bm} (hc : E.w.cell? ⟨g, i, none⟩ = some u) (hu : ¬ E.U none g i) (ha : E.MZ g) : E'.MZ g := by
 intro b hb hl he
 obtain ⟨b', h1, h2, h3⟩ := h.fresh b g i u hc hu hb hl he
 exact ha b' h1 h2 h3
theorem Br.first {E : AN} {lv : Option Nat} {g o : Nat} {cs : List V} (h : Br E lv g o cs) (hl : 0 < cs.length) : ∃ u, E.w.cell? ⟨g, o, none⟩ = some u ∧ ¬ E.U lv g o := by
 cases cs with
 | nil => simp at hl
 | cons c cs =>
  simp only [Br] at h
  obtain ⟨⟨u, h1, _⟩, h2, _⟩ := h
  exact ⟨u, h1, h2⟩
mutual
theorem C9.rep {E E' : AN} (h : C9 E E') : ∀ (v : V) (u : bm), A6 E v u → A6 E' v u
 | .int .., _, r => by simpa only [A6] using r
 | .bool _, _, r => by simpa only [A6] using r
 | .str _, _, r => by simpa only [A6] using r
 | .Gg, _, r => by simpa only [A6] using r
 | .Dw, _, r => by simpa only [A6] using r
 | .ptr b off, _, r => by
  simp only [A6] at r ⊢
  obtain ⟨h1, h2, h3⟩ := r
  obtain ⟨p1, p2⟩ := h.By b h1 h3
  exact ⟨ck h1 h.len, by rw [p1]; exact h2, p2⟩
 | .D3 b, _, r => by
  simp only [A6] at r ⊢
  obtain ⟨h1, h2, h3⟩ := r
  obtain ⟨p1, p2⟩ := h.By b h1 h3
  exact ⟨ck h1 h.len, by rw [p1]; exact h2, p2⟩
 | .lp lv cs off, _, r => by
  simp only [A6] at r ⊢
  obtain ⟨hl, g, o, h1, h2⟩ := r
  exact ⟨bt hl h.lvl, g, o, h1, h.VE (some lv) g hl o cs (fun e => by cases e) h2⟩
 | .lit lv len cs, _, r => by
  simp only [A6] at r ⊢
  obtain ⟨hl, A, cap, h1, h2, h3⟩ := r
  refine ⟨bt hl h.lvl, A, cap, h1, h2, ?_⟩
  rcases h3 with h3 | ⟨g, o, h3, h4⟩
  ·exact .inl h3
  ·exact .inr ⟨g, o, h3, h.VE (some lv) g hl o cs (fun e => by cases e) h4⟩
 | .tl len cs, _, r => by
  simp only [A6] at r ⊢
  obtain ⟨A, h1, h3⟩ := r
  refine ⟨A, h1, ?_⟩
  rcases h3 with h3 | ⟨g, o, h3, h4⟩
  ·exact .inl h3
  ·exact .inr ⟨g, o, h3, h.VE (some 0) g (db _) o cs (fun e => by cases e) h4⟩
 | .snap b len cs, _, r => by
  simp only [A6] at r ⊢
  obtain ⟨hb, ⟨A, cap, h1, h2, ⟨g, o, h3, ha, h4⟩, h5⟩, h6⟩ := r
  refine ⟨ck hb h.len, ⟨A, cap, h1, h2, ⟨g, o, h3, fun hl => (h4.first hl).elim fun u hu => h.MZ hu.1 hu.2 (ha hl), h.VE none g trivial o cs (fun _ => ha) h4⟩, fun l n sz hn => ?_⟩, h.cells b hb h6⟩
  obtain ⟨l0, m, hm, hle, hk⟩ := h.BT b l n sz hb hn
  obtain ⟨q1, q2⟩ := h5 l0 m sz hm
  refine ⟨bt q1 hle, fun e => ?_⟩
  obtain ⟨p1, p2⟩ := hk (by omega)
  obtain ⟨q3, c, t, q4, q5⟩ := q2 (by omega)
  obtain ⟨c', hc', hs⟩ := p2 c t q4
  exact ⟨by rw [p1]; exact q3, c', t, by rw [p1]; exact hc', by rw [hs]; exact q5⟩
 | .pre b m0 len cs, _, r => by
  simp only [A6] at r ⊢
  obtain ⟨hb, ⟨A, cap, h1, h2, ⟨g, o, h3, ha, h4⟩, h5⟩, h6⟩ := r
  refine ⟨ck hb h.len, ⟨A, cap, h1, h2, ⟨g, o, h3, fun hl => (h4.first hl).elim fun u hu => h.MZ hu.1 hu.2 (ha hl), h.VE none g trivial o cs (fun _ => ha) h4⟩, fun l n sz hn => ?_⟩, h.cells b hb h6⟩
  obtain ⟨l0, m, hm, hle, hk⟩ := h.BT b l n sz hb hn
  obtain ⟨q1, q2⟩ := h5 l0 m sz hm
  refine ⟨bt q1 hle, fun e => ?_⟩
  obtain ⟨p1, p2⟩ := hk (by omega)
  obtain ⟨q3, c, t, q4⟩ := q2 (by omega)
  obtain ⟨c', hc', hs⟩ := p2 c t q4
  exact ⟨by rw [p1]; exact q3, c', t, by rw [p1]; exact hc'⟩
 | .sl b off len, _, r => by
  simp only [A6] at r ⊢
  obtain ⟨h1, h2, h3⟩ := r
  obtain ⟨p1, p2⟩ := h.By b h1 h3
  exact ⟨ck h1 h.len, by rw [p1]; exact h2, p2⟩
 | .agg cs, _, r => by
  simp only [A6] at r ⊢
  obtain ⟨vs, h1, h2⟩ := r
  exact ⟨vs, h1, h.HC cs _ h2⟩
 | .EZ cs, _, r => by
  simp only [A6] at r ⊢
  obtain ⟨vs, h1, h2⟩ := r
  exact ⟨vs, h1, h.HC cs _ h2⟩
 | .fn f cs, _, r => by
  simp only [A6] at r ⊢
  obtain ⟨vs, h1, h2⟩ := r
  exact ⟨vs, h1, h.HC cs _ h2⟩
theorem C9.VE {E E' : AN} (h : C9 E E') (lv : Option Nat) (g : Nat) (hlv : Nv E.m lv) : ∀ (o : Nat) (cs : List V), (lv = none → 0 < cs.length → E.MZ g) → Br E lv g o cs → Br E' lv g o cs
 | _, [], _, _ => by simp only [Br]
 | o, c :: cs, ha, r => by
  simp only [Br] at r ⊢
  obtain ⟨⟨u, h1, h2⟩, h3, h4⟩ := r
  obtain ⟨k1, k2⟩ := h.cell lv g o u hlv (fun e => ha e (by simp)) h1 h3
  exact ⟨⟨u, k1, h.rep c u h2⟩, k2, h.VE lv g hlv (o + 1) cs (fun e _ => ha e (by simp)) h4⟩
theorem C9.HC {E E' : AN} (h : C9 E E') : ∀ (cs : List V) (vs : List bm), AH E cs vs → AH E' cs vs
 | [], _, r => by simpa only [AH] using r
 | c :: cs, _, r => by
  simp only [AH] at r ⊢
  obtain ⟨u, us, h1, h2, h3⟩ := r
  exact ⟨u, us, h1, h.rep c u h2, h.HC cs us h3⟩
end
def AN.shrink (E : AN) (n m : Nat) : AN := { E with n := n, m := m }
theorem C9.grow (E : AN) {n m : Nat} (hn : n ≤ E.n) (hm : m ≤ E.m) : C9 (E.shrink n m) E where
 len := hn
 lvl := hm
 By := fun _ _ h => ⟨rfl, h⟩
 cells := fun _ _ h => h
 BT := fun _ l k _ _ h => ⟨l, k, h, ak _, fun _ => ⟨rfl, fun c _ hc => ⟨c, hc, rfl⟩⟩⟩
 cell := fun _ _ _ _ _ _ h k => ⟨h, k⟩
 fresh := fun b _ _ _ _ _ hb hl he => ⟨b, bt hn hb, hl, he⟩
theorem FR.shrink {E E' : AN} (h0 : FR E E') (hh : C1 E) {n m : Nat} (hn : n ≤ E.n) (hm : m ≤ E.m) : C9 (E.shrink n m) (E'.shrink n m) where
 len := ak _
 lvl := ak _
 By := fun b hb => h0.By b (ck hb hn)
 cells := fun b hb => h0.cells b (ck hb hn)
 BT := fun b l n' sz' hb => (h0.keeps hh).BT b l n' sz' (ck hb hn)
 cell := fun lv g i u hlv _ h1 h3 => by
  have hl : Nv E.m lv := Nv.up hlv hm
  refine ⟨h0.cell g i u h1 (fun hu => h3 ?_), fun hu => ?_⟩
  ·cases lv with
   | none => exact hh.sub (ak _) hu
   | some lv => exact AN.PW (E := E) (bt hl hh.dm) hu
  ·rcases h0.mono _ _ _ (hl.up hh.dm) hu with h' | h'
   ·exact h3 h'
   ·exact absurd (GJ h1) (dt.2 h')
 fresh := by
  intro b g i u h1 _ hb hl he
  rcases h0.fresh b hl with ⟨h2, h3⟩ | h2
  ·exact ⟨b, hb, h3, by show E.φ b = g; rw [← h2]; exact he⟩
  ·exact absurd (GJ h1) (dt.2 (by rw [← he]; exact h2))
theorem FR.rep {E E' : AN} (h : FR E E') (hh : C1 E) (v : V) (u : bm) (r : A6 E v u) : A6 E' v u := (h.keeps hh).rep v u r
theorem FR.HC {E E' : AN} (h : FR E E') (hh : C1 E) (cs : List V) (vs : List bm) (r : AH E cs vs) : AH E' cs vs := (h.keeps hh).HC cs vs r
theorem OC (E : AN) (x : bm) (v : V) (h : DR x = some v) : A6 E v x := by
 cases x with
 | int k n => simp only [DR, aa] at h; subst h; simp only [A6]
 | bool b => simp only [DR, aa] at h; subst h; simp only [A6]
 | string s => simp only [DR, aa] at h; subst h; simp only [A6]
 | pointer p => cases p with
  | none => simp only [DR, aa] at h; subst h; simp only [A6]
  | some a => simp [DR] at h
 | slice p n m =>
  simp only [DR] at h
  split at h <;> simp_all
  subst h
  simp only [A6]
  exact ⟨none, rfl, .inl trivial⟩
 | nilFunc => simp only [DR, aa] at h; subst h; simp only [A6]
 | _ => simp [DR] at h
theorem Lv (E : AN) : ∀ (xs : List bm) (vs : List V), KZ xs = some vs → AH E vs xs
 | [], vs, h => by simp only [KZ, aa] at h; subst h; simp only [AH]
 | x :: xs, vs, h => by
  simp only [KZ, ae, af] at h
  obtain ⟨v, hv, ws, hw, rfl⟩ := h
  simp only [AH]
  exact ⟨x, xs, rfl, OC E x v hv, Lv E xs ws hw⟩
theorem HD (E : AN) (x : bm) (v : V) (h : Dq x = some v) : A6 E v x := by
 cases x with
 | agg cs =>
  simp only [Dq, af] at h
  obtain ⟨vs, hv, rfl⟩ := h
  simp only [A6]
  exact ⟨cs, rfl, Lv E _ _ hv⟩
 | _ => exact OC E _ v (by simpa only [Dq] using h)
structure CK (c : Cx) (E : AN) (S : St) (a : Act) : Prop where
 H : E.H = S.H
 lk : E.lk = c.lk
 n : E.n = S.H.length
 m : E.m = c.lk.length
 tmps : ∀ i, A6 E (S.T i) (a.tmps.getD i undef)
 size : a.tmps.size = c.ntmps
 heap : C1 E
 base : c.base ≤ S.H.length
 DV : ∀ l ∈ c.lk, ∀ x ∈ l, x < c.base
 deep : 0 < c.lk.length
theorem Al {c : Cx} {E : AN} {S : St} {a : Act} (hs : CK c E S a) (x : aw) (v : V) (h : ev S.T x = some v) : A6 E v (a.eval x) := by
 cases x with
 | tmp t => simp only [ev, aa] at h; subst h; exact hs.tmps t
 | const c => exact HD E c v h
 | global g => simp [ev] at h
 | func f =>
  simp only [ev, aa] at h; subst h
  simp only [A6, Act.eval]
  exact ⟨#[], rfl, by simp only [AH]⟩
theorem QZ {c : Cx} {E : AN} {S : St} {a : Act} (hs : CK c E S a) : ∀ (xs : List aw) (vs : List V), Oq S.T xs = some vs → AH E vs (xs.map a.eval)
 | [], vs, h => by simp only [Oq, aa] at h; subst h; simp only [AH, fq]
 | x :: xs, vs, h => by
  simp only [Oq, ae, af] at h
  obtain ⟨v, hv, ws, hw, rfl⟩ := h
  simp only [AH, df]
  exact ⟨_, _, rfl, Al hs x v hv, QZ hs xs ws hw⟩
def DH (c : Cx) (E : AN) (a : Act) (o : bq) (v : V) : Prop :=
 ∃ u, (execOp a.eval o).run c.P E.w = .ok (.value u) E.w ∧ A6 E v u
section
variable {c : Cx} {E : AN} {S : St} {a : Act} {o : bq}
theorem SW (hs : CK c E S a) {x : aw} {v : V} (ho : o.op = .move x) (h : ev S.T x = some v) : DH c E a o v :=
 ⟨a.eval x, by simp [execOp, ho], Al hs x v h⟩
theorem QD (hs : CK c E S a) {x : aw} {v : V} (ho : o.op = .assign x) (h : ev S.T x = some v) : DH c E a o v :=
 ⟨a.eval x, by simp [execOp, ho], Al hs x v h⟩
theorem Nc (hs : CK c E S a) {k x y : aw} {b : Bool} {v : V} (ho : o.op = .pick k x y) (hk : ev S.T k = some (.bool b)) (h : ev S.T (if b then x else y) = some v) : DH c E a o v := by
 have hb := Al hs k _ hk
 simp only [A6] at hb
 refine ⟨_, ?_, Al hs _ v h⟩
 simp only [execOp, ho, hb, asBool]
 cases b <;> simp
theorem Jr (hs : CK c E S a) {x : aw} {b off : Nat} (ho : o.op = .nilCheck x) (h : ev S.T x = some (.ptr b off)) : DH c E a o (.ptr b off) := by
 have hr := Al hs x _ h
 have hr' := hr
 simp only [A6] at hr'
 refine ⟨a.eval x, ?_, hr⟩
 simp [execOp, ho, hr'.2.1]
theorem KJ (hs : CK c E S a) {x : aw} {lv off : Nat} {cs : List V} (ho : o.op = .nilCheck x) (h : ev S.T x = some (.lp lv cs off)) : DH c E a o (.lp lv cs off) := by
 have hr := Al hs x _ h
 have hr' := hr
 simp only [A6] at hr'
 obtain ⟨_, g, o', h1, _⟩ := hr'
 refine ⟨a.eval x, ?_, hr⟩
 simp [execOp, ho, h1]
theorem SX (hs : CK c E S a) {op : UnOp} {t : ao} {x : aw} {u v : V} (ho : o.op = .unOp op t x) (hx : ev S.T x = some u) (h : iO op u = some v) : DH c E a o v := by
 have hr := Al hs x _ hx
 unfold iO at h
 split at h <;> simp only [aa, reduceCtorEq] at h
 ·subst h
  simp only [A6] at hr
  exact ⟨_, by simp only [execOp, ho, hr, Op.unary, Sem.run_bind, Sem.run_pure, Result.andThen_ok]; rfl, by simp only [A6]⟩
 ·subst h
  simp only [A6] at hr
  exact ⟨_, by simp only [execOp, ho, hr, Op.unary, Op.intArith, Sem.run_bind, Sem.run_pure, Result.andThen_ok]; rfl, by simp only [A6]⟩
theorem Uu {P : bg} {w : ej} {op : BinOp} {t : ao} {k : fc} {a b : Int} {v : V} (h : U0 op k a b = some v) :
  ∃ u, (binOp op t (.int k a) (.int k b)).run P w = .ok u w ∧ ∀ E, A6 E v u := by
 unfold U0 at h
 split at h
 case h_6 => simp only [aa] at h; subst h; exact ⟨_, by simp only [binOp_xor, Op.intBits, Sem.run_pure]; rfl, fun E => by simp only [A6]⟩
 case h_4 =>
  split at h <;> simp only [aa, reduceCtorEq] at h
  rename_i hb
  subst h; exact ⟨_, by simp only [binOp_quo, Op.intDiv, hb, if_false, Sem.run_pure]; rfl, fun E => by simp only [A6]⟩
 case h_5 =>
  split at h <;> simp only [aa, reduceCtorEq] at h
  rename_i hb
  subst h; exact ⟨_, by simp only [binOp_rem, Op.intDiv, hb, if_false, Sem.run_pure]; rfl, fun E => by simp only [A6]⟩
 all_goals (try simp only [aa, reduceCtorEq] at h)
 all_goals (subst h; exact ⟨_, by simp only [binOp_add, binOp_sub, binOp_mul, binOp_eql, binOp_neq, binOp_lss, binOp_leq, binOp_gtr, binOp_geq, Op.intArith, Sem.run_pure]; rfl, fun E => by simp only [A6]⟩)
theorem T7 {P : bg} {w : ej} {t : ao} (a b : Bool) (ht : P.underlying t = some .bool) : (binOp .eql t (.bool a) (.bool b)).run P w = .ok (.bool (a == b)) w := by
 simp only [binOp, Op.equal, Op.maxDepth, Sem.run_bind, run_equalIn_bool' w 9999 t a b ht, Result.andThen_ok, Sem.run_pure]
theorem Ro {P : bg} {w : ej} {t : ao} (a b : Bool) (ht : P.underlying t = some .bool) : (binOp .neq t (.bool a) (.bool b)).run P w = .ok (.bool (!(a == b))) w := by
 simp only [binOp, Op.equal, Op.maxDepth, Sem.run_bind, run_equalIn_bool' w 9999 t a b ht, Result.andThen_ok, Sem.run_pure]
theorem B8 {E : AN} : ∀ (xs : List V) (us : List bm), AH E xs us → xs.length = us.length ∧ ∀ (i : Nat) v, xs[i]? = some v → ∃ u, us[i]? = some u ∧ A6 E v u
 | [], us, h => by simp only [AH] at h; subst h; exact ⟨rfl, fun i v h => by simp at h⟩
 | x :: xs, us, h => by
  simp only [AH] at h
  obtain ⟨u, us', rfl, h1, h2⟩ := h
  obtain ⟨hl, hg⟩ := B8 xs us' h2
  refine ⟨by simp [hl], fun i v hi => ?_⟩
  cases i with
  | zero => simp only [ee, aa] at hi; subst hi; exact ⟨u, rfl, h1⟩
  | succ i => simpa using hg i v (by simpa using hi)
theorem GO {P : bg} {w : ej} {t : ao} (h : D6 P t = some false) : (isAgg t).run P w = .ok false w := by
 unfold D6 at h
 unfold isAgg
 split at h
 ·simp at h
 ·simp at h
 ·rename_i d h1 h2 hd
  simp only [Sem.run_bind, run_underlying hd, Result.andThen_ok]
  cases d <;> first | (exact absurd rfl (h1 _)) | (exact absurd rfl (h2 _ _)) | simp only [Sem.run_pure]
 ·simp at h
theorem Jb {P : bg} {w : ej} {t : ao} (h : D6 P t = some true) : (isAgg t).run P w = .ok true w := by
 unfold D6 at h
 unfold isAgg
 split at h
 ·rename_i d hd; simp only [Sem.run_bind, run_underlying hd, Result.andThen_ok, Sem.run_pure]
 ·rename_i hd; simp only [Sem.run_bind, run_underlying hd, Result.andThen_ok, Sem.run_pure]
 ·simp at h
 ·simp at h
theorem Dz {P : bg} {w : ej} {t : ao} {n : Nat} (h : Aw P t = some n) : (sizeOf t).run P w = .ok n w := by
 unfold Aw at h
 simp only [af] at h
 obtain ⟨i, hi, rfl⟩ := h
 simp [sizeOf, typeInfo, hi]
theorem Lf {P : bg} {t : ao} {k : Sc} (h : EB P t = some k) : D6 P t = some false := by
 unfold EB at h
 unfold D6
 split at h <;> simp_all
theorem T9 {P : bg} {w : ej} {E : AN} {t : ao} {k : Sc} (hk : EB P t = some k) (x y : V) (u v : bm) (hx : A6 E x u) (hy : A6 E y v) (b : Bool) (h : Ee k x y = some b) (d : Nat) :
  (Op.equalIn (d + 1) t u v).run P w = .ok b w := by
 unfold Ee at h
 unfold EB at hk
 split at h
 ·split at h <;> simp only [aa, reduceCtorEq] at h
  rename_i hkk
  subst hkk h
  simp only [A6] at hx hy
  subst hx hy
  split at hk <;> simp only [aa, reduceCtorEq] at hk
  rename_i ht
  exact run_equalIn_int w d t _ _ _ _ ht
 ·simp only [aa] at h
  subst h
  simp only [A6] at hx hy
  subst hx hy
  split at hk <;> simp only [aa, reduceCtorEq] at hk
  rename_i ht
  exact run_equalIn_bool' w d t _ _ ht
 ·simp only [aa] at h
  subst h
  simp only [A6] at hx hy
  subst hx hy
  split at hk <;> simp only [aa, reduceCtorEq] at hk
  rename_i ht
  exact run_equalIn_string w d t _ _ ht
 ·simp at h
theorem IH {P : bg} {w : ej} {E : AN} (d : Nat) (us vs : Array bm) : ∀ (fs : List Field) (n : Nat) (ks : List Sc) (xs ys : List V) (b : Bool),
  Ds P n fs = some ks → AH E xs (us.toList.drop n) → AH E ys (vs.toList.drop n) → CV ks xs ys = some b → (Op.eqFields (d + 1) us vs fs).run P w = .ok b w
 | [], n, ks, xs, ys, b, hf, hx, hy, h => by
  simp only [Ds, aa] at hf
  subst hf
  simp only [CV, aa] at h
  subst h
  simp only [Op.eqFields, Sem.run_pure]
 | f :: fs, n, ks, xs, ys, b, hf, hx, hy, h => by
  simp only [Ds] at hf
  split at hf <;> simp only [ae, af, reduceCtorEq] at hf
  rename_i hc
  obtain ⟨hn, ho, hz⟩ := hc
  obtain ⟨k, hk, ks', hks, rfl⟩ := hf
  cases xs with
  | nil => simp [CV] at h
  | cons x xs =>
   cases ys with
   | nil => simp [CV] at h
   | cons y ys =>
    simp only [CV, ae] at h
    obtain ⟨b1, hb1, h⟩ := h
    simp only [AH] at hx hy
    obtain ⟨u, us', hu, hxu, hxs⟩ := hx
    obtain ⟨v, vs', hv, hyv, hys⟩ := hy
    have hu0 : us[n]? = some u := by
     have := congrArg (fun l => l[0]?) hu
     simpa using this
    have hv0 : vs[n]? = some v := by
     have := congrArg (fun l => l[0]?) hv
     simpa using this
    have hus : us.toList.drop (n + 1) = us' := by
     have := congrArg ma hu
     simpa using this
    have hvs : vs.toList.drop (n + 1) = vs' := by
     have := congrArg ma hv
     simpa using this
    have hag := GO (P := P) (w := w) (Lf hk)
    simp only [Op.eqFields, hn, ne_eq, not_false_eq_true, if_true, Sem.run_bind, part, hag, Result.andThen_ok, ba, if_false, ho, hu0, hv0, Sem.run_pure, T9 hk x y u v hxu hyv b1 hb1 d]
    cases b1 with
    | false => simp at h; subst h; simp
    | true =>
     simp only [if_true] at h
     have ih := IH (P := P) (w := w) d us vs fs (n + 1) ks' xs ys b hks (by rw [hus]; exact hxs) (by rw [hvs]; exact hys) h
     simpa using ih
theorem RF (hs : CK c E S a) {op : BinOp} {t t2 : ao} {x y : aw} {p q v : V} (ho : o.op = .binOp op t x y t2) (hx : ev S.T x = some p) (hy : ev S.T y = some q)
  (h : Qw c.P op t p q = some v) : DH c E a o v := by
 have hrx := Al hs x _ hx
 have hry := Al hs y _ hy
 unfold Qw at h
 split at h
 ·split at h
  case isFalse => simp at h
  rename_i hk
  subst hk
  simp only [A6] at hrx hry
  obtain ⟨u, hu, hr⟩ := Uu (P := c.P) (w := E.w) (t := t) h
  exact ⟨u, by simp only [execOp, ho, hrx, hry, eqGuard_at_int, Sem.run_bind, Sem.run_pure, Result.andThen_ok, hu], hr E⟩
 ·simp only [A6] at hrx hry
  split at h <;> simp only [aa, reduceCtorEq] at h
  ·rename_i ht
   subst h
   exact ⟨_, by simp only [execOp, ho, hrx, hry, eqGuard_at_bool, Sem.run_bind, Sem.run_pure, Result.andThen_ok, T7 _ _ ht]; rfl, by simp only [A6]⟩
  ·rename_i ht
   subst h
   exact ⟨_, by simp only [execOp, ho, hrx, hry, eqGuard_at_bool, Sem.run_bind, Sem.run_pure, Result.andThen_ok, Ro _ _ ht]; rfl, by simp only [A6]⟩
 ·simp only [A6] at hrx hry
  split at h
  ·simp only [aa] at h
   subst h
   exact ⟨_, by simp only [execOp, ho, hrx, hry, eqGuard_at_string, Sem.run_bind, Sem.run_pure, Result.andThen_ok, binOp, Op.stringOp]; rfl, by simp only [A6]⟩
  ·simp only [aa] at h
   subst h
   exact ⟨_, by simp only [execOp, ho, hrx, hry, eqGuard_at_string, Sem.run_bind, Sem.run_pure, Result.andThen_ok, binOp, Op.stringOp]; rfl, by simp only [A6]⟩
  ·split at h <;> simp only [aa, reduceCtorEq] at h
   rename_i hsz
   subst h
   have hn0 : ∀ n : Nat, n ≤ 1099511627776 → ¬ ((n : Int) > IntKind.i64.max) := fun n h => by rw [IntKind.max_i64]; omega
   have hn := hn0 _ hsz
   exact ⟨_, by simp only [execOp, ho, hrx, hry, eqGuard_at_string, Sem.run_bind, Sem.run_pure, Result.andThen_ok, binOp, Op.stringOp, hn, if_false]; rfl, by simp only [A6]⟩
  ·simp at h
 ·simp only [A6] at hrx hry
  obtain ⟨us, hu, hxs⟩ := hrx
  obtain ⟨vs, hv, hys⟩ := hry
  simp only [ae] at h
  obtain ⟨ks, hks, h⟩ := h
  unfold IQ at hks
  split at hks
  case h_2 => simp at hks
  rename_i fs hu'
  split at hks
  case isFalse => simp at hks
  rename_i hg
  simp only [av, ft] at hg
  obtain ⟨hg1, hg2⟩ := hg
  have hfo : c.P.fieldsOf t = fs := by simp only [Program.fieldsOf, hu']
  have hu2 : c.P.underlying t = some (.struct (c.P.fieldsOf t)) := by rw [hfo]; exact hu'
  have key : ∀ xs ys b, AH E xs us.toList → AH E ys vs.toList → CV ks xs ys = some b → (Op.equalIn 10000 t (.agg us) (.agg vs)).run c.P E.w = .ok b E.w := by
   intro xs ys b hxs hys hb
   rw [run_equalIn_struct E.w 9999 t us vs hu2 hg1, hfo]
   exact IH 9998 us vs fs.toList 0 ks _ _ b hks (by simpa using hxs) (by simpa using hys) hb
  split at h
  ·simp only [af] at h
   obtain ⟨b, hb, rfl⟩ := h
   exact ⟨_, by simp only [execOp, ho, hu, hv, run_eqGuard_agg E.w _ _ _ _ _ _ hg2, Sem.run_bind, Result.andThen_ok, run_eql_struct, key _ _ b hxs hys hb, Sem.run_pure]; rfl, by simp only [A6]⟩
  ·simp only [af] at h
   obtain ⟨b, hb, rfl⟩ := h
   exact ⟨_, by simp only [execOp, ho, hu, hv, run_eqGuard_agg E.w _ _ _ _ _ _ hg2, Sem.run_bind, Result.andThen_ok, run_neq_struct, key _ _ b hxs hys hb, Sem.run_pure]; rfl, by simp only [A6]⟩
  ·simp at h
 ·simp at h
end
section
variable {c : Cx} {E : AN} {S : St} {a : Act} {o : bq}
theorem OV (hs : CK c E S a) {src dst : ao} {x : aw} {k0 k k' : fc} {n : Int} (ho : o.op = .convert src dst x) (h1 : c.P.underlying src = some (.int k0)) (h2 : c.P.underlying dst = some (.int k)) (hx : ev S.T x = some (.int k' n)) : DH c E a o (.int k (k.wrap n)) := by
 have hr := Al hs x _ hx
 simp only [A6] at hr
 exact ⟨_, by simp only [execOp, ho, hr, convert, Sem.run_bind, run_underlying h1, run_underlying h2, Result.andThen_ok, Conv.intToInt, Sem.run_pure]; rfl, by simp only [A6]⟩
theorem PF {E : AN} {lv : Option Nat} {g : Nat} : ∀ (cs : List V) (o : Nat), Br E lv g o cs → ∀ (i : Nat) v, cs[i]? = some v → ∃ u, E.w.cell? ⟨g, o + i, none⟩ = some u ∧ A6 E v u ∧ ¬ E.U lv g (o + i)
 | [], o, _, i, v, h => by simp at h
 | x :: cs, o, hr, i, v, h => by
  simp only [Br] at hr
  obtain ⟨⟨u, h1, h2⟩, h3, h4⟩ := hr
  cases i with
  | zero => simp only [ee, aa] at h; subst h; exact ⟨u, h1, h2, h3⟩
  | succ i =>
   have := PF cs (o + 1) h4 i v (by simpa using h)
   rw [show o + 1 + i = o + (i + 1) by omega] at this
   exact this
theorem Oj : ∀ {cs : List V} {acc s : ByteArray}, Ic acc cs = some s → ∃ ns : List Int, cs = ns.map (V.int .u8) ∧ s = ns.foldl (fun r n => r.push (UInt8.ofNat n.toNat)) acc
 | [], acc, s, h => by
  simp only [Ic, aa] at h
  exact ⟨[], rfl, h.symm⟩
 | c :: cs, acc, s, h => by
  unfold Ic at h
  split at h
  ·rename_i e; cases e
  ·rename_i n cs' e
   cases e
   obtain ⟨ns, h1, h2⟩ := Oj h
   exact ⟨n :: ns, by rw [h1]; rfl, h2⟩
  ·cases h
theorem JV (hs : CK c E S a) {src dst e : ao} {x : aw} {cs : List V} {s : ByteArray} (ho : o.op = .convert src dst x) (h1 : c.P.underlying src = some (.slice e)) (h2 : c.P.underlying dst = some .string) (he : c.P.underlying e = some (.int .u8)) (hx : ev S.T x = some (.tl cs.length cs)) (hb : Ic .empty cs = some s) : DH c E a o (.str s) := by
 have hr := Al hs x _ hx
 simp only [A6] at hr
 obtain ⟨A, hv, hA⟩ := hr
 obtain ⟨ns, rfl, rfl⟩ := Oj hb
 refine ⟨.string (ns.foldl (fun r n => r.push (UInt8.ofNat n.toNat)) ByteArray.empty), ?_, by simp only [A6]⟩
 simp only [execOp, ho, hv, Sem.run_bind, run_convert_bytes_string E.w src dst e A _ _ h1 he h2]
 cases A with
 | none =>
  rcases hA with h0 | ⟨g, o', hg, _⟩
  ·have : ns = [] := bx (by simpa using h0)
   subst this
   rfl
  ·cases hg
 | some A =>
  have hl : (loadCells A (ns.map (V.int .u8)).length).run c.P E.w = .ok (ns.map (Value.int .u8)).toArray E.w := by
   have := run_loadCells_list (P := c.P) (w := E.w) A (ns.map (Value.int .u8)) (fun j v hj => by
    rcases hA with h0 | ⟨g, o', hg, hc⟩
    ·have : ns = [] := bx (by simpa using h0)
     subst this
     simp at hj
    ·cases hg
     simp only [dj, af] at hj
     obtain ⟨n, hn, rfl⟩ := hj
     obtain ⟨u, q1, q2, _⟩ := PF _ _ hc j (.int .u8 n) (by simp [dj, hn])
     simp only [A6] at q2
     subst q2
     exact (show (Addr.add ⟨g, o', none⟩ j) = ⟨g, o' + j, none⟩ by simp [Addr.add]) ▸ q1)
   simpa using this
  rw [run_bytesToString E.w A _ _ ns hl]
  rfl
theorem Nb (hs : CK c E S a) {f : fh} {caps : Array aw} {vs : List V} (ho : o.op = .makeFunc (.func f) #[] caps) (h : Oq S.T caps.toList = some vs) : DH c E a o (.fn f vs) := by
 have hr := QZ hs _ _ h
 refine ⟨.func (.func f) #[] (caps.map a.eval), by simp [execOp, ho, Instr.makeFunc], ?_⟩
 simp only [A6]
 exact ⟨_, rfl, by simpa using hr⟩
theorem OW (hs : CK c E S a) {x : aw} {i : Nat} {vs : List V} {v : V} (ho : o.op = .extract x i) (hx : ev S.T x = some (.EZ vs)) (h : vs[i]? = some v) : DH c E a o v := by
 have hr := Al hs x _ hx
 simp only [A6] at hr
 obtain ⟨us, hu, hr⟩ := hr
 obtain ⟨u, h1, h2⟩ := (B8 _ _ hr).2 i v h
 exact ⟨u, by simp [execOp, ho, hu, Instr.extract, show us[i]? = some u by simpa using h1], h2⟩
theorem JZ {P : bg} {s : ao} {f off : Nat} (h : AK P s f = some off) :
  ∃ fs g n, P.underlying s = some (.struct fs) ∧ fs[f]? = some g ∧ Aw P g.type = some (n + 1) ∧ g.offset = off := by
 unfold AK at h
 split at h
 ·split at h
  ·split at h
   ·rename_i hfs _ _ hg _ _ hn
    simp only [aa] at h
    exact ⟨_, _, _, hfs, hg, hn, h⟩
   ·simp at h
  ·simp at h
 ·simp at h
theorem Lx {P : bg} {w : ej} {s : ao} {f off g o : Nat} (h : AK P s f = some off) :
  (Instr.fieldAt s (.pointer (some ⟨g, o, none⟩)) f).run P w = .ok (.pointer (some ⟨g, o + off, none⟩)) w := by
 obtain ⟨fs, fd, n, h1, h2, h3, rfl⟩ := JZ h
 simp only [Instr.fieldAt, Sem.run_bind, run_underlying h1, Result.andThen_ok, h2, Instr.sureAddr, Sem.run_pure, fieldPlace, Dz h3, Nat.succ_ne_zero, if_false, Addr.add_lit]
theorem JW (hs : CK c E S a) {s : ao} {x : aw} {f off b i : Nat} (ho : o.op = .fieldAddr s x f) (h : AK c.P s f = some off) (hx : ev S.T x = some (.ptr b i)) : DH c E a o (.ptr b (i + off)) := by
 have hr := Al hs x _ hx
 simp only [A6] at hr
 refine ⟨_, by simp only [execOp, ho, hr.2.1, Lx h, Sem.run_bind, Result.andThen_ok, Sem.run_pure]; rfl, ?_⟩
 simp only [A6]
 exact ⟨hr.1, trivial, hr.2.2⟩
theorem Jq (hs : CK c E S a) {s : ao} {x : aw} {f off lv i : Nat} {cs : List V} (ho : o.op = .fieldAddr s x f) (h : AK c.P s f = some off) (hx : ev S.T x = some (.lp lv cs i)) : DH c E a o (.lp lv cs (i + off)) := by
 have hr := Al hs x _ hx
 simp only [A6] at hr
 obtain ⟨hl, g, q, h1, h2⟩ := hr
 refine ⟨_, by simp only [execOp, ho, h1, Lx h, Sem.run_bind, Result.andThen_ok, Sem.run_pure]; rfl, ?_⟩
 simp only [A6]
 exact ⟨hl, g, q, by rw [gk], h2⟩
theorem Bn {E : AN} {lv : Option Nat} {g : Nat} : ∀ (cs : List V) (o : Nat), Br E lv g o cs → ∀ (i : Nat) v, cs[i]? = some v → ∃ u, E.w.cell? ⟨g, o + i, none⟩ = some u ∧ A6 E v u ∧ ¬ E.U lv g (o + i)
 | [], o, _, i, v, h => by simp at h
 | x :: cs, o, hr, i, v, h => by
  simp only [Br] at hr
  obtain ⟨⟨u, h1, h2⟩, h3, h4⟩ := hr
  cases i with
  | zero => simp only [ee, aa] at h; subst h; exact ⟨u, h1, h2, h3⟩
  | succ i =>
   have := Bn cs (o + 1) h4 i v (by simpa using h)
   rw [show o + 1 + i = o + (i + 1) by omega] at this
   exact this
theorem Eu {E : AN} {lv : Option Nat} {g : Nat} : ∀ (cs : List V) (o : Nat), (∀ (i : Nat) v, cs[i]? = some v → ∃ u, E.w.cell? ⟨g, o + i, none⟩ = some u ∧ A6 E v u ∧ ¬ E.U lv g (o + i)) → Br E lv g o cs
 | [], o, _ => by simp only [Br]
 | x :: cs, o, h => by
  simp only [Br]
  obtain ⟨u, h1, h2, h3⟩ := h 0 x rfl
  refine ⟨⟨u, h1, h2⟩, h3, Eu cs (o + 1) fun i v hi => ?_⟩
  have := h (i + 1) v (by simpa using hi)
  rwa [show o + (i + 1) = o + 1 + i by omega] at this
theorem Dh {E : AN} : ∀ (cs : List V) (us : List bm), cs.length = us.length → (∀ (i : Nat) v u, cs[i]? = some v → us[i]? = some u → A6 E v u) → AH E cs us
 | [], us, hl, _ => by
  simp only [AH]
  cases us with
  | nil => rfl
  | cons => simp at hl
 | x :: cs, us, hl, h => by
  cases us with
  | nil => simp at hl
  | cons u us =>
   simp only [AH]
   exact ⟨u, us, rfl, h 0 x u rfl rfl, Dh cs us (by simpa using hl) fun i v w hi hj => h (i + 1) v w (by simpa using hi) (by simpa using hj)⟩
theorem Kd {P : bg} {E : AN} {t : ao} {cs : List V} {g o off : Nat} {v : V} (hc : ∀ (i : Nat) v, cs[i]? = some v → ∃ u, E.w.cell? ⟨g, o + i, none⟩ = some u ∧ A6 E v u)
  (h : BH P t cs off = some v) : ∃ u, (loadVar t ⟨g, o + off, none⟩).run P E.w = .ok u E.w ∧ A6 E v u := by
 unfold BH at h
 split at h
 ·rename_i ha
  simp only [ae] at h
  obtain ⟨n, hn, h⟩ := h
  split at h
  case isFalse => simp at h
  simp only [aa] at h
  rename_i hl
  subst h
  have hex : ∀ i, i < n → ∃ u, E.w.cell? ⟨g, o + off + i, none⟩ = some u ∧ ∀ v, cs[off + i]? = some v → A6 E v u := by
   intro i hi
   obtain ⟨u, h1, h2⟩ := hc (off + i) cs[off + i] (aj (by omega))
   refine ⟨u, by rw [gk]; exact h1, fun v hv => ?_⟩
   rw [aj (by omega)] at hv
   simp only [aa] at hv
   subst hv
   exact h2
  have hcells := run_loadCells (P := P) E.w ⟨g, o + off, none⟩ n (fun j => (E.w.cell? ⟨g, o + off + j, none⟩).getD undef) (fun j hj => by
   obtain ⟨u, h1, _⟩ := hex j hj
   rw [Addr.add_lit, h1]; rfl)
  refine ⟨.agg ((da n).map fun j => (E.w.cell? ⟨g, o + off + j, none⟩).getD undef).toArray, ?_, ?_⟩
  ·simp only [loadVar, Sem.run_bind, Jb ha, Result.andThen_ok, if_true, Dz hn, hcells, Sem.run_pure]
  ·simp only [A6]
   refine ⟨_, rfl, Dh _ _ (by simp; omega) fun i v u hi hj => ?_⟩
   have hin : i < n := by
    rcases bz i n with h | h
    ·exact h
    ·rw [bf (by rw [dq]; omega)] at hi; cases hi
   simp only [dn, hin, if_true, eg] at hi
   simp only [dj, et hin, ai, aa] at hj
   obtain ⟨u', h1, h2⟩ := hex i hin
   rw [h1] at hj
   simp only [er] at hj
   subst hj
   exact h2 v hi
 ·rename_i ha
  obtain ⟨u, h1, h2⟩ := hc off v h
  refine ⟨u, ?_, h2⟩
  simp only [loadVar, Sem.run_bind, GO ha, Result.andThen_ok, ba, if_false, run_load, h1]
 ·simp at h
theorem Qz {E : AN} (hh : C1 E) {b sz : Nat} {cs : List V} (hb : E.H[b]? = some (.cells sz cs)) (i : Nat) (v : V) (hv : cs[i]? = some v) : ∃ u, E.w.cell? ⟨E.φ b, 0 + i, none⟩ = some u ∧ A6 E v u := by
 obtain ⟨cc, t, h1, h2, h3⟩ := hh.cells b sz cs hb
 obtain ⟨u, h4, h5⟩ := h3 i v hv
 exact ⟨u, by rw [cell_of_row _ _ _ _ _ _ h1, fy]; exact h4, h5⟩
theorem Ux {P : bg} {E : AN} (hh : C1 E) {t : ao} {p v : V} {u : bm} (hp : A6 E p u) (h : Ep P t E.H p = some v) :
  ∃ x, (Instr.loadAt t u).run P E.w = .ok x E.w ∧ A6 E v x := by
 unfold Ep at h
 split at h
 ·split at h
  case h_2 => simp at h
  rename_i b off _ sz cs hb
  simp only [A6] at hp
  obtain ⟨_, hp, _⟩ := hp
  obtain ⟨x, h1, h2⟩ := Kd (P := P) (o := 0) (Qz hh hb) h
  refine ⟨x, ?_, h2⟩
  rw [fy] at h1
  simp only [Instr.loadAt, hp, Instr.sureAddr, Sem.run_bind, Sem.run_pure, Result.andThen_ok, h1]
 ·simp only [A6] at hp
  obtain ⟨_, g, o, hp, hr⟩ := hp
  obtain ⟨x, h1, h2⟩ := Kd (P := P) (o := o) (fun i v hi => by
   obtain ⟨u, h1, h2, _⟩ := Bn _ _ hr i v hi
   exact ⟨u, h1, h2⟩) h
  refine ⟨x, ?_, h2⟩
  simp only [Instr.loadAt, hp, Instr.sureAddr, Sem.run_bind, Sem.run_pure, Result.andThen_ok, h1]
 ·simp at h
theorem SV (hs : CK c E S a) {t : ao} {x : aw} {p v : V} (ho : o.op = .load t x) (hx : ev S.T x = some p) (h : Ep c.P t S.H p = some v) : DH c E a o v := by
 have hr := Al hs x _ hx
 rw [← hs.H] at h
 obtain ⟨u, h1, h2⟩ := Ux (P := c.P) hs.heap hr h
 exact ⟨u, by simp only [execOp, ho, h1, Sem.run_bind, Result.andThen_ok, Sem.run_pure], h2⟩
theorem RH (hs : CK c E S a) {t : ao} {x : aw} {f off : Nat} {fs : Array Field} {g : Field} {cs : List V} {v : V} (ho : o.op = .field t x f) (h : AK c.P t f = some off) (hf : c.P.underlying t = some (.struct fs)) (hg : fs[f]? = some g)
  (hx : ev S.T x = some (.agg cs)) (hv : BH c.P g.type cs off = some v) : DH c E a o v := by
 have hr := Al hs x _ hx
 simp only [A6] at hr
 obtain ⟨us, hu, hr⟩ := hr
 obtain ⟨fs', g', n, h1, h2, h3, h4⟩ := JZ h
 rw [hf] at h1
 simp only [aa, TypeDesc.struct.injEq] at h1
 subst h1
 rw [hg] at h2
 simp only [aa] at h2
 subst h2 h4
 obtain ⟨hl, hget⟩ := B8 _ _ hr
 unfold BH at hv
 split at hv
 ·rename_i ha
  simp only [ae] at hv
  obtain ⟨m, hm, hv⟩ := hv
  split at hv
  case isFalse => simp at hv
  simp only [aa] at hv
  subst hv
  refine ⟨.agg (us.extract g.offset (g.offset + m)), ?_, ?_⟩
  ·simp only [execOp, ho, hu, Instr.field, asAgg, part, Sem.run_bind, run_underlying hf, Result.andThen_ok, hg, Sem.run_pure, Jb ha, if_true, Dz hm]
  ·simp only [A6]
   refine ⟨_, rfl, Dh _ _ ?_ fun i v u hi hj => ?_⟩
   ·simp [hl]
   ·have hj' : us.toList[g.offset + i]? = some u := by
     simp only [Array.toList_extract, List.extract_eq_take_drop, dn] at hj
     split at hj
     ·simpa using hj
     ·cases hj
    have hi' : cs[g.offset + i]? = some v := by
     rw [dn] at hi
     split at hi
     ·simpa using hi
     ·cases hi
    obtain ⟨u', k1, k2⟩ := hget _ v hi'
    rw [hj'] at k1
    simp only [aa] at k1
    subst k1
    exact k2
 ·rename_i ha
  obtain ⟨u, k1, k2⟩ := hget _ v hv
  refine ⟨u, ?_, k2⟩
  simp only [execOp, ho, hu, Instr.field, asAgg, part, Sem.run_bind, run_underlying hf, Result.andThen_ok, hg, Sem.run_pure, GO ha, ba, if_false, show us[g.offset]? = some u by simpa using k1]
 ·simp at hv
theorem Bg {P : bg} {t e : ao} (h : B4 P t = some e) : P.underlying t = some (.slice e) := by
 unfold B4 at h
 split at h <;> simp only [aa, reduceCtorEq] at h
 subst h; assumption
theorem Ly {P : bg} {w : ej} {t e : ao} {sz len cap g o : Nat} {k : fc} {n : Int} (ht : B4 P t = some e) (hz : Aw P e = some sz) (h0 : 0 ≤ n) (h1 : n < len) :
  (Instr.indexAt t (.slice (some ⟨g, o, none⟩) len cap) (.int k n)).run P w = .ok (.pointer (some ⟨g, o + n.toNat * sz, none⟩)) w := by
 simp only [Instr.indexAt, asIntOf, Sem.run_bind, Sem.run_pure, Result.andThen_ok, run_underlying (Bg ht), h0, h1, and_self, if_true, Dz hz, Addr.add_lit]
theorem Na (hs : CK c E S a) {t e : ao} {x i : aw} {sz b off len : Nat} {k : fc} {n : Int} (ho : o.op = .indexAddr t x i) (ht : B4 c.P t = some e) (hz : Aw c.P e = some sz)
  (hx : ev S.T x = some (.sl b off len)) (hi : ev S.T i = some (.int k n)) (h0 : 0 ≤ n) (h1 : n < len) : DH c E a o (.ptr b (off + n.toNat * sz)) := by
 have hr := Al hs x _ hx
 have hri := Al hs i _ hi
 simp only [A6] at hr hri
 obtain ⟨hb, ⟨cap, hv, _⟩, hn⟩ := hr
 refine ⟨_, by simp only [execOp, ho, hv, hri, Ly ht hz h0 h1, Sem.run_bind, Result.andThen_ok, Sem.run_pure]; rfl, ?_⟩
 simp only [A6]
 exact ⟨hb, trivial, hn⟩
theorem EV {x i : aw} {t e : ao} {sz lv len : Nat} {cs : List V} {k : fc} {n : Int} {A : Option Addr} {cap : Nat} (ho : o.op = .indexAddr t x i) (ht : B4 c.P t = some e) (hz : Aw c.P e = some sz)
  (hlv : lv ≤ E.m) (hx : a.eval x = .slice A len cap) (hA : ∃ g q, A = some ⟨g, q, none⟩ ∧ Br E (some lv) g q cs) (hi : a.eval i = .int k n) (h0 : 0 ≤ n) (h1 : n < len) : DH c E a o (.lp lv cs (n.toNat * sz)) := by
 obtain ⟨g, q, rfl, hr⟩ := hA
 refine ⟨_, by simp only [execOp, ho, hx, hi, Ly ht hz h0 h1, Sem.run_bind, Result.andThen_ok, Sem.run_pure]; rfl, ?_⟩
 simp only [A6]
 exact ⟨hlv, g, q, rfl, hr⟩
theorem UF {E : AN} {v : V} {u : bm} {n : Nat} (hr : A6 E v u) (h : Cd v = some n) : ∃ A cap, u = .slice A n cap ∧ n ≤ cap := by
 unfold Cd at h
 split at h <;> simp only [aa, reduceCtorEq] at h <;> subst h <;> simp only [A6] at hr
 ·obtain ⟨_, A, cap, h1, h2, _⟩ := hr; exact ⟨A, cap, h1, h2⟩
 ·obtain ⟨A, h1, _⟩ := hr; exact ⟨A, _, h1, ak _⟩
 ·obtain ⟨_, ⟨A, cap, h1, h2, _⟩, _⟩ := hr; exact ⟨A, cap, h1, h2⟩
 ·obtain ⟨_, ⟨A, cap, h1, h2, _⟩, _⟩ := hr; exact ⟨A, cap, h1, h2⟩
 ·obtain ⟨_, ⟨cap, h1, h2⟩, _⟩ := hr; exact ⟨_, cap, h1, h2⟩
theorem Um (hs : CK c E S a) {x : aw} {t : ao} {e : ao} {v : V} {n : Nat} {args : Array aw} {ats : Array ao} (ho : o.op = .call { callee := .builtin .len, args := args, argTypes := ats }) (ha : args.toList = [x]) (hat : ats[0]? = some t)
    (ht : c.P.underlying t = some (.slice e)) (hx : ev S.T x = some v) (hn : Cd v = some n) : DH c E a o (.int .i64 n) := by
  obtain ⟨A, cap, hu, _⟩ := UF (Al hs x _ hx) hn
  have hargs : args = #[x] := by apply iu; simpa using ha
  subst hargs
  refine ⟨_, by simp only [execOp, ho, resolve, Sem.run_bind, Sem.run_pure, Result.andThen_ok, invoke, builtin, Builtin.len_, hat, il, df, fq, hu, run_underlying ht, ik, ee]; rfl, ?_⟩
  simp only [A6]; rfl
theorem SU (hs : CK c E S a) {x : aw} {t : ao} {s : ByteArray} {args : Array aw} {ats : Array ao} (ho : o.op = .call { callee := .builtin .len, args := args, argTypes := ats }) (ha : args.toList = [x]) (hat : ats[0]? = some t)
    (ht : c.P.underlying t = some .string) (hx : ev S.T x = some (.str s)) : DH c E a o (.int .i64 s.size) := by
  have hu := Al hs x _ hx
  simp only [A6] at hu
  have hargs : args = #[x] := by apply iu; simpa using ha
  subst hargs
  refine ⟨_, by simp only [execOp, ho, resolve, Sem.run_bind, Sem.run_pure, Result.andThen_ok, invoke, builtin, Builtin.len_, hat, il, df, fq, hu, run_underlying ht, ik, ee]; rfl, ?_⟩
  simp only [A6]; rfl
theorem Uo (hs : CK c E S a) {x y : aw} {k k' : fc} {p q : Int} {args : Array aw} {ats : Array ao} (ho : o.op = .call { callee := .builtin .min, args := args, argTypes := ats }) (ha : args.toList = [x, y])
    (hx : ev S.T x = some (.int k p)) (hy : ev S.T y = some (.int k' q)) : DH c E a o (.int k (if q < p then q else p)) := by
  have hu := Al hs x _ hx
  have hv := Al hs y _ hy
  simp only [A6] at hu hv
  have hargs : args = #[x, y] := by apply iu; simpa using ha
  subst hargs
  refine ⟨_, by simp only [execOp, ho, resolve, Sem.run_bind, Sem.run_pure, Result.andThen_ok, invoke, builtin, Builtin.min_, Builtin.min2, il, df, fq, hu, hv, m8, mD]; rfl, ?_⟩
  simp only [A6]
theorem Un (hs : CK c E S a) {x y : aw} {k k' : fc} {p q : Int} {args : Array aw} {ats : Array ao} (ho : o.op = .call { callee := .builtin .max, args := args, argTypes := ats }) (ha : args.toList = [x, y])
    (hx : ev S.T x = some (.int k p)) (hy : ev S.T y = some (.int k' q)) : DH c E a o (.int k (if q > p then q else p)) := by
  have hu := Al hs x _ hx
  have hv := Al hs y _ hy
  simp only [A6] at hu hv
  have hargs : args = #[x, y] := by apply iu; simpa using ha
  subst hargs
  refine ⟨_, by simp only [execOp, ho, resolve, Sem.run_bind, Sem.run_pure, Result.andThen_ok, invoke, builtin, Builtin.max_, Builtin.max2, il, df, fq, hu, hv, m8, mD]; rfl, ?_⟩
  simp only [A6]
theorem QE (hs : CK c E S a) {x i : aw} {t : ao} {s : ByteArray} {k : fc} {n : Int} {b : UInt8} (ho : o.op = .index t x i) (ht : c.P.underlying t = some .string) (hx : ev S.T x = some (.str s)) (hi : ev S.T i = some (.int k n))
  (h0 : 0 ≤ n) (hb : s[n.toNat]? = some b) : DH c E a o (.int .u8 b.toNat) := by
 have hu := Al hs x _ hx
 have hv := Al hs i _ hi
 simp only [A6] at hu hv
 refine ⟨_, by simp only [execOp, ho, hu, hv, Instr.index, asIntOf, Sem.run_bind, Sem.run_pure, Result.andThen_ok, run_underlying ht, h0, if_true, hb]; rfl, ?_⟩
 simp only [A6]
theorem PG {E : AN} {lv : Option Nat} {g : Nat} (cs : List V) (o i n : Nat) (h : Br E lv g o cs) : Br E lv g (o + i) ((cs.drop i).take n) := by
 refine Eu _ _ fun j v hj => ?_
 rw [dn] at hj
 split at hj
 ·rw [eg] at hj
  have := Bn _ _ h _ v hj
  rw [gk]
  exact this
 ·cases hj
theorem T8 (hs : CK c E S a) {len cap l h : Nat} (lo hi : Option aw) (hlo : Cl S.T 0 lo = some l) (hhi : Cl S.T len hi = some h) (hlc : len ≤ cap) (hlh : l ≤ h) (hhl : h ≤ len) :
  (Instr.sliceBounds true len cap (lo.map a.eval) (hi.map a.eval) none).run c.P E.w = .ok (l, h, cap) E.w := by
 have h1 : ∀ (x : aw) (y n : Nat) (z : BoundsCode) m, Cl S.T m (some x) = some n → n ≤ y → (Instr.sliceBound (a.eval x) y z).run c.P E.w = .ok n E.w := by
  intro x y n z m hx hn
  simp only [Cl] at hx
  split at hx
  ·rename_i k i hk
   split at hx
   case isFalse => cases hx
   rename_i hi0
   simp only [aa] at hx
   subst hx
   have hr := Al hs x _ hk
   simp only [A6] at hr
   simp only [Instr.sliceBound, hr, asIntOf, Sem.run_bind, Sem.run_pure, Result.andThen_ok]
   rw [if_pos ⟨hi0, by omega⟩]
   rfl
  ·cases hx
 cases hi with
 | none =>
  simp only [Cl, aa] at hhi
  subst hhi
  cases lo with
  | none =>
   simp only [Cl, aa] at hlo
   subst hlo
   simp [Instr.sliceBounds]
  | some x =>
   have := h1 x len l .sliceB 0 hlo hlh
   simp [Instr.sliceBounds, this]
 | some y =>
  have hy := h1 y cap h .sliceAcap len hhi (by omega)
  cases lo with
  | none =>
   simp only [Cl, aa] at hlo
   subst hlo
   simp [Instr.sliceBounds, hy]
  | some x =>
   have := h1 x h l .sliceB 0 hlo hlh
   simp [Instr.sliceBounds, hy, this]
theorem J6 (hs : CK c E S a) {t e : ao} {A : Option Addr} {len cap l h sz : Nat} (lo hi : Option aw) (ht : B4 c.P t = some e) (hz : Aw c.P e = some sz) (hlo : Cl S.T 0 lo = some l) (hhi : Cl S.T len hi = some h) (hlc : len ≤ cap) (hlh : l ≤ h) (hhl : h ≤ len) :
  (Instr.sliceAt t (.slice A len cap) (lo.map a.eval) (hi.map a.eval) none).run c.P E.w = .ok (.slice (if cap = l then A else A.map (·.add (l * sz))) (h - l) (cap - l)) E.w := by
 have hu := Bg ht
 simp only [Instr.sliceAt, Instr.slice, Sem.run_bind, run_underlying hu, Result.andThen_ok, T8 hs lo hi hlo hhi hlc hlh hhl, Dz hz, Sem.run_pure]
theorem G9 (hs : CK c E S a) {t e : ao} {x : aw} {lo hi : Option aw} {lv len l h sz cap : Nat} {cs : List V} {A : Option Addr} (ho : o.op = .slice t x lo hi none) (ht : B4 c.P t = some e) (hz : Aw c.P e = some sz)
  (hlv : lv ≤ E.m) (hx : a.eval x = .slice A len cap) (hlc : len ≤ cap) (hA : len = 0 ∨ ∃ g q, A = some ⟨g, q, none⟩ ∧ Br E (some lv) g q cs)
  (hlo : Cl S.T 0 lo = some l) (hhi : Cl S.T len hi = some h) (hlh : l ≤ h) (hhl : h ≤ len) : DH c E a o (.lit lv (h - l) ((cs.drop (l * sz)).take ((h - l) * sz))) := by
 refine ⟨_, by simp only [execOp, ho, hx, J6 hs lo hi ht hz hlo hhi hlc hlh hhl, Sem.run_bind, Result.andThen_ok, Sem.run_pure, gg]; rfl, ?_⟩
 simp only [A6]
 refine ⟨hlv, _, _, rfl, by omega, ?_⟩
 by_cases h0 : h - l = 0
 ·exact .inl h0
 ·right
  rcases hA with hA | ⟨g, q, rfl, hr⟩
  ·omega
  ·refine ⟨g, q + l * sz, ?_, PG cs q _ _ hr⟩
   rw [if_neg (by omega)]
   simp only [ai, Addr.add_lit]
theorem Nd (hs : CK c E S a) {t e : ao} {x : aw} {lo hi : Option aw} {b off len l h sz : Nat} (ho : o.op = .slice t x lo hi none) (ht : B4 c.P t = some e) (hz : Aw c.P e = some sz)
  (hx : ev S.T x = some (.sl b off len)) (hlo : Cl S.T 0 lo = some l) (hhi : Cl S.T len hi = some h) (hlh : l ≤ h) (hhl : h ≤ len) : DH c E a o (if l = h then .lit 0 0 [] else .sl b (off + l * sz) (h - l)) := by
 have hr := Al hs x _ hx
 simp only [A6] at hr
 obtain ⟨hb, ⟨cap, hv, hlc⟩, hn⟩ := hr
 refine ⟨_, by simp only [execOp, ho, hv, J6 hs lo hi ht hz hlo hhi hlc hlh hhl, Sem.run_bind, Result.andThen_ok, Sem.run_pure, gg]; rfl, ?_⟩
 split
 ·simp only [A6]
  exact ⟨db _, _, _, by rw [show h - l = 0 by omega], by omega, .inl trivial⟩
 ·simp only [A6]
  refine ⟨hb, ⟨cap - l, ?_, by omega⟩, hn⟩
  rw [if_neg (by omega)]
  simp only [ai, Addr.add_lit]
theorem QG (hs : CK c E S a) {t e : ao} {x y z : aw} {v : V} {n : Nat} {k k' : fc} (ho : o.op = .slice t x none (some y) (some z)) (ht : B4 c.P t = some e) {sz : Nat} (hz : Aw c.P e = some sz)
  (hx : ev S.T x = some v) (hn : Cd v = some n) (hy : ev S.T y = some (.int k 0)) (hzz : ev S.T z = some (.int k' 0)) : DH c E a o (.tl 0 []) := by
 obtain ⟨A, cap, hu, _⟩ := UF (Al hs x _ hx) hn
 have h1 := Al hs y _ hy
 have h2 := Al hs z _ hzz
 simp only [A6] at h1 h2
 have hu' := Bg ht
 refine ⟨.slice A 0 0, ?_, by simp only [A6]; exact ⟨A, rfl, .inl trivial⟩⟩
 simp [execOp, ho, hu, h1, h2, Instr.sliceAt, Instr.slice, run_underlying hu', Instr.sliceBounds, Instr.sliceBound, asIntOf, Dz hz]
end
def AN.heap (E : AN) (H : A4) : AN := { E with H := H }
@[simp] theorem AN.Fb (E : AN) (H : A4) : (E.heap H).H = H := rfl
@[simp] theorem AN.WR (E : AN) (H : A4) : (E.heap H).w = E.w := rfl
@[simp] theorem AN.WQ (E : AN) (H : A4) : (E.heap H).φ = E.φ := rfl
@[simp] theorem AN.jM (E : AN) (H : A4) : (E.heap H).n = E.n := rfl
@[simp] theorem AN.jL (E : AN) (H : A4) : (E.heap H).m = E.m := rfl
@[simp] theorem AN.gB (E : AN) (H : A4) : (E.heap H).BM = E.BM := rfl
@[simp] theorem AN.iW (E : AN) (H : A4) : (E.heap H).lk = E.lk := rfl
@[simp] theorem AN.JI (E : AN) (H H' : A4) : (E.heap H).heap H' = E.heap H' := rfl
theorem Ab (H : A4) (b c : Nat) (x : Bb) : (H.set b x)[c]? = if b = c ∧ b < H.length then some x else H[c]? := by
 rw [jj]
 by_cases h : b = c
 ·subst h
  by_cases h2 : b < H.length
  ·simp [h2]
  ·simp [h2]
 ·simp [h]
theorem FR.kill (E : AN) (b : Nat) : FR E (E.heap (E.H.set b .dead)) where
 lk := rfl
 os := rfl
 tape := rfl
 output := rfl
 size := ak _
 len := ak _
 mm := rfl
 cell := fun _ _ _ h _ => h
 block := fun _ _ _ => rfl
 mono := by
  intro lv g i _ hu
  refine .inl ?_
  rcases hu with hu | hu
  ·exact .inl hu
  refine .inr ?_
  cases lv with
  | some lv =>
   obtain ⟨b', h1, h2, h3⟩ := hu
   refine ⟨b', h1, h2, ?_⟩
   simp only [AN.Fb, Ab] at h3
   by_cases hb : b = b' ∧ b < E.H.length
   ·rw [if_pos hb] at h3; exact h3.elim
   ·rw [if_neg hb] at h3; exact h3
  | none =>
   obtain ⟨b', h1, h3⟩ := hu
   refine ⟨b', h1, ?_⟩
   simp only [AN.Fb, Ab] at h3
   by_cases hb : b = b' ∧ b < E.H.length
   ·rw [if_pos hb] at h3; exact h3.elim
   ·rw [if_neg hb] at h3; exact h3
 By := by
  intro b' hb' hn
  refine ⟨rfl, fun l n sz => ?_⟩
  simp only [AN.Fb, Ab]
  split
  ·simp
  ·exact hn l n sz
 cells := by
  intro b' hb' hn sz cs
  simp only [AN.Fb, Ab]
  split
  ·simp
  ·exact hn sz cs
 BT := by
  intro b' l n' sz' hb' h
  simp only [AN.Fb, Ab] at h
  split at h
  ·cases h
  ·exact ⟨n', h, ak _, fun _ => ⟨rfl, fun c t hc => ⟨c, hc, rfl⟩⟩⟩
 fresh := by
  intro b' h
  refine .inl ⟨rfl, ?_⟩
  simp only [AN.Fb, Ab] at h
  split at h
  ·exact h.elim
  ·exact h
 BM := fun _ h => h
 Hn := fun _ h => .inl h
 Gp := fun _ _ _ => rfl
theorem C1.kill {E : AN} (h : C1 E) (b : Nat) : C1 (E.heap (E.H.set b .dead)) where
 cells := by
  intro b' sz cs hb
  simp only [AN.Fb, Ab] at hb
  split at hb
  ·cases hb
  ·obtain ⟨c, t, h1, h2, h3⟩ := h.cells b' sz cs hb
   exact ⟨c, t, h1, h2, fun i v hv => let ⟨u, h4, h5⟩ := h3 i v hv; ⟨u, h4, (FR.kill E b).rep h v u h5⟩⟩
 BT := by
  intro b' l n sz hb
  simp only [AN.Fb, Ab] at hb
  split at hb
  ·cases hb
  ·exact h.BT b' l n sz hb
 lvl := by
  intro b' l n sz hb
  simp only [AN.Fb, Ab] at hb
  split at hb
  ·cases hb
  ·exact h.lvl b' l n sz hb
 dm := h.dm
 maps := by
  intro b' As hb
  simp only [AN.Fb, Ab] at hb
  split at hb
  ·cases hb
  ·exact h.maps b' As hb
 inj := by
  intro b1 b2 h1 h2 he
  simp only [AN.Fb, Ab] at h1 h2
  refine h.inj b1 b2 ?_ ?_ he
  ·split at h1
   ·exact h1.elim
   ·exact h1
  ·split at h2
   ·exact h2.elim
   ·exact h2
 BM := fun g hg => ⟨(h.BM g hg).1, fun b' hl => (h.BM g hg).2 b' (by
  simp only [AN.Fb, Ab] at hl
  split at hl
  ·exact hl.elim
  ·exact hl)⟩
theorem PX {E : AN} {lv : Option Nat} {g i : Nat} (h : E.U lv g i) : g ∈ E.BM ∨ ∃ b, E.φ b = g ∧ live E.H[b]? := by
 rcases h with h | h
 ·exact .inl h
 refine .inr ?_
 cases lv with
 | some lv =>
  obtain ⟨b, h1, h2, h3⟩ := h
  refine ⟨b, h1, ?_⟩
  split at h3
  ·rename_i he; rw [he]; trivial
  ·rename_i he; rw [he]; trivial
  ·rename_i he; rw [he]; trivial
  ·exact h3.elim
 | none =>
  obtain ⟨b, h1, h3⟩ := h
  refine ⟨b, h1, ?_⟩
  split at h3
  ·rename_i he; rw [he]; trivial
  ·rename_i he; rw [he]; trivial
  ·rename_i he; rw [he]; trivial
  ·exact h3.elim
theorem O3 {E : AN} (hh : C1 E) {b : Nat} (hl : live E.H[b]?) {E' : AN} {k : Nat} (hmono : ∀ lv g i, Nv k lv → E'.U lv g i → (E.heap (E.H.set b .dead)).U lv g i ∨ E.w.heap.size ≤ g) (hs : E.φ b < E.w.heap.size) (lv : Option Nat) (hlv : Nv k lv) (i : Nat) : ¬ E'.U lv (E.φ b) i := by
 intro hu
 rcases hmono _ _ _ hlv hu with h | h
 ·rcases PX h with h | ⟨b', h1, hl'⟩
  ·exact (hh.BM _ h).2 b hl rfl
  simp only [AN.Fb, AN.WQ, Ab] at h1 hl'
  split at hl'
  ·exact hl'.elim
  ·rename_i hne
   have := hh.inj b' b hl' hl h1
   subst this
   refine hne ⟨rfl, ?_⟩
   rcases bz b' E.H.length with h | h
   ·exact h
   ·rw [bf h] at hl; exact hl.elim
 ·exact absurd hs (dt.2 h)
theorem Cy {E : AN} {cs : List V} {g o : Nat} (h : ∀ (i : Nat) v, cs[i]? = some v → ∃ u, E.w.cell? ⟨g, o + i, none⟩ = some u ∧ A6 E v u) :
  AH E cs ((da cs.length).map fun i => (E.w.cell? ⟨g, o + i, none⟩).getD undef) := by
 refine Dh _ _ (by simp) fun i v u hi hj => ?_
 obtain ⟨u', h1, h2⟩ := h i v hi
 have hl : i < cs.length := by
  rcases bz i cs.length with h | h
  ·exact h
  ·rw [bf h] at hi; cases hi
 simp only [dj, et hl, ai, aa, h1, er] at hj
 subst hj
 exact h2
theorem Gh {E : AN} {lv : Option Nat} {g o : Nat} {cs : List V} {us : List bm} (h : AH E cs us) (hc : ∀ (i : Nat) u, us[i]? = some u → E.w.cell? ⟨g, o + i, none⟩ = some u) (hu : ∀ i, i < cs.length → ¬ E.U lv g (o + i)) : Br E lv g o cs := by
 refine Eu _ _ fun i v hi => ?_
 obtain ⟨hl, hg⟩ := B8 _ _ h
 obtain ⟨u, h1, h2⟩ := hg i v hi
 have hil : i < cs.length := by
  rcases bz i cs.length with h | h
  ·exact h
  ·rw [bf h] at hi; cases hi
 exact ⟨u, hc i u h1, h2, hu i hil⟩
mutual
theorem Ks {E : AN} {d n : Nat} : ∀ (v : V) (u : bm), clean (d + 1) v = true → A6 E v u → A6 (E.shrink n d) v u
 | .int .., _, _, r => by simpa only [A6] using r
 | .bool _, _, _, r => by simpa only [A6] using r
 | .str _, _, _, r => by simpa only [A6] using r
 | .Gg, _, _, r => by simpa only [A6] using r
 | .Dw, _, _, r => by simpa only [A6] using r
 | .ptr .., _, h, _ => by simp [clean] at h
 | .lp .., _, h, _ => by simp [clean] at h
 | .tl .., _, h, _ => by simp [clean] at h
 | .snap .., _, h, _ => by simp [clean] at h
 | .sl .., _, h, _ => by simp [clean] at h
 | .fn .., _, h, _ => by simp [clean] at h
 | .lit lv len cs, _, h, r => by
  simp only [A6] at r ⊢
  simp only [clean, av, de, beq_iff_eq, decide_eq_true_eq] at h
  obtain ⟨hl, A, cap, h1, h2, h3⟩ := r
  refine ⟨by show lv ≤ d; omega, A, cap, h1, h2, ?_⟩
  rcases h3 with h3 | ⟨g, o, h3, h4⟩
  ·exact .inl h3
  ·exact .inr ⟨g, o, h3, Me (some lv) g o cs h.2 h4⟩
 | .agg cs, _, h, r => by
  simp only [A6] at r ⊢
  simp only [clean] at h
  obtain ⟨vs, h1, h2⟩ := r
  exact ⟨vs, h1, Ie cs _ h h2⟩
 | .EZ cs, _, h, r => by
  simp only [A6] at r ⊢
  simp only [clean] at h
  obtain ⟨vs, h1, h2⟩ := r
  exact ⟨vs, h1, Ie cs _ h h2⟩
theorem Me {E : AN} {d n : Nat} (lv : Option Nat) (g : Nat) : ∀ (o : Nat) (cs : List V), clean.cleanL (d + 1) cs = true → Br E lv g o cs → Br (E.shrink n d) lv g o cs
 | _, [], _, _ => by simp only [Br]
 | o, c :: cs, h, r => by
  simp only [Br] at r ⊢
  simp only [clean.cleanL, av] at h
  obtain ⟨⟨u, h1, h2⟩, h3, h4⟩ := r
  exact ⟨⟨u, h1, Ks c u h.1 h2⟩, h3, Me lv g (o + 1) cs h.2 h4⟩
theorem Ie {E : AN} {d n : Nat} : ∀ (cs : List V) (vs : List bm), clean.cleanL (d + 1) cs = true → AH E cs vs → AH (E.shrink n d) cs vs
 | [], _, _, r => by simpa only [AH] using r
 | c :: cs, _, h, r => by
  simp only [AH] at r ⊢
  simp only [clean.cleanL, av] at h
  obtain ⟨u, us, h1, h2, h3⟩ := r
  exact ⟨u, us, h1, Ks c u h.1 h2, Ie cs us h.2 h3⟩
end
mutual
theorem GY {E : AN} {d : Nat} : ∀ (v : V) (u : bm), Bk (d + 1) v = true → A6 E v u → A6 (E.shrink E.n d) v u
 | .int .., _, _, r => by simpa only [A6] using r
 | .bool _, _, _, r => by simpa only [A6] using r
 | .str _, _, _, r => by simpa only [A6] using r
 | .Gg, _, _, r => by simpa only [A6] using r
 | .Dw, _, _, r => by simpa only [A6] using r
 | .ptr .., _, _, r => by simp only [A6] at r ⊢; exact r
 | .D3 .., _, _, r => by simp only [A6] at r ⊢; exact r
 | .sl .., _, _, r => by simp only [A6] at r ⊢; exact r
 | .lp .., _, h, _ => by simp [Bk] at h
 | .tl len cs, _, h, r => by
  simp only [A6] at r ⊢
  simp only [Bk] at h
  obtain ⟨A, h1, h3⟩ := r
  refine ⟨A, h1, ?_⟩
  rcases h3 with h3 | ⟨g, o, h3, h4⟩
  ·exact .inl h3
  ·exact .inr ⟨g, o, h3, Gt (some 0) g o cs h h4⟩
 | .snap b len cs, _, h, r => by
  simp only [A6] at r ⊢
  simp only [Bk] at h
  obtain ⟨hb, ⟨A, cap, h1, h2, ⟨g, o, h3, ha, h4⟩, h5⟩, h6⟩ := r
  exact ⟨hb, ⟨A, cap, h1, h2, ⟨g, o, h3, ha, Gt none g o cs h h4⟩, h5⟩, h6⟩
 | .lit lv len cs, _, h, r => by
  simp only [A6] at r ⊢
  simp only [Bk, av, de, beq_iff_eq, decide_eq_true_eq] at h
  obtain ⟨hl, A, cap, h1, h2, h3⟩ := r
  refine ⟨by show lv ≤ d; omega, A, cap, h1, h2, ?_⟩
  rcases h3 with h3 | ⟨g, o, h3, h4⟩
  ·exact .inl h3
  ·exact .inr ⟨g, o, h3, Gt (some lv) g o cs h.2 h4⟩
 | .agg cs, _, h, r => by
  simp only [A6] at r ⊢
  simp only [Bk] at h
  obtain ⟨vs, h1, h2⟩ := r
  exact ⟨vs, h1, GK cs _ h h2⟩
 | .EZ cs, _, h, r => by
  simp only [A6] at r ⊢
  simp only [Bk] at h
  obtain ⟨vs, h1, h2⟩ := r
  exact ⟨vs, h1, GK cs _ h h2⟩
 | .fn f cs, _, h, r => by
  simp only [A6] at r ⊢
  simp only [Bk] at h
  obtain ⟨vs, h1, h2⟩ := r
  exact ⟨vs, h1, GK cs _ h h2⟩
theorem Gt {E : AN} {d : Nat} (lv : Option Nat) (g : Nat) : ∀ (o : Nat) (cs : List V), Bk.cleanGL (d + 1) cs = true → Br E lv g o cs → Br (E.shrink E.n d) lv g o cs
 | _, [], _, _ => by simp only [Br]
 | o, c :: cs, h, r => by
  simp only [Br] at r ⊢
  simp only [Bk.cleanGL, av] at h
  obtain ⟨⟨u, h1, h2⟩, h3, h4⟩ := r
  exact ⟨⟨u, h1, GY c u h.1 h2⟩, h3, Gt lv g (o + 1) cs h.2 h4⟩
theorem GK {E : AN} {d : Nat} : ∀ (cs : List V) (vs : List bm), Bk.cleanGL (d + 1) cs = true → AH E cs vs → AH (E.shrink E.n d) cs vs
 | [], _, _, r => by simpa only [AH] using r
 | c :: cs, _, h, r => by
  simp only [AH] at r ⊢
  simp only [Bk.cleanGL, av] at h
  obtain ⟨u, us, h1, h2, h3⟩ := r
  exact ⟨u, us, h1, GY c u h.1 h2, GK cs us h.2 h3⟩
end
def Va (E : AN) (v : V) (H' : A4) (v' : V) : Prop :=
 FR E (E.heap H') ∧ C1 (E.heap H') ∧ ∀ u, A6 E v u → A6 ((E.heap H').shrink 0 0) v' u
theorem Ou {f : A4 → V → Option (V × A4)} (hf : ∀ E v v' H', f E.H v = some (v', H') → C1 E → Va E v H' v') :
  ∀ (vs : List V) (E : AN) (vs' : List V) (H' : A4), Af.giveL f E.H vs = some (vs', H') → C1 E →
   FR E (E.heap H') ∧ C1 (E.heap H') ∧ (∀ us, AH E vs us → AH ((E.heap H').shrink 0 0) vs' us) ∧ vs'.length = vs.length
 | [], E, vs', H', h, hh => by
  simp only [Af.giveL, aa, ag] at h
  obtain ⟨rfl, rfl⟩ := h
  exact ⟨FR.refl E, hh, fun us hu => by simpa only [AH] using hu, rfl⟩
 | v :: vs, E, vs', H', h, hh => by
  simp only [Af.giveL, ae, af, Prod.exists] at h
  obtain ⟨v1, H1, h1, vs2, H2, h2, h3⟩ := h
  simp only [ag] at h3
  obtain ⟨rfl, rfl⟩ := h3
  obtain ⟨e1, r1, p1⟩ := hf E v v1 H1 h1 hh
  obtain ⟨e2, r2, p2, l2⟩ := Ou hf vs (E.heap H1) vs2 H2 h2 r1
  simp only [AN.JI] at e2 r2 p2
  refine ⟨e1.trans e2, r2, fun us hu => ?_, by simp [l2]⟩
  simp only [AH] at hu ⊢
  obtain ⟨u, us', rfl, hu1, hu2⟩ := hu
  exact ⟨u, us', rfl, (e2.shrink r1 (n := 0) (m := 0) (db _) (db _)).rep _ _ (p1 u hu1), p2 us' (e1.HC hh _ _ hu2)⟩
theorem I9 (lo : Nat) : ∀ (k : Nat) (E : AN) (v v' : V) (H' : A4), Af lo k E.H v = some (v', H') → C1 E → Va E v H' v'
 | 0, E, v, v', H', h, _ => by simp [Af] at h
 | k + 1, E, v, v', H', h, hh => by
  have same : (v', H') = (v, E.H) → (∀ u, A6 E v u → A6 (E.shrink 0 0) v u) → Va E v H' v' := by
   intro e hr
   simp only [ag] at e
   obtain ⟨rfl, rfl⟩ := e
   exact ⟨FR.refl E, hh, hr⟩
  have ihf := fun (E : AN) (v v' : V) (H' : A4) (h : Af lo k E.H v = some (v', H')) hh => I9 lo k E v v' H' h hh
  have ih := Ou ihf
  cases v with
  | int _ _ => simp only [Af, aa] at h; exact same h.symm fun u r => by simpa only [A6] using r
  | bool _ => simp only [Af, aa] at h; exact same h.symm fun u r => by simpa only [A6] using r
  | str _ => simp only [Af, aa] at h; exact same h.symm fun u r => by simpa only [A6] using r
  | Gg => simp only [Af, aa] at h; exact same h.symm fun u r => by simpa only [A6] using r
  | Dw => simp only [Af, aa] at h; exact same h.symm fun u r => by simpa only [A6] using r
  | ptr _ _ => simp [Af] at h
  | D3 _ => simp [Af] at h
  | lp _ _ _ => simp [Af] at h
  | fn _ _ => simp [Af] at h
  | pre _ _ _ _ => simp [Af] at h
  | EZ _ => simp [Af] at h
  | lit lv n cs =>
   simp only [Af] at h
   split at h
   ·rename_i hc
    simp only [aa] at h
    exact same h.symm fun u r => Ks _ u hc r
   ·cases h
  | tl n cs =>
   simp only [Af, af, Prod.exists, ag] at h
   obtain ⟨cs', H1, h1, rfl, rfl⟩ := h
   obtain ⟨e, r, p, l⟩ := ih cs E cs' H1 h1 hh
   refine ⟨e, r, fun u hu => ?_⟩
   simp only [A6] at hu ⊢
   obtain ⟨A, rfl, hA⟩ := hu
   refine ⟨ak _, A, n, rfl, ak _, ?_⟩
   rcases hA with hA | ⟨g, o, hA, hr⟩
   ·exact .inl hA
   ·refine .inr ⟨g, o, hA, ?_⟩
    have hg := Bn _ _ hr
    have hvs := Cy (E := E) (cs := cs) (g := g) (o := o) fun i v hi => let ⟨u, a1, a2, _⟩ := hg i v hi; ⟨u, a1, a2⟩
    refine Gh (p _ hvs) (fun i u hi => ?_) (fun i hi => ?_)
    ·have hil : i < cs.length := by
      rcases bz i cs.length with h | h
      ·exact h
      ·rw [bf (by simp; omega)] at hi; cases hi
     simp only [dj, et hil, ai, aa] at hi
     obtain ⟨u', a1, _, _⟩ := hg i _ (aj hil)
     rw [a1] at hi
     subst hi
     exact a1
    ·obtain ⟨u', a1, _, a3⟩ := hg i _ (aj (by omega))
     exact ((e.keeps hh).cell (some 0) g (o + i) u' (db _) (fun e => by cases e) a1 a3).2
  | snap b n cs =>
   simp only [Af] at h
   split at h
   case h_2 => cases h
   rename_i l m sz hb
   split at h
   ·cases h
   rename_i hcond
   simp only [not_or, Decidable.not_not] at hcond
   obtain ⟨_, rfl⟩ := hcond
   simp only [af, Prod.exists, ag] at h
   obtain ⟨cs', H1, h1, rfl, rfl⟩ := h
   have hk := FR.kill E b
   obtain ⟨e, r, p, l⟩ := ih cs (E.heap (E.H.set b .dead)) cs' H1 h1 (hh.kill b)
   simp only [AN.JI] at e r p
   refine ⟨hk.trans e, r, fun u hu => ?_⟩
   simp only [A6] at hu ⊢
   obtain ⟨_, ⟨A, cap, rfl, hc, ⟨g, o, hA, _, hr⟩, hcur⟩, _⟩ := hu
   obtain ⟨hA', c0, t0, hrow, _⟩ := (hcur _ _ _ hb).2 rfl
   rw [hA] at hA'
   simp only [aa, Addr.mk.injEq, and_true] at hA'
   obtain ⟨rfl, rfl⟩ := hA'
   refine ⟨ak _, A, cap, rfl, hc, .inr ⟨E.φ b, 0, hA, ?_⟩⟩
   have hg := Bn _ _ hr
   have hex : ∀ (i : Nat) v, cs[i]? = some v → ∃ u, E.w.cell? ⟨E.φ b, 0 + i, none⟩ = some u ∧ A6 (E.heap (E.H.set b .dead)) v u := fun i v hi => let ⟨u, a1, a2, _⟩ := hg i v hi; ⟨u, a1, hk.rep hh _ _ a2⟩
   have hvs := Cy (E := E.heap (E.H.set b .dead)) hex
   refine Gh (p _ hvs) (fun i u hi => ?_) (fun i hi => ?_)
   ·have hil : i < cs.length := by
     rcases bz i cs.length with h | h
     ·exact h
     ·rw [bf (by simp only [fe, ia]; exact h)] at hi; cases hi
    simp only [dj, et hil, ai, aa] at hi
    obtain ⟨u', a1, _⟩ := hex i _ (aj hil)
    simp only [AN.WR] at hi ⊢
    rw [a1] at hi
    simp only [er] at hi
    subst hi
    exact a1
   ·show ¬ (E.heap H1).U (some 0) (E.φ b) _
    refine O3 (E' := E.heap H1) hh (b := b) (by rw [hb]; trivial) e.mono ?_ _ (db _) _
    exact ar.1 hrow |>.1
  | sl b off n =>
   simp only [Af] at h
   split at h
   case h_2 => cases h
   rename_i sz cs hb
   split at h
   ·cases h
   rename_i hlen
   simp only [af, Prod.exists, ag] at h
   obtain ⟨cs', H1, h1, rfl, rfl⟩ := h
   have hk := FR.kill E b
   obtain ⟨e, r, p, l⟩ := ih _ (E.heap (E.H.set b .dead)) cs' H1 h1 (hh.kill b)
   simp only [AN.JI] at e r p
   refine ⟨hk.trans e, r, fun u hu => ?_⟩
   simp only [A6] at hu ⊢
   obtain ⟨_, ⟨cap, rfl, hc⟩, _⟩ := hu
   refine ⟨ak _, _, cap, rfl, hc, .inr ⟨E.φ b, off, rfl, ?_⟩⟩
   obtain ⟨cc, t, q1, q2, q3⟩ := hh.cells b sz cs hb
   have hex : ∀ (i : Nat) v, ((cs.drop off).take (n * sz))[i]? = some v → ∃ u, E.w.cell? ⟨E.φ b, off + i, none⟩ = some u ∧ A6 (E.heap (E.H.set b .dead)) v u := by
    intro i v hi
    rw [dn] at hi
    split at hi
    ·rw [eg] at hi
     obtain ⟨u, k1, k2⟩ := q3 _ v hi
     exact ⟨u, by rw [cell_of_row _ _ _ _ _ _ q1]; exact k1, hk.rep hh _ _ k2⟩
    ·cases hi
   have hvs := Cy (E := E.heap (E.H.set b .dead)) hex
   refine Gh (p _ hvs) (fun i u hi => ?_) (fun i hi => ?_)
   ·have hil : i < ((cs.drop off).take (n * sz)).length := by
     rcases bz i ((cs.drop off).take (n * sz)).length with h | h
     ·exact h
     ·rw [bf (by simp only [fe, ia]; exact h)] at hi; cases hi
    simp only [dj, et hil, ai, aa] at hi
    obtain ⟨u', a1, _⟩ := hex i _ (aj hil)
    simp only [AN.WR] at hi ⊢
    rw [a1] at hi
    simp only [er] at hi
    subst hi
    exact a1
   ·show ¬ (E.heap H1).U (some 0) (E.φ b) _
    refine O3 (E' := E.heap H1) hh (b := b) (by rw [hb]; trivial) e.mono ?_ _ (db _) _
    exact ar.1 q1 |>.1
  | agg cs =>
   simp only [Af, af, Prod.exists, ag] at h
   obtain ⟨cs', H1, h1, rfl, rfl⟩ := h
   obtain ⟨e, r, p, l⟩ := ih cs E cs' H1 h1 hh
   refine ⟨e, r, fun u hu => ?_⟩
   simp only [A6] at hu ⊢
   obtain ⟨vs, hv, hr⟩ := hu
   exact ⟨vs, hv, p _ hr⟩
theorem IS {f : A4 → V → Option (V × A4)} (hf : ∀ H v v' H', f H v = some (v', H') → H'.length = H.length ∧ ∀ (b sz : Nat) (cs : List V), H'[b]? = some (Bb.cells sz cs) → H[b]? = some (Bb.cells sz cs)) :
  ∀ (vs : List V) (H : A4) (vs' : List V) (H' : A4), Af.giveL f H vs = some (vs', H') → H'.length = H.length ∧ ∀ (b sz : Nat) (cs : List V), H'[b]? = some (Bb.cells sz cs) → H[b]? = some (Bb.cells sz cs)
 | [], H, vs', H', h => by
  simp only [Af.giveL, aa, ag] at h
  obtain ⟨_, rfl⟩ := h
  exact ⟨rfl, fun _ _ _ h => h⟩
 | v :: vs, H, vs', H', h => by
  simp only [Af.giveL, ae, af, Prod.exists, ag] at h
  obtain ⟨v1, H1, h1, vs2, H2, h2, _, rfl⟩ := h
  obtain ⟨l1, c1⟩ := hf H v v1 H1 h1
  obtain ⟨l2, c2⟩ := IS hf vs H1 vs2 H2 h2
  exact ⟨l2.trans l1, fun b sz cs h => c1 b sz cs (c2 b sz cs h)⟩
theorem Nn (H : A4) (b : Nat) : (H.set b .dead).length = H.length ∧ ∀ (x sz : Nat) (cs : List V), (H.set b .dead)[x]? = some (Bb.cells sz cs) → H[x]? = some (Bb.cells sz cs) := by
 refine ⟨by simp, fun x sz cs h => ?_⟩
 rw [Ab] at h
 split at h
 ·cases h
 ·exact h
theorem Jp (lo : Nat) : ∀ (k : Nat) (H : A4) (v v' : V) (H' : A4), Af lo k H v = some (v', H') → H'.length = H.length ∧ ∀ (b sz : Nat) (cs : List V), H'[b]? = some (Bb.cells sz cs) → H[b]? = some (Bb.cells sz cs)
 | 0, H, v, v', H', h => by simp [Af] at h
 | k + 1, H, v, v', H', h => by
  have same : (v', H') = (v, H) → H'.length = H.length ∧ ∀ (b sz : Nat) (cs : List V), H'[b]? = some (Bb.cells sz cs) → H[b]? = some (Bb.cells sz cs) := by
   intro e
   simp only [ag] at e
   obtain ⟨_, rfl⟩ := e
   exact ⟨rfl, fun _ _ _ h => h⟩
  have ih := IS fun (H : A4) (v v' : V) (H' : A4) (h : Af lo k H v = some (v', H')) => Jp lo k H v v' H' h
  cases v with
  | int _ _ => simp only [Af, aa] at h; exact same h.symm
  | bool _ => simp only [Af, aa] at h; exact same h.symm
  | str _ => simp only [Af, aa] at h; exact same h.symm
  | Gg => simp only [Af, aa] at h; exact same h.symm
  | Dw => simp only [Af, aa] at h; exact same h.symm
  | ptr _ _ => simp [Af] at h
  | D3 _ => simp [Af] at h
  | lp _ _ _ => simp [Af] at h
  | fn _ _ => simp [Af] at h
  | pre _ _ _ _ => simp [Af] at h
  | EZ _ => simp [Af] at h
  | lit lv n cs =>
   simp only [Af] at h
   split at h
   ·simp only [aa] at h; exact same h.symm
   ·cases h
  | tl n cs =>
   simp only [Af, af, Prod.exists, ag] at h
   obtain ⟨cs', H1, h1, _, rfl⟩ := h
   exact ih cs H cs' H1 h1
  | snap b n cs =>
   simp only [Af] at h
   split at h
   case h_2 => cases h
   split at h
   ·cases h
   simp only [af, Prod.exists, ag] at h
   obtain ⟨cs', H1, h1, _, rfl⟩ := h
   obtain ⟨l1, c1⟩ := ih cs _ cs' H1 h1
   obtain ⟨l2, c2⟩ := Nn H b
   exact ⟨l1.trans l2, fun x sz cs h => c2 x sz cs (c1 x sz cs h)⟩
  | sl b off n =>
   simp only [Af] at h
   split at h
   case h_2 => cases h
   split at h
   ·cases h
   simp only [af, Prod.exists, ag] at h
   obtain ⟨cs', H1, h1, _, rfl⟩ := h
   obtain ⟨l1, c1⟩ := ih _ _ cs' H1 h1
   obtain ⟨l2, c2⟩ := Nn H b
   exact ⟨l1.trans l2, fun x sz cs h => c2 x sz cs (c1 x sz cs h)⟩
  | agg cs =>
   simp only [Af, af, Prod.exists, ag] at h
   obtain ⟨cs', H1, h1, _, rfl⟩ := h
   exact ih cs H cs' H1 h1
theorem Gz (lo k : Nat) (H : A4) (v v' : V) (H' : A4) (h : Af lo k H v = some (v', H')) : H'.length = H.length := (Jp lo k H v v' H' h).1
theorem NZ (lo k : Nat) (H : A4) (v v' : V) (H' : A4) (h : Af lo k H v = some (v', H')) (b sz : Nat) (cs : List V) (hb : H'[b]? = some (.cells sz cs)) : H[b]? = some (.cells sz cs) := (Jp lo k H v v' H' h).2 b sz cs hb
theorem Br.up {E : AN} {lv lv' g o : Nat} {cs : List V} (hl : lv ≤ lv') (h : Br E (some lv) g o cs) : Br E (some lv') g o cs :=
 Eu _ _ fun i v hi => let ⟨u, a1, a2, a3⟩ := Bn _ _ h i v hi; ⟨u, a1, a2, fun hu => a3 (AN.PW hl hu)⟩
theorem Br.all {E : AN} (hh : C1 E) {lv g o : Nat} {cs : List V} (hl : E.lk.length ≤ lv) (h : Br E none g o cs) : Br E (some lv) g o cs :=
 Eu _ _ fun i v hi => let ⟨u, a1, a2, a3⟩ := Bn _ _ h i v hi; ⟨u, a1, a2, fun hu => a3 (hh.sub hl hu)⟩
def AN.lock (E : AN) (L : List Nat) : AN := { E with lk := E.lk ++ [L], m := E.m + 1 }
@[simp] theorem AN.EF (E : AN) (L : List Nat) : (E.lock L).H = E.H := rfl
@[simp] theorem AN.jS (E : AN) (L : List Nat) : (E.lock L).w = E.w := rfl
@[simp] theorem AN.KR (E : AN) (L : List Nat) : (E.lock L).φ = E.φ := rfl
@[simp] theorem AN.QP (E : AN) (L : List Nat) : (E.lock L).lk = E.lk ++ [L] := rfl
theorem C1.lock {E : AN} (h : C1 E) (L : List Nat) : C1 (E.lock L) where
 cells := fun b sz cs hb => let ⟨c, t, h1, h2, h3⟩ := h.cells b sz cs hb; ⟨c, t, h1, h2, fun i v hv => let ⟨u, h4, h5⟩ := h3 i v hv; ⟨u, h4, (C9.DV E L h.dm).rep v u h5⟩⟩
 BT := h.BT
 lvl := fun b l n sz hb => by have := h.lvl b l n sz hb; simp only [AN.QP, aq, dw]; omega
 dm := by have := h.dm; simp only [AN.QP, aq, dw]; show E.m + 1 ≤ _; omega
 inj := h.inj
 maps := h.maps
 BM := h.BM
theorem KX {E : AN} (hh : C1 E) {b sz : Nat} {cs : List V} (hb : E.H[b]? = some (.cells sz cs)) {L : List Nat} (hL : b ∈ L) (i : Nat) : ¬ (E.lock L).U (some (E.lk.length + 1)) (E.φ b) i := by
 intro hu
 have hu' := hu
 rcases hu' with hu' | ⟨b', h1, h2, h3⟩
 ·exact (hh.BM _ hu').2 b (by rw [hb]; trivial) rfl
 rcases PX hu with hu2 | ⟨b2, k1, k2⟩
 ·exact (hh.BM _ hu2).2 b (by rw [hb]; trivial) rfl
 have e1 := hh.inj b2 b k2 (by rw [hb]; trivial) k1
 subst e1
 have hl : live E.H[b']? := by
  simp only [AN.EF] at h3
  split at h3
  ·rename_i heq; rw [heq]; trivial
  ·rename_i heq; rw [heq]; trivial
  ·rename_i heq; rw [heq]; trivial
  ·exact h3.elim
 have := hh.inj b' b2 hl k2 h1
 subst this
 simp only [AN.QP] at h2
 rw [eh (by simp)] at h2
 unfold AT at h2
 rw [cb] at h2
 have := h2 L (by simp)
 simp [hL] at this
theorem FB {E E' : AN} {cs : List V} {g o : Nat} (hex : ∀ (i : Nat) v, cs[i]? = some v → ∃ u, E.w.cell? ⟨g, o + i, none⟩ = some u ∧ A6 E v u) {cs' : List V}
  (hp : ∀ us, AH E cs us → AH E' cs' us) (hl : cs'.length = cs.length) (hw : E'.w = E.w) {lv : Option Nat} (hu : ∀ i, i < cs.length → ¬ E'.U lv g (o + i)) : Br E' lv g o cs' := by
 refine Gh (hp _ (Cy hex)) (fun i u hi => ?_) (fun i hi => hu i (by omega))
 have hil : i < cs.length := by
  rcases bz i cs.length with h | h
  ·exact h
  ·rw [bf (by simp only [fe, ia]; exact h)] at hi; cases hi
 simp only [dj, et hil, ai, aa] at hi
 obtain ⟨u', a1, _⟩ := hex i _ (aj hil)
 rw [a1] at hi
 simp only [er] at hi
 subst hi
 rw [hw]
 exact a1
theorem P1 {E : AN} {f : V → Option (V × List Nat)} {L : List Nat} (hf : ∀ v v' M, f v = some (v', M) → (∀ x ∈ M, x ∈ L) → ∀ u, A6 E v u → A6 (E.lock L) v' u) :
  ∀ (vs vs' : List V) (M : List Nat), AY.lendL f vs = some (vs', M) → (∀ x ∈ M, x ∈ L) → (∀ us, AH E vs us → AH (E.lock L) vs' us) ∧ vs'.length = vs.length
 | [], vs', M, h, _ => by
  simp only [AY.lendL, aa, ag] at h
  obtain ⟨rfl, rfl⟩ := h
  exact ⟨fun us hu => by simpa only [AH] using hu, rfl⟩
 | v :: vs, vs', M, h, hM => by
  simp only [AY.lendL, ae, af, Prod.exists, ag] at h
  obtain ⟨v1, M1, h1, vs2, M2, h2, rfl, rfl⟩ := h
  obtain ⟨p, l⟩ := P1 hf vs vs2 M2 h2 (fun x hx => hM x (by simp [hx]))
  refine ⟨fun us hu => ?_, by simp [l]⟩
  simp only [AH] at hu ⊢
  obtain ⟨u, us', rfl, hu1, hu2⟩ := hu
  exact ⟨u, us', rfl, hf v v1 M1 h1 (fun x hx => hM x (by simp [hx])) u hu1, p us' hu2⟩
theorem Nq {E : AN} (hm : E.lk.length = E.m) (hh : C1 E) {L : List Nat} : ∀ (k : Nat) (v v' : V) (M : List Nat), AY (E.lk.length + 1) E.H k v = some (v', M) → (∀ x ∈ M, x ∈ L) → ∀ u, A6 E v u → A6 (E.lock L) v' u
 | 0, v, v', M, h, _ => by simp [AY] at h
 | k + 1, v, v', M, h, hM => by
  intro u hu
  have hup : A6 (E.lock L) v u := (C9.DV E L hh.dm).rep v u hu
  have ih := P1 (E := E) (L := L) (f := AY (E.lk.length + 1) E.H k) fun v v' M h hM => Nq hm hh k v v' M h hM
  cases v with
  | int _ _ => simp only [AY, aa, ag] at h; obtain ⟨rfl, rfl⟩ := h; exact hup
  | bool _ => simp only [AY, aa, ag] at h; obtain ⟨rfl, rfl⟩ := h; exact hup
  | str _ => simp only [AY, aa, ag] at h; obtain ⟨rfl, rfl⟩ := h; exact hup
  | Gg => simp only [AY, aa, ag] at h; obtain ⟨rfl, rfl⟩ := h; exact hup
  | Dw => simp only [AY, aa, ag] at h; obtain ⟨rfl, rfl⟩ := h; exact hup
  | ptr _ _ => simp only [AY, aa, ag] at h; obtain ⟨rfl, rfl⟩ := h; exact hup
  | D3 _ => simp only [AY, aa, ag] at h; obtain ⟨rfl, rfl⟩ := h; exact hup
  | lp _ _ _ => simp only [AY, aa, ag] at h; obtain ⟨rfl, rfl⟩ := h; exact hup
  | lit _ _ _ => simp only [AY, aa, ag] at h; obtain ⟨rfl, rfl⟩ := h; exact hup
  | fn _ _ => simp only [AY, aa, ag] at h; obtain ⟨rfl, rfl⟩ := h; exact hup
  | EZ _ => simp [AY] at h
  | tl n cs =>
   simp only [AY, af, Prod.exists, ag] at h
   obtain ⟨cs', M1, h1, rfl, rfl⟩ := h
   obtain ⟨p, l⟩ := ih cs cs' M1 h1 hM
   simp only [A6] at hu ⊢
   obtain ⟨A, rfl, hA⟩ := hu
   refine ⟨by show _ ≤ E.m + 1; omega, A, n, rfl, ak _, ?_⟩
   rcases hA with hA | ⟨g, o, hA, hr⟩
   ·exact .inl hA
   ·refine .inr ⟨g, o, hA, Br.up (db _) <| FB (fun i v hi => let ⟨u, a1, a2, _⟩ := Bn _ _ hr i v hi; ⟨u, a1, a2⟩) p l rfl fun i hi => ?_⟩
    obtain ⟨u', a1, _, a3⟩ := Bn _ _ hr i _ (aj hi)
    exact ((C9.DV E L hh.dm).cell (some 0) g (o + i) u' (db _) (fun e => by cases e) a1 a3).2
  | snap b n cs =>
   simp only [AY, af, Prod.exists, ag] at h
   obtain ⟨cs', M1, h1, rfl, rfl⟩ := h
   obtain ⟨p, l⟩ := ih cs cs' M1 h1 hM
   simp only [A6] at hu ⊢
   obtain ⟨_, ⟨A, cap, rfl, hc, ⟨g, o, hA, haw, hr⟩, _⟩, _⟩ := hu
   refine ⟨by show _ ≤ E.m + 1; omega, A, cap, rfl, hc, .inr ⟨g, o, hA, Br.all (hh.lock L) (by simp) (FB (fun i v hi => let ⟨u, a1, a2, _⟩ := Bn _ _ hr i v hi; ⟨u, a1, a2⟩) p l rfl fun i hi => ?_)⟩⟩
   obtain ⟨u', a1, _, a3⟩ := Bn _ _ hr i _ (aj hi)
   exact ((C9.DV E L hh.dm).cell none g (o + i) u' trivial (fun _ => haw (by omega)) a1 a3).2
  | pre b m0 n cs =>
   simp only [AY, af, Prod.exists, ag] at h
   obtain ⟨cs', M1, h1, rfl, rfl⟩ := h
   obtain ⟨p, l⟩ := ih cs cs' M1 h1 hM
   simp only [A6] at hu ⊢
   obtain ⟨_, ⟨A, cap, rfl, hc, ⟨g, o, hA, haw, hr⟩, _⟩, _⟩ := hu
   refine ⟨by show _ ≤ E.m + 1; omega, A, cap, rfl, hc, .inr ⟨g, o, hA, Br.all (hh.lock L) (by simp) (FB (fun i v hi => let ⟨u, a1, a2, _⟩ := Bn _ _ hr i v hi; ⟨u, a1, a2⟩) p l rfl fun i hi => ?_)⟩⟩
   obtain ⟨u', a1, _, a3⟩ := Bn _ _ hr i _ (aj hi)
   exact ((C9.DV E L hh.dm).cell none g (o + i) u' trivial (fun _ => haw (by omega)) a1 a3).2
  | sl b off n =>
   simp only [AY] at h
   split at h
   case h_2 => cases h
   rename_i sz cs hb
   split at h
   ·cases h
   simp only [af, Prod.exists, ag] at h
   obtain ⟨cs', M1, h1, rfl, rfl⟩ := h
   obtain ⟨p, l⟩ := ih _ cs' M1 h1 (fun x hx => hM x (by simp [hx]))
   simp only [A6] at hu ⊢
   obtain ⟨_, ⟨cap, rfl, hc⟩, _⟩ := hu
   refine ⟨by show _ ≤ E.m + 1; omega, _, cap, rfl, hc, .inr ⟨E.φ b, off, rfl, ?_⟩⟩
   obtain ⟨cc, t, q1, q2, q3⟩ := hh.cells b sz cs hb
   refine FB (fun i v hi => ?_) p l rfl fun i hi => KX hh hb (hM b (by simp)) _
   rw [dn] at hi
   split at hi
   ·rw [eg] at hi
    obtain ⟨u, k1, k2⟩ := q3 _ v hi
    exact ⟨u, by rw [cell_of_row _ _ _ _ _ _ q1]; exact k1, k2⟩
   ·cases hi
  | agg cs =>
   simp only [AY, af, Prod.exists, ag] at h
   obtain ⟨cs', M1, h1, rfl, rfl⟩ := h
   obtain ⟨p, l⟩ := ih cs cs' M1 h1 hM
   simp only [A6] at hu ⊢
   obtain ⟨vs, hv, hr⟩ := hu
   exact ⟨vs, hv, p _ hr⟩
theorem PE {E : AN} : ∀ (v : V) (u : bm), A6 E v u → A6 E (O8 v) u
 | .snap b n cs, u, h => by
  simp only [O8, A6] at h ⊢
  obtain ⟨hb, ⟨A, cap, h1, h2, h3, h5⟩, h6⟩ := h
  refine ⟨hb, ⟨A, cap, h1, h2, h3, fun l m sz hm => ⟨(h5 l m sz hm).1, fun e => ?_⟩⟩, h6⟩
  obtain ⟨q1, c, t, q2, _⟩ := (h5 l m sz hm).2 e
  exact ⟨q1, c, t, q2⟩
 | .int .., _, h | .bool _, _, h | .str _, _, h | .Gg, _, h | .Dw, _, h | .ptr .., _, h | .lp .., _, h | .tl .., _, h | .pre .., _, h | .sl .., _, h | .fn .., _, h | .lit .., _, h | .agg _, _, h | .EZ _, _, h | .D3 _, _, h => h
theorem O9 {E : AN} : ∀ (cs : List V) (us : List bm), AH E cs us → AH E (cs.map O8) us
 | [], us, h => h
 | c :: cs, us, h => by
  simp only [df, AH] at h ⊢
  obtain ⟨u, us', rfl, h1, h2⟩ := h
  exact ⟨u, us', rfl, PE c u h1, O9 cs us' h2⟩
theorem V7 {E : AN} (v : V) (u : bm) (h : A6 E v u) : A6 E (UA v) u := by
 cases v with
 | agg cs =>
  simp only [UA, A6] at h ⊢
  obtain ⟨vs, h1, h2⟩ := h
  exact ⟨vs, h1, O9 _ _ h2⟩
 | _ => exact PE _ _ h
theorem Hr {E : AN} {x : V} {u : bm} (h : A6 E x u) (ht : ∀ vs, x ≠ .EZ vs) : AH E x.cellsOf u.cells.toList := by
 cases x with
 | agg cs => simp only [A6] at h; obtain ⟨vs, rfl, hr⟩ := h; exact hr
 | EZ vs => exact absurd rfl (ht vs)
 | _ =>
  have h' := h
  simp only [V.cellsOf, AH]
  refine ⟨u, [], ?_, h, rfl⟩
  simp only [A6] at h'
  first
   | (subst h'; rfl)
   | (obtain ⟨_, h1, _⟩ := h'; subst h1; rfl)
   | (obtain ⟨_, ⟨_, h1, _⟩, _⟩ := h'; subst h1; rfl)
   | (obtain ⟨_, _, _, h1, _⟩ := h'; subst h1; rfl)
   | (obtain ⟨_, ⟨_, _, h1, _⟩, _⟩ := h'; subst h1; rfl)
theorem Lw {E : AN} {x : V} {u : bm} (h : A6 E x u) (hc : x.Ba = true) : u.oneCell' = true := by
 cases x with
 | agg cs => simp [V.Ba] at hc
 | EZ vs => simp [V.Ba] at hc
 | _ =>
  have h' := h
  simp only [A6] at h'
  first
   | (subst h'; rfl)
   | (obtain ⟨_, h1, _⟩ := h'; subst h1; rfl)
   | (obtain ⟨_, ⟨_, h1, _⟩, _⟩ := h'; subst h1; rfl)
   | (obtain ⟨_, _, _, h1, _⟩ := h'; subst h1; rfl)
   | (obtain ⟨_, ⟨_, _, h1, _⟩, _⟩ := h'; subst h1; rfl)
structure Ea (E E' : AN) (c : Array bm) (t : ao) (B6 : Bb) : Prop where
 heap : E'.w.heap = E.w.heap.push (.cells c t (0, 0))
 os : E'.w.os = E.w.os
 tape : E'.w.tape = E.w.tape
 output : E'.w.output = E.w.output
 By : ∀ b, E'.φ b = if b = E.H.length then E.w.heap.size else E.φ b
 H : E'.H = E.H ++ [B6]
 lk : E'.lk = E.lk
 n : E'.n = E.n + 1
 m : E'.m = E.m
 BM : E'.BM = E.BM
 n0 : E.n = E.H.length
theorem Ea.BR {E E' : AN} {c : Array bm} {t : ao} {B6 : Bb} (h : Ea E E' c t B6) (b : Nat) : E'.H[b]? = if b = E.H.length then some B6 else E.H[b]? := by
 rw [h.H]
 by_cases hb : b = E.H.length
 ·subst hb; simp
 ·rw [if_neg hb]
  rcases bz b E.H.length with hl | hl
  ·rw [az hl]
  ·rw [bf (by simp; omega), bf hl]
theorem Ea.CC {E E' : AN} {c : Array bm} {t : ao} {B6 : Bb} (h : Ea E E' c t B6) (g : Nat) : E'.w.heap[g]? = if g = E.w.heap.size then some (.cells c t (0, 0)) else E.w.heap[g]? := by
 rw [h.heap, gl]
theorem Ea.CI {E E' : AN} {c : Array bm} {t : ao} {B6 : Bb} (h : Ea E E' c t B6) : FR E E' where
 lk := h.lk
 os := h.os
 tape := h.tape
 output := h.output
 size := by rw [h.heap]; simp
 len := by rw [h.n]; omega
 mm := h.m
 cell := by
  intro g i u hc _
  have hg := GJ hc
  simp only [World.cell?, h.CC g] at hc ⊢
  rw [if_neg (by simp at hg; omega)]
  exact hc
 block := by
  intro g hg _
  rw [h.CC g, if_neg (by omega)]
 mono := by
  intro lv g i _ hu
  rcases hu with hu | hu
  ·exact .inl (.inl (by rw [h.BM] at hu; exact hu))
  cases lv with
  | some lv =>
   obtain ⟨b, h1, h2, h3⟩ := hu
   rw [h.lk] at h2
   rw [h.BR b] at h3
   rw [h.By b] at h1
   by_cases hb : b = E.H.length
   ·rw [if_pos hb] at h1; right; omega
   ·rw [if_neg hb] at h1 h3
    exact .inl (.inr ⟨b, h1, h2, h3⟩)
  | none =>
   obtain ⟨b, h1, h3⟩ := hu
   rw [h.BR b] at h3
   rw [h.By b] at h1
   by_cases hb : b = E.H.length
   ·rw [if_pos hb] at h1; right; omega
   ·rw [if_neg hb] at h1 h3
    exact .inl (.inr ⟨b, h1, h3⟩)
 By := by
  intro b hb hn
  have : b ≠ E.H.length := by have := h.n0; omega
  refine ⟨by rw [h.By b, if_neg this], fun l n sz => ?_⟩
  rw [h.BR b, if_neg this]
  exact hn l n sz
 cells := by
  intro b hb hn sz cs
  have : b ≠ E.H.length := by have := h.n0; omega
  rw [h.BR b, if_neg this]
  exact hn sz cs
 BT := by
  intro b l n' sz' hb hB
  have hne : b ≠ E.H.length := by have := h.n0; omega
  rw [h.BR b, if_neg hne] at hB
  refine ⟨n', hB, ak _, fun _ => ⟨by rw [h.By b, if_neg hne], fun c' t' hc => ⟨c', ?_, rfl⟩⟩⟩
  rw [h.CC]
  split
  ·rename_i he
   have := ar.1 hc |>.1
   omega
  ·exact hc
 fresh := by
  intro b hl
  rw [h.BR b] at hl
  rw [h.By b]
  by_cases hb : b = E.H.length
  ·rw [if_pos hb]; exact .inr (ak _)
  ·rw [if_neg hb] at hl ⊢; exact .inl ⟨rfl, hl⟩
 BM := fun g hg => by rw [h.BM]; exact hg
 Hn := fun g hg => .inl (by rw [h.BM] at hg; exact hg)
 Gp := fun g _ hl => by rw [h.CC g, if_neg (by omega)]
theorem Ea.rel {E E' : AN} {c : Array bm} {t : ao} {B6 : Bb} (h : Ea E E' c t B6) (hh : C1 E)
  (hc : ∀ sz cs, B6 = .cells sz cs → cs.length ≤ c.size ∧ ∀ (i : Nat) v, cs[i]? = some v → ∃ u, c[i]? = some u ∧ A6 E v u) (hb : ∀ l n sz, B6 = .BT l n sz → n * sz ≤ c.size ∧ l ≤ E.lk.length) (hm : ∀ As, B6 ≠ .mp As := by intro _ e; cases e) : C1 E' where
 cells := by
  intro b sz cs hB
  rw [h.BR b] at hB
  rw [h.By b]
  split at hB
  ·rename_i he
   rw [if_pos he, h.CC, if_pos rfl]
   simp only [aa] at hB
   obtain ⟨h1, h2⟩ := hc sz cs hB
   exact ⟨c, t, rfl, h1, fun i v hv => let ⟨u, h3, h4⟩ := h2 i v hv; ⟨u, h3, h.CI.rep hh v u h4⟩⟩
  ·rename_i he
   obtain ⟨c', t', h1, h2, h3⟩ := hh.cells b sz cs hB
   rw [if_neg he, h.CC, if_neg (by have := ar.1 h1 |>.1; omega)]
   exact ⟨c', t', h1, h2, fun i v hv => let ⟨u, h4, h5⟩ := h3 i v hv; ⟨u, h4, h.CI.rep hh v u h5⟩⟩
 dm := by rw [h.m, h.lk]; exact hh.dm
 lvl := by
  intro b l n sz hB
  rw [h.BR b] at hB
  rw [h.lk]
  split at hB
  ·simp only [aa] at hB
   exact (hb l n sz hB).2
  ·exact hh.lvl b l n sz hB
 BT := by
  intro b l n sz hB
  rw [h.BR b] at hB
  rw [h.By b]
  split at hB
  ·rename_i he
   rw [if_pos he, h.CC, if_pos rfl]
   simp only [aa] at hB
   exact ⟨c, t, rfl, (hb l n sz hB).1⟩
  ·rename_i he
   obtain ⟨c', t', h1, h2⟩ := hh.BT b l n sz hB
   rw [if_neg he, h.CC, if_neg (by have := ar.1 h1 |>.1; omega)]
   exact ⟨c', t', h1, h2⟩
 maps := by
  intro b As hB
  rw [h.BR b] at hB
  rw [h.By b]
  split at hB
  ·simp only [aa] at hB
   exact absurd hB (hm As)
  ·rename_i he
   obtain ⟨h1, h2⟩ := hh.maps b As hB
   rw [if_neg he, h.CC, if_neg (by have := ar.1 h1 |>.1; omega)]
   exact ⟨h1, h2⟩
 inj := by
  have hlt : ∀ b, live E.H[b]? → E.φ b < E.w.heap.size := by
   intro b hl
   cases hB : E.H[b]? with
   | none => rw [hB] at hl; exact hl.elim
   | some x =>
    cases x with
    | cells sz cs => obtain ⟨_, _, h1, _⟩ := hh.cells b sz cs hB; exact ar.1 h1 |>.1
    | BT l n sz => obtain ⟨_, _, h1, _⟩ := hh.BT b l n sz hB; exact ar.1 h1 |>.1
    | mp As => exact ar.1 (hh.maps b As hB).1 |>.1
    | dead => rw [hB] at hl; exact hl.elim
  intro b b' h1 h2 he
  rw [h.BR] at h1 h2
  rw [h.By, h.By] at he
  by_cases hb : b = E.H.length <;> by_cases hb' : b' = E.H.length
  ·omega
  ·rw [if_pos hb, if_neg hb'] at he
   rw [if_neg hb'] at h2
   have := hlt b' h2
   omega
  ·rw [if_neg hb, if_pos hb'] at he
   rw [if_neg hb] at h1
   have := hlt b h1
   omega
  ·rw [if_neg hb, if_neg hb'] at he
   rw [if_neg hb] at h1
   rw [if_neg hb'] at h2
   exact hh.inj b b' h1 h2 he
 BM := fun g hg => by
  rw [h.BM] at hg
  obtain ⟨h1, h2⟩ := hh.BM g hg
  refine ⟨by rw [h.heap, jk]; omega, fun b hl => ?_⟩
  rw [h.BR] at hl
  rw [h.By]
  by_cases hb : b = E.H.length
  ·rw [if_pos hb]; omega
  ·rw [if_neg hb] at hl ⊢; exact h2 b hl
theorem E8 {E : AN} (hh : C1 E) {b : Nat} (hl : live E.H[b]?) : E.φ b < E.w.heap.size := by
 cases hB : E.H[b]? with
 | none => rw [hB] at hl; exact hl.elim
 | some x =>
  cases x with
  | cells sz cs => obtain ⟨_, _, h1, _⟩ := hh.cells b sz cs hB; exact ar.1 h1 |>.1
  | BT l n sz => obtain ⟨_, _, h1, _⟩ := hh.BT b l n sz hB; exact ar.1 h1 |>.1
  | mp As => exact ar.1 (hh.maps b As hB).1 |>.1
  | dead => rw [hB] at hl; exact hl.elim
def D0 (E : AN) (base nb d : Nat) : Prop :=
 ∀ b sz cs, b < base → E.H[b]? = some (.cells sz cs) → ∀ c t, E.w.heap[E.φ b]? = some (.cells c t (0, 0)) → ∀ (i : Nat) v u, cs[i]? = some v → c[i]? = some u → A6 (E.shrink nb d) v u
theorem D0.up {E : AN} {base nb nb' d : Nat} (h : D0 E base nb d) (hn : nb ≤ nb') : D0 E base nb' d :=
 fun b sz cs h1 h2 c t h3 i v u h4 h5 => (C9.grow (E.shrink nb' d) hn (ak _)).rep v u (h b sz cs h1 h2 c t h3 i v u h4 h5)
theorem Ea.Cf {E E' : AN} {c : Array bm} {t : ao} {B6 : Bb} (h : Ea E E' c t B6) {base nb d : Nat} (hb : base ≤ E.n) (hnb : nb ≤ E.n) (hd : d ≤ E.m) (hf : D0 E base nb d) (hh : C1 E) : D0 E' base nb d := by
 intro b sz cs hlt hB c' t' hc i v u hv hu
 have hne : b ≠ E.H.length := by have := h.n0; omega
 rw [h.BR, if_neg hne] at hB
 rw [h.By, if_neg hne, h.CC] at hc
 split at hc
 ·rename_i he
  have := E8 hh (b := b) (by rw [hB]; trivial)
  omega
 ·exact (h.CI.shrink hh hnb hd).rep v u (hf b sz cs hlt hB c' t' hc i v u hv hu)
structure Gs (E E' : AN) (b : Nat) (c c' : Array bm) (t : ao) (B6 : Bb) : Prop where
 w : E'.w = E.w.setRow (E.φ b) c'
 row : E.w.heap[E.φ b]? = some (.cells c t (0, 0))
 size : c'.size = c.size
 By : E'.φ = E.φ
 H : E'.H = E.H.set b B6
 lk : E'.lk = E.lk
 n : E'.n = E.n
 m : E'.m = E.m
 BM : E'.BM = E.BM
 n0 : E.n = E.H.length
 free : AT E.lk b = true
 Lt : E.φ b ∉ E.BM
 kind : (∃ sz cs cs', E.H[b]? = some (.cells sz cs) ∧ B6 = .cells sz cs') ∨ (∃ l n n' sz, E.H[b]? = some (.BT l n sz) ∧ B6 = .BT l n' sz ∧ n < n' ∧ ∀ i, i < n * sz → c'[i]? = c[i]?)
theorem Gs.lt {E E' : AN} {b : Nat} {c c' : Array bm} {t : ao} {B6 : Bb} (h : Gs E E' b c c' t B6) : b < E.H.length := by
 rcases bz b E.H.length with hl | hl
 ·exact hl
 ·rcases h.kind with ⟨_, _, _, hb, _⟩ | ⟨_, _, _, _, hb, _⟩ <;> (rw [bf hl] at hb; cases hb)
theorem Gs.BR {E E' : AN} {b : Nat} {c c' : Array bm} {t : ao} {B6 : Bb} (h : Gs E E' b c c' t B6) (x : Nat) : E'.H[x]? = if b = x then some B6 else E.H[x]? := by
 rw [h.H, Ab]
 simp [h.lt]
theorem Gs.CC {E E' : AN} {b : Nat} {c c' : Array bm} {t : ao} {B6 : Bb} (h : Gs E E' b c c' t B6) (g : Nat) : E'.w.heap[g]? = if g = E.φ b then some (.cells c' t (0, 0)) else E.w.heap[g]? := by
 rw [h.w]
 by_cases hg : g = E.φ b
 ·subst hg; rw [if_pos rfl]; exact setRow_heap _ _ _ _ _ _ h.row
 ·rw [if_neg hg]; exact setRow_other _ _ _ _ hg
theorem Gs.CI {E E' : AN} {b : Nat} {c c' : Array bm} {t : ao} {B6 : Bb} (h : Gs E E' b c c' t B6) : FR E E' where
 lk := h.lk
 os := by rw [h.w]; rfl
 tape := by rw [h.w]; rfl
 output := by rw [h.w]; rfl
 size := by rw [h.w]; simp
 len := by rw [h.n]; exact ak _
 mm := h.m
 cell := by
  intro g i u hc hu
  simp only [World.cell?, h.CC g] at hc ⊢
  by_cases hg : g = E.φ b
  ·subst hg
   rw [if_pos rfl]
   rw [h.row] at hc
   simp only [Option.isSome_none, ba, if_false] at hc ⊢
   rcases h.kind with ⟨sz, cs, cs', hb, _⟩ | ⟨l, n, n', sz, hb, _, _, hk⟩
   ·refine absurd (.inr ⟨b, rfl, EU _ h.free, ?_⟩) hu
    rw [hb]; trivial
   ·rcases bz i (n * sz) with hi | hi
    ·rw [hk i hi]; exact hc
    ·refine absurd (.inr ⟨b, rfl, EU _ h.free, ?_⟩) hu
     rw [hb]; exact .inr hi
  ·rw [if_neg hg]; exact hc
 block := by
  intro g hg hu
  rw [h.CC g]
  split
  ·rename_i he
   subst he
   rcases h.kind with ⟨sz, cs, cs', hb, _⟩ | ⟨l, n, n', sz, hb, _, _, hk⟩
   ·refine absurd (.inr ⟨b, rfl, EU _ h.free, ?_⟩) (hu 0)
    rw [hb]; trivial
   ·refine absurd (.inr ⟨b, rfl, EU _ h.free, ?_⟩) (hu (n * sz))
    rw [hb]; exact .inr (ak _)
  ·rfl
 mono := by
  intro lv g i _ hu
  rcases hu with hu | hu
  ·exact .inl (.inl (by rw [h.BM] at hu; exact hu))
  cases lv with
  | some lv =>
   obtain ⟨x, h1, h2, h3⟩ := hu
   rw [h.lk] at h2
   rw [h.By] at h1
   rw [h.BR x] at h3
   refine .inl (.inr ⟨x, h1, h2, ?_⟩)
   by_cases hb : b = x
   ·subst hb
    rw [if_pos rfl] at h3
    rcases h.kind with ⟨sz, cs, cs', hb, rfl⟩ | ⟨l, n, n', sz, hb, rfl, hn, hk⟩
    ·rw [hb]; trivial
    ·rw [hb]
     rcases h3 with h3 | h3
     ·exact .inl h3
     ·exact .inr (bt (fx _ (jy hn)) h3)
   ·rw [if_neg hb] at h3; exact h3
  | none =>
   obtain ⟨x, h1, h3⟩ := hu
   rw [h.By] at h1
   rw [h.BR x] at h3
   refine .inl (.inr ⟨x, h1, ?_⟩)
   by_cases hb : b = x
   ·subst hb
    rw [if_pos rfl] at h3
    rcases h.kind with ⟨sz, cs, cs', hb, rfl⟩ | ⟨l, n, n', sz, hb, rfl, hn, hk⟩
    ·rw [hb]; trivial
    ·rw [hb]
     exact bt (fx _ (jy hn)) h3
   ·rw [if_neg hb] at h3; exact h3
 By := by
  intro x hx hn
  refine ⟨by rw [h.By], fun l n sz => ?_⟩
  rw [h.BR x]
  split
  ·rename_i hb
   subst hb
   rcases h.kind with ⟨sz, cs, cs', hb, rfl⟩ | ⟨l, n, n', sz, hb, rfl, _, hk⟩
   ·simp
   ·exact absurd hb (hn _ _ _)
  ·exact hn l n sz
 cells := by
  intro x hx hn sz cs
  rw [h.BR x]
  split
  ·rename_i hb
   subst hb
   rcases h.kind with ⟨sz, cs, cs', hb, rfl⟩ | ⟨l, n, n', sz, hb, rfl, _, hk⟩
   ·exact absurd hb (hn _ _)
   ·simp
  ·exact hn sz cs
 BT := by
  intro x l n' sz' hx hB
  rw [h.BR x] at hB
  by_cases hb : b = x
  ·subst hb
   rw [if_pos rfl] at hB
   simp only [aa] at hB
   rcases h.kind with ⟨sz, cs, cs', hb, rfl⟩ | ⟨l, n, n2, sz, hb, rfl, hn, hk⟩
   ·cases hB
   ·simp only [Bb.BT.injEq] at hB
    obtain ⟨rfl, rfl, rfl⟩ := hB
    exact ⟨n, hb, jy hn, fun e => absurd e (mV hn)⟩
  ·rw [if_neg hb] at hB
   refine ⟨n', hB, ak _, fun _ => ⟨by rw [h.By], fun c2 t2 hc => ?_⟩⟩
   rw [h.CC]
   split
   ·rename_i he
    rw [he, h.row] at hc
    simp only [aa, Obj.cells.injEq] at hc
    obtain ⟨rfl, rfl, _⟩ := hc
    exact ⟨c', rfl, h.size⟩
   ·exact ⟨c2, hc, rfl⟩
 fresh := by
  intro x hl
  rw [h.BR x] at hl
  rw [h.By]
  refine .inl ⟨rfl, ?_⟩
  by_cases hb : b = x
  ·subst hb
   rcases h.kind with ⟨_, _, _, hb, _⟩ | ⟨_, _, _, _, hb, _⟩ <;> (rw [hb]; trivial)
  ·rw [if_neg hb] at hl; exact hl
 BM := fun g hg => by rw [h.BM]; exact hg
 Hn := fun g hg => .inl (by rw [h.BM] at hg; exact hg)
 Gp := fun g hg _ => by rw [h.CC g, if_neg (fun e => h.Lt (by rw [← e]; exact hg))]
theorem Gs.rel {E E' : AN} {b : Nat} {c c' : Array bm} {t : ao} {B6 : Bb} (h : Gs E E' b c c' t B6) (hh : C1 E)
  (hc : ∀ sz cs, B6 = .cells sz cs → cs.length ≤ c'.size ∧ ∀ (i : Nat) v, cs[i]? = some v → ∃ u, c'[i]? = some u ∧ A6 E v u) (hb : ∀ l n sz, B6 = .BT l n sz → n * sz ≤ c'.size) : C1 E' where
 cells := by
  intro x sz cs hB
  rw [h.BR x] at hB
  rw [h.By]
  by_cases hx : b = x
  ·subst hx
   rw [if_pos rfl] at hB
   simp only [aa] at hB
   obtain ⟨h1, h2⟩ := hc sz cs hB
   rw [h.CC, if_pos rfl]
   exact ⟨c', t, rfl, h1, fun i v hv => let ⟨u, h3, h4⟩ := h2 i v hv; ⟨u, h3, h.CI.rep hh v u h4⟩⟩
  ·rw [if_neg hx] at hB
   obtain ⟨c2, t2, h1, h2, h3⟩ := hh.cells x sz cs hB
   have hne : E.φ x ≠ E.φ b := fun e => hx (hh.inj b x (by rcases h.kind with ⟨_, _, _, hb, _⟩ | ⟨_, _, _, _, hb, _⟩ <;> (rw [hb]; trivial)) (by rw [hB]; trivial) e.symm)
   rw [h.CC, if_neg hne]
   exact ⟨c2, t2, h1, h2, fun i v hv => let ⟨u, h4, h5⟩ := h3 i v hv; ⟨u, h4, h.CI.rep hh v u h5⟩⟩
 dm := by rw [h.m, h.lk]; exact hh.dm
 lvl := by
  intro x l n sz hB
  rw [h.BR x] at hB
  rw [h.lk]
  by_cases hx : b = x
  ·subst hx
   rw [if_pos rfl] at hB
   simp only [aa] at hB
   rcases h.kind with ⟨sz, cs, cs', hk, rfl⟩ | ⟨l, n, n2, sz, hk, rfl, hn, _⟩
   ·cases hB
   ·simp only [Bb.BT.injEq] at hB
    obtain ⟨rfl, rfl, rfl⟩ := hB
    exact hh.lvl _ _ _ _ hk
  ·rw [if_neg hx] at hB
   exact hh.lvl x l n sz hB
 BT := by
  intro x l n sz hB
  rw [h.BR x] at hB
  rw [h.By]
  by_cases hx : b = x
  ·subst hx
   rw [if_pos rfl] at hB
   simp only [aa] at hB
   rw [h.CC, if_pos rfl]
   exact ⟨c', t, rfl, hb l n sz hB⟩
  ·rw [if_neg hx] at hB
   obtain ⟨c2, t2, h1, h2⟩ := hh.BT x l n sz hB
   have hne : E.φ x ≠ E.φ b := fun e => hx (hh.inj b x (by rcases h.kind with ⟨_, _, _, hb, _⟩ | ⟨_, _, _, _, hb, _⟩ <;> (rw [hb]; trivial)) (by rw [hB]; trivial) e.symm)
   rw [h.CC, if_neg hne]
   exact ⟨c2, t2, h1, h2⟩
 maps := by
  intro x As hB
  rw [h.BR x] at hB
  rw [h.By]
  by_cases hx : b = x
  ·subst hx
   rw [if_pos rfl] at hB
   simp only [aa] at hB
   rcases h.kind with ⟨sz, cs, cs', hk, rfl⟩ | ⟨l, n, n2, sz, hk, rfl, hn, _⟩
   ·cases hB
   ·cases hB
  ·rw [if_neg hx] at hB
   obtain ⟨h1, h2⟩ := hh.maps x As hB
   have hne : E.φ x ≠ E.φ b := fun e => hx (hh.inj b x (by rcases h.kind with ⟨_, _, _, hb, _⟩ | ⟨_, _, _, _, hb, _⟩ <;> (rw [hb]; trivial)) (by rw [hB]; trivial) e.symm)
   rw [h.CC, if_neg hne]
   exact ⟨h1, h2⟩
 inj := by
  have hl : live E.H[b]? := by rcases h.kind with ⟨_, _, _, hb, _⟩ | ⟨_, _, _, _, hb, _⟩ <;> (rw [hb]; trivial)
  intro x y h1 h2 he
  rw [h.BR] at h1 h2
  rw [h.By] at he
  refine hh.inj x y ?_ ?_ he
  ·by_cases hx : b = x
   ·subst hx; exact hl
   ·rw [if_neg hx] at h1; exact h1
  ·by_cases hx : b = y
   ·subst hx; exact hl
   ·rw [if_neg hx] at h2; exact h2
 BM := fun g hg => by
  rw [h.BM] at hg
  obtain ⟨h1, h2⟩ := hh.BM g hg
  refine ⟨by rw [h.w]; simpa using h1, fun x hl => ?_⟩
  rw [h.BR] at hl
  rw [h.By]
  by_cases hx : b = x
  ·subst hx; exact fun e => h.Lt (e ▸ hg)
  ·rw [if_neg hx] at hl; exact h2 x hl
theorem Gs.Cf {E E' : AN} {b : Nat} {c c' : Array bm} {t : ao} {B6 : Bb} (h : Gs E E' b c c' t B6) {base nb d : Nat} (hnb : nb ≤ E.n) (hd : d ≤ E.m) (hf : D0 E base nb d) (hh : C1 E)
  (hn : ∀ sz cs, B6 = .cells sz cs → b < base → ∀ (i : Nat) v u, cs[i]? = some v → c'[i]? = some u → A6 (E.shrink nb d) v u) : D0 E' base nb d := by
 intro x sz cs hlt hB c2 t2 hc i v u hv hu
 rw [h.BR] at hB
 rw [h.By, h.CC] at hc
 by_cases hx : b = x
 ·subst hx
  rw [if_pos rfl] at hB hc
  simp only [aa, Obj.cells.injEq] at hB hc
  obtain ⟨rfl, _, _⟩ := hc
  exact (h.CI.shrink hh hnb hd).rep v u (hn sz cs hB hlt i v u hv hu)
 ·rw [if_neg hx] at hB
  have hne : E.φ x ≠ E.φ b := fun e => hx (hh.inj b x (by rcases h.kind with ⟨_, _, _, hb, _⟩ | ⟨_, _, _, _, hb, _⟩ <;> (rw [hb]; trivial)) (by rw [hB]; trivial) e.symm)
  rw [if_neg hne] at hc
  exact (h.CI.shrink hh hnb hd).rep v u (hf x sz cs hlt hB c2 t2 hc i v u hv hu)
structure Ia (E E' : AN) (b l k k' sz : Nat) (c : Array bm) (t : ao) : Prop where
 heap : E'.w.heap = E.w.heap.push (.cells c t (0, 0))
 os : E'.w.os = E.w.os
 tape : E'.w.tape = E.w.tape
 output : E'.w.output = E.w.output
 By : ∀ x, E'.φ x = if x = b then E.w.heap.size else E.φ x
 H : E'.H = E.H.set b (.BT l k' sz)
 lk : E'.lk = E.lk
 n : E'.n = E.n
 m : E'.m = E.m
 BM : E'.BM = E.BM
 TR : E.H[b]? = some (.BT l k sz)
 lt : k < k'
 size : k' * sz ≤ c.size
theorem Ia.BR {E E' : AN} {b l n n' sz : Nat} {c : Array bm} {t : ao} (h : Ia E E' b l n n' sz c t) (x : Nat) : E'.H[x]? = if b = x then some (.BT l n' sz) else E.H[x]? := by
 have hl : b < E.H.length := by
  rcases bz b E.H.length with hl | hl
  ·exact hl
  ·have := h.TR; rw [bf hl] at this; cases this
 rw [h.H, Ab]
 simp [hl]
theorem Ia.CC {E E' : AN} {b l n n' sz : Nat} {c : Array bm} {t : ao} (h : Ia E E' b l n n' sz c t) (g : Nat) : E'.w.heap[g]? = if g = E.w.heap.size then some (.cells c t (0, 0)) else E.w.heap[g]? := by
 rw [h.heap, gl]
theorem Ia.CI {E E' : AN} {b l n n' sz : Nat} {c : Array bm} {t : ao} (h : Ia E E' b l n n' sz c t) : FR E E' where
 lk := h.lk
 os := h.os
 tape := h.tape
 output := h.output
 size := by rw [h.heap]; simp
 len := by rw [h.n]; exact ak _
 mm := h.m
 cell := by
  intro g i u hc _
  have hg := GJ hc
  simp only [World.cell?, h.CC g] at hc ⊢
  rw [if_neg (by simp at hg; omega)]
  exact hc
 block := by
  intro g hg _
  rw [h.CC g, if_neg (by omega)]
 mono := by
  intro lv g i _ hu
  rcases hu with hu | hu
  ·exact .inl (.inl (by rw [h.BM] at hu; exact hu))
  cases lv with
  | some lv =>
   obtain ⟨x, h1, h2, h3⟩ := hu
   rw [h.lk] at h2
   rw [h.BR x] at h3
   rw [h.By x] at h1
   by_cases hb : x = b
   ·rw [if_pos hb] at h1; right; omega
   ·rw [if_neg hb] at h1
    rw [if_neg (fun e => hb e.symm)] at h3
    exact .inl (.inr ⟨x, h1, h2, h3⟩)
  | none =>
   obtain ⟨x, h1, h3⟩ := hu
   rw [h.BR x] at h3
   rw [h.By x] at h1
   by_cases hb : x = b
   ·rw [if_pos hb] at h1; right; omega
   ·rw [if_neg hb] at h1
    rw [if_neg (fun e => hb e.symm)] at h3
    exact .inl (.inr ⟨x, h1, h3⟩)
 By := by
  intro x hx hn
  have hne : x ≠ b := fun e => hn l n sz (by rw [e]; exact h.TR)
  refine ⟨by rw [h.By x, if_neg hne], fun q k z => ?_⟩
  rw [h.BR x, if_neg (fun e => hne e.symm)]
  exact hn q k z
 cells := by
  intro x hx hn z cs
  rw [h.BR x]
  split
  ·simp
  ·exact hn z cs
 BT := by
  intro x q k z hx hB
  rw [h.BR x] at hB
  by_cases hb : b = x
  ·subst hb
   rw [if_pos rfl] at hB
   simp only [aa, Bb.BT.injEq] at hB
   obtain ⟨rfl, rfl, rfl⟩ := hB
   exact ⟨n, h.TR, jy h.lt, fun e => absurd e (mV h.lt)⟩
  ·rw [if_neg hb] at hB
   refine ⟨k, hB, ak _, fun _ => ⟨by rw [h.By x, if_neg (fun e => hb e.symm)], fun c' t' hc => ⟨c', ?_, rfl⟩⟩⟩
   rw [h.CC]
   split
   ·rename_i he
    have := ar.1 hc |>.1
    omega
   ·exact hc
 fresh := by
  intro x hl
  rw [h.BR x] at hl
  rw [h.By x]
  by_cases hb : x = b
  ·rw [if_pos hb]; exact .inr (ak _)
  ·rw [if_neg (fun e => hb e.symm)] at hl
   rw [if_neg hb]; exact .inl ⟨rfl, hl⟩
 BM := fun g hg => by rw [h.BM]; exact hg
 Hn := fun g hg => .inl (by rw [h.BM] at hg; exact hg)
 Gp := fun g _ hl => by rw [h.CC g, if_neg (by omega)]
theorem Ia.rel {E E' : AN} {b l n n' sz : Nat} {c : Array bm} {t : ao} (h : Ia E E' b l n n' sz c t) (hh : C1 E) : C1 E' where
 cells := by
  intro x z cs hB
  rw [h.BR x] at hB
  by_cases hb : b = x
  ·rw [if_pos hb] at hB; cases hB
  ·rw [if_neg hb] at hB
   obtain ⟨c', t', h1, h2, h3⟩ := hh.cells x z cs hB
   rw [h.By x, if_neg (fun e => hb e.symm), h.CC, if_neg (by have := ar.1 h1 |>.1; omega)]
   exact ⟨c', t', h1, h2, fun i v hv => let ⟨u, h4, h5⟩ := h3 i v hv; ⟨u, h4, h.CI.rep hh v u h5⟩⟩
 dm := by rw [h.m, h.lk]; exact hh.dm
 lvl := by
  intro x q k z hB
  rw [h.BR x] at hB
  rw [h.lk]
  by_cases hb : b = x
  ·subst hb
   rw [if_pos rfl] at hB
   simp only [aa, Bb.BT.injEq] at hB
   obtain ⟨rfl, rfl, rfl⟩ := hB
   exact hh.lvl _ _ _ _ h.TR
  ·rw [if_neg hb] at hB
   exact hh.lvl x q k z hB
 BT := by
  intro x q k z hB
  rw [h.BR x] at hB
  by_cases hb : b = x
  ·subst hb
   rw [if_pos rfl] at hB
   simp only [aa, Bb.BT.injEq] at hB
   obtain ⟨rfl, rfl, rfl⟩ := hB
   rw [h.By, if_pos rfl, h.CC, if_pos rfl]
   exact ⟨c, t, rfl, h.size⟩
  ·rw [if_neg hb] at hB
   obtain ⟨c', t', h1, h2⟩ := hh.BT x q k z hB
   rw [h.By x, if_neg (fun e => hb e.symm), h.CC, if_neg (by have := ar.1 h1 |>.1; omega)]
   exact ⟨c', t', h1, h2⟩
 maps := by
  intro x As hB
  rw [h.BR x] at hB
  by_cases hb : b = x
  ·rw [if_pos hb] at hB; cases hB
  ·rw [if_neg hb] at hB
   obtain ⟨h1, h2⟩ := hh.maps x As hB
   rw [h.By x, if_neg (fun e => hb e.symm), h.CC, if_neg (by have := ar.1 h1 |>.1; omega)]
   exact ⟨h1, h2⟩
 inj := by
  intro x y h1 h2 he
  rw [h.BR] at h1 h2
  rw [h.By, h.By] at he
  by_cases hx : x = b <;> by_cases hy : y = b
  ·omega
  ·rw [if_pos hx, if_neg hy] at he
   rw [if_neg (fun e => hy e.symm)] at h2
   have := E8 hh h2
   omega
  ·rw [if_neg hx, if_pos hy] at he
   rw [if_neg (fun e => hx e.symm)] at h1
   have := E8 hh h1
   omega
  ·rw [if_neg hx, if_neg hy] at he
   rw [if_neg (fun e => hx e.symm)] at h1
   rw [if_neg (fun e => hy e.symm)] at h2
   exact hh.inj x y h1 h2 he
 BM := fun g hg => by
  rw [h.BM] at hg
  obtain ⟨h1, h2⟩ := hh.BM g hg
  refine ⟨by rw [h.heap, jk]; omega, fun x hl => ?_⟩
  rw [h.BR] at hl
  rw [h.By]
  by_cases hx : x = b
  ·rw [if_pos hx]; omega
  ·rw [if_neg (fun e => hx e.symm)] at hl; rw [if_neg hx]; exact h2 x hl
theorem Ia.Cf {E E' : AN} {b l n n' sz : Nat} {c : Array bm} {t : ao} (h : Ia E E' b l n n' sz c t) {base nb d : Nat} (hnb : nb ≤ E.n) (hd : d ≤ E.m) (hf : D0 E base nb d) (hh : C1 E) : D0 E' base nb d := by
 intro x z cs hlt hB c' t' hc i v u hv hu
 rw [h.BR] at hB
 by_cases hx : b = x
 ·rw [if_pos hx] at hB; cases hB
 ·rw [if_neg hx] at hB
  rw [h.By, if_neg (fun e => hx e.symm), h.CC] at hc
  split at hc
  ·rename_i he
   have := E8 hh (b := x) (by rw [hB]; trivial)
   omega
  ·exact (h.CI.shrink hh hnb hd).rep v u (hf x z cs hlt hB c' t' hc i v u hv hu)
structure Ap (c : Cx) (E E' : AN) (H' : A4) : Prop where
 H : E'.H = H'
 n : E'.n = H'.length
 m : E'.m = E.m
 CI : FR E E'
 heap : C1 E'
 Gn : c.hints.grow c.fn = false → ∀ base nb d, base ≤ c.base → nb ≤ E.n → d ≤ E.m → D0 E base nb d → D0 E' base nb d
 HP : c.hints.grow c.fn = true → ∀ base d, base ≤ c.base → d ≤ E.m → D0 E base E.n d → D0 E' base E'.n d
 kept : ∀ b, b < c.base → AT c.lk b = false → H'[b]? = E.H[b]?
def GD (c : Cx) (E : AN) (a : Act) (o : bq) (v : V) (H' : A4) : Prop :=
 ∃ E', Ap c E E' H' ∧ ((∃ u, (execOp a.eval o).run c.P E.w = .ok (.value u) E'.w ∧ A6 E' v u) ∨ ((execOp a.eval o).run c.P E.w = .ok .skip E'.w ∧ A6 E' v undef))
theorem Ap.refl {c : Cx} {E : AN} {S : St} {a : Act} (hs : CK c E S a) : Ap c E E S.H where
 H := hs.H
 n := hs.n
 m := rfl
 CI := FR.refl E
 heap := hs.heap
 Gn := fun _ _ _ _ _ _ _ h => h
 HP := fun _ _ _ _ _ h => h
 kept := fun _ _ _ => by rw [hs.H]
theorem DH.makes {c : Cx} {E : AN} {S : St} {a : Act} {o : bq} {v : V} (h : DH c E a o v) (hs : CK c E S a) : GD c E a o v S.H :=
 let ⟨u, h1, h2⟩ := h
 ⟨E, Ap.refl hs, .inl ⟨u, h1, h2⟩⟩
def AN.push (E : AN) (w : ej) (B6 : Bb) : AN :=
  { w := w, φ := fun b => if b = E.H.length then E.w.heap.size else E.φ b, H := E.H ++ [B6], lk := E.lk, n := E.n + 1, m := E.m, BM := E.BM }
theorem AN.OB (E : AN) (w : ej) (B6 : Bb) {c : Array bm} {t : ao} (h1 : w.heap = E.w.heap.push (.cells c t (0, 0))) (h2 : w.os = E.w.os) (h3 : w.tape = E.w.tape) (h4 : w.output = E.w.output) (h5 : E.n = E.H.length) : Ea E (E.push w B6) c t B6 where
 heap := h1
 os := h2
 tape := h3
 output := h4
 By := fun _ => rfl
 H := rfl
 lk := rfl
 n := rfl
 m := rfl
 BM := rfl
 n0 := h5
section
variable {c : Cx} {E : AN} {S : St} {a : Act} {o : bq}
theorem Ea.after (hs : CK c E S a) {E' : AN} {cs : Array bm} {t : ao} {B6 : Bb} (h : Ea E E' cs t B6) (hr : C1 E') : Ap c E E' (S.H ++ [B6]) where
 H := by rw [h.H, hs.H]
 n := by rw [h.n, hs.n]; simp
 m := h.m
 CI := h.CI
 heap := hr
 Gn := fun _ base nb d hb hn hd hf => h.Cf (by have := hs.base; have := hs.n; omega) hn hd hf hs.heap
 HP := fun _ base d hb hd hf => (h.Cf (by have := hs.base; have := hs.n; omega) (ak _) hd hf hs.heap).up h.CI.len
 kept := fun b hb _ => by rw [hs.H, az (by have := hs.base; omega)]
theorem Ea.Ve (hs : CK c E S a) {E1 E' : AN} {H1 : A4} {cs : Array bm} {t : ao} {B6 : Bb} (h0 : Ap c E E1 H1) (h : Ea E1 E' cs t B6) (hr : C1 E') : Ap c E E' (H1 ++ [B6]) where
 H := by rw [h.H, h0.H]
 n := by rw [h.n, h0.n]; simp
 m := h.m.trans h0.m
 CI := h0.CI.trans h.CI
 heap := hr
 Gn := fun hg base nb d hb hn hd hf => h.Cf (by have := hs.base; have := hs.n; have := h0.CI.len; omega) (bt hn h0.CI.len) (by rw [h0.m]; exact hd) (h0.Gn hg base nb d hb hn hd hf) h0.heap
 HP := fun hg base d hb hd hf => (h.Cf (by have := hs.base; have := hs.n; have := h0.CI.len; omega) (ak _) (by rw [h0.m]; exact hd) (h0.HP hg base d hb hd hf) h0.heap).up h.CI.len
 kept := fun b hb hl => by rw [← h0.kept b hb hl, az (by have := hs.base; have := hs.n; have := h0.CI.len; have := h0.n; omega)]
theorem Gc {P : bg} {t : ao} {n : Nat} (h : Aw P t = some n) : ∃ i, P.info? t = some i ∧ i.size = n := by
 unfold Aw at h
 simpa only [af] using h
theorem HL {P : bg} {t : ao} {z : List V} (h : BG P t = some z) : ∃ i x v, P.info? t = some i ∧ i.zero = some x ∧ Dq x = some v ∧ z = v.cellsOf := by
 unfold BG at h
 simp only [ae, af] at h
 obtain ⟨x, ⟨i, h1, h2⟩, v, h3, rfl⟩ := h
 exact ⟨i, x, v, h1, h2, h3, rfl⟩
theorem O4 {x : bm} {v : V} (h : DR x = some v) : (∀ vs, v ≠ .EZ vs) ∧ ∀ vs, v ≠ .agg vs := by
 cases x with
 | int _ _ => simp only [DR, aa] at h; subst h; simp
 | bool _ => simp only [DR, aa] at h; subst h; simp
 | string _ => simp only [DR, aa] at h; subst h; simp
 | pointer p => cases p <;> simp only [DR, aa, reduceCtorEq] at h; subst h; simp
 | slice p n m => simp only [DR] at h; split at h <;> simp_all <;> (subst h; simp)
 | nilFunc => simp only [DR, aa] at h; subst h; simp
 | _ => simp [DR] at h
theorem M9 {x : bm} {v : V} (h : Dq x = some v) : ∀ vs, v ≠ .EZ vs := by
 cases x with
 | agg cs => simp only [Dq, af] at h; obtain ⟨_, _, rfl⟩ := h; simp
 | _ => exact (O4 (by simpa only [Dq] using h)).1
theorem FF (E : AN) {x : bm} {v : V} (h : Dq x = some v) : AH E v.cellsOf x.cells.toList := Hr (HD E x v h) (M9 h)
theorem RW (hs : CK c E S a) {t : ao} {z : List V} {sz : Nat} (ho : o.op = .alloc t) (hz : BG c.P t = some z) : GD c E a o (.ptr S.H.length 0) (S.H ++ [.cells sz z]) := by
 obtain ⟨i, x, v, h1, h2, h3, rfl⟩ := HL hz
 have hp := AN.OB E (E.w.alloc (.cells x.cells t)) (.cells sz v.cellsOf) (c := x.cells) (t := t) rfl rfl rfl rfl (by rw [hs.n, hs.H])
 obtain ⟨hl, hg⟩ := B8 _ _ (FF E h3)
 have hr := hp.rel hs.heap (fun sz' cs e => by
  simp only [Bb.cells.injEq] at e
  obtain ⟨rfl, rfl⟩ := e
  exact ⟨by rw [hl]; simp, fun i v hv => by simpa using hg i v hv⟩) (fun l n sz e => by cases e)
 refine ⟨_, hp.after hs hr, .inl ⟨.pointer (some ⟨E.w.heap.size, 0, none⟩), ?_, ?_⟩⟩
 ·simp [execOp, ho, Instr.alloc, zeroValue, typeInfo, h1, h2, newVar, newRow]; rfl
 ·simp only [A6]
  rw [hp.n, hs.n, hp.By, hs.H]
  refine ⟨by omega, by rw [if_pos rfl], fun l n z => ?_⟩
  rw [hp.BR, hs.H, if_pos rfl]
  simp
theorem V0 (hs : CK c E S a) {t : ao} {x : aw} {v : V} {sz : Nat} (ho : o.op = .box t x) (hx : ev S.T x = some v) (hc : v.cellsOf.all V.Ba = true) : GD c E a o (.ptr S.H.length 0) (S.H ++ [.cells sz v.cellsOf]) := by
 have hrv := Al hs x v hx
 have ht : ∀ vs, v ≠ .EZ vs := by rintro vs rfl; simp [V.cellsOf, V.Ba] at hc
 have hp := AN.OB E (E.w.alloc (.cells (a.eval x).cells t)) (.cells sz v.cellsOf) (c := (a.eval x).cells) (t := t) rfl rfl rfl rfl (by rw [hs.n, hs.H])
 obtain ⟨hl, hg⟩ := B8 _ _ (Hr hrv ht)
 have hr := hp.rel hs.heap (fun sz' cs e => by
  simp only [Bb.cells.injEq] at e
  obtain ⟨rfl, rfl⟩ := e
  exact ⟨by rw [hl]; simp, fun i v hv => by simpa using hg i v hv⟩) (fun l n sz e => by cases e)
 refine ⟨_, hp.after hs hr, .inl ⟨.pointer (some ⟨E.w.heap.size, 0, none⟩), ?_, ?_⟩⟩
 ·simp [execOp, ho, Instr.box, newVar, newRow]; rfl
 ·simp only [A6]
  rw [hp.n, hs.n, hp.By, hs.H]
  refine ⟨by omega, by rw [if_pos rfl], fun l n z => ?_⟩
  rw [hp.BR, hs.H, if_pos rfl]
  simp
theorem Jy (cs xs : List V) (off : Nat) (h : off + xs.length ≤ cs.length) (i : Nat) : (C6 cs off xs)[i]? = if off ≤ i ∧ i < off + xs.length then xs[i - off]? else cs[i]? := by
 unfold C6
 rcases bz i off with hi | hi
 ·rw [if_neg (by omega), bj, az (by simp; omega), eo hi]
 ·rcases bz i (off + xs.length) with hj | hj
  ·rw [if_pos ⟨hi, hj⟩, bj, cd (by simp; omega), az (by simp; omega)]
   congr 1
   simp; omega
  ·rw [if_neg (by omega), cd (by simp; omega), eg]
   congr 1
   simp; omega
theorem HU (cs xs : List V) (off : Nat) (h : off + xs.length ≤ cs.length) : (C6 cs off xs).length = cs.length := by
 unfold C6; simp; omega
theorem HW {c : Cx} (hl : ∀ l ∈ c.lk, ∀ x ∈ l, x < c.base) {b : Nat} (h : c.BX b = true) : AT c.lk b = true := by
 unfold Cx.BX at h
 simp only [de, decide_eq_true_eq] at h
 rcases h with h | h
 ·unfold AT
  rw [cb]
  intro l hx
  simp only [ft, List.contains_eq_mem, decide_eq_false_iff_not]
  intro hm
  have := hl l hx b hm
  omega
 ·exact h
theorem Ib (c : Array bm) (us : List bm) (off : Nat) (h : off + us.length ≤ c.size) (i : Nat) :
  (c.toList.take off ++ us ++ c.toList.drop (off + us.length)).toArray[i]? = if off ≤ i ∧ i < off + us.length then us[i - off]? else c[i]? := by
 rw [ik]
 rcases bz i off with hi | hi
 ·rw [if_neg (by omega), bj, az (by simp; omega), eo hi, en]
 ·rcases bz i (off + us.length) with hj | hj
  ·rw [if_pos ⟨hi, hj⟩, bj, cd (by simp; omega), az (by simp; omega)]
   congr 1
   simp; omega
  ·rw [if_neg (by omega), cd (by simp; omega), eg, en]
   congr 1
   simp; omega
def AN.write (E : AN) (b : Nat) (c' : Array bm) (B6 : Bb) : AN := { E with w := E.w.setRow (E.φ b) c', H := E.H.set b B6 }
theorem Ap.trans {E' : AN} {H' : A4} {E'' : AN} {H'' : A4} (h : Ap c E E' H') (k : Ap c E' E'' H'') : Ap c E E'' H'' where
 H := k.H
 n := k.n
 m := k.m.trans h.m
 CI := h.CI.trans k.CI
 heap := k.heap
 Gn := fun hg base nb d hb hn hd hf => k.Gn hg base nb d hb (bt hn h.CI.len) (by rw [h.m]; exact hd) (h.Gn hg base nb d hb hn hd hf)
 HP := fun hg base d hb hd hf => k.HP hg base d hb (by rw [h.m]; exact hd) (h.HP hg base d hb hd hf)
 kept := fun b hb hl => (k.kept b hb hl).trans (by rw [h.H]; exact h.kept b hb hl)
theorem Ip {lo : Nat} {f : A4 → V → Option (V × A4)} (hf : ∀ H v v' H', f H v = some (v', H') → ∀ b : Nat, b < lo → H'[b]? = H[b]?) :
  ∀ (vs : List V) (H : A4) (vs' : List V) (H' : A4), Af.giveL f H vs = some (vs', H') → ∀ b : Nat, b < lo → H'[b]? = H[b]?
 | [], H, vs', H', h, b, hb => by
  simp only [Af.giveL, aa, ag] at h
  obtain ⟨_, rfl⟩ := h
  rfl
 | v :: vs, H, vs', H', h, b, hb => by
  simp only [Af.giveL, ae, af, Prod.exists, ag] at h
  obtain ⟨v1, H1, h1, vs2, H2, h2, _, rfl⟩ := h
  exact (Ip hf vs H1 vs2 H2 h2 b hb).trans (hf H v v1 H1 h1 b hb)
theorem JH (lo : Nat) : ∀ (k : Nat) (H : A4) (v v' : V) (H' : A4), Af lo k H v = some (v', H') → ∀ b : Nat, b < lo → H'[b]? = H[b]?
 | 0, H, v, v', H', h => by simp [Af] at h
 | k + 1, H, v, v', H', h => by
  have same : (v', H') = (v, H) → ∀ b : Nat, b < lo → H'[b]? = H[b]? := by
   intro e
   simp only [ag] at e
   obtain ⟨_, rfl⟩ := e
   exact fun _ _ => rfl
  have ih := Ip (lo := lo) fun (H : A4) (v v' : V) (H' : A4) (h : Af lo k H v = some (v', H')) => JH lo k H v v' H' h
  have kill : ∀ (x b : Nat), ¬ x < lo → b < lo → (H.set x .dead)[b]? = H[b]? := by
   intro x b h1 h2
   rw [Ab, if_neg (by omega)]
  cases v with
  | int _ _ => simp only [Af, aa] at h; exact same h.symm
  | bool _ => simp only [Af, aa] at h; exact same h.symm
  | str _ => simp only [Af, aa] at h; exact same h.symm
  | Gg => simp only [Af, aa] at h; exact same h.symm
  | Dw => simp only [Af, aa] at h; exact same h.symm
  | ptr _ _ => simp [Af] at h
  | D3 _ => simp [Af] at h
  | lp _ _ _ => simp [Af] at h
  | fn _ _ => simp [Af] at h
  | pre _ _ _ _ => simp [Af] at h
  | EZ _ => simp [Af] at h
  | lit lv n cs =>
   simp only [Af] at h
   split at h
   ·simp only [aa] at h; exact same h.symm
   ·cases h
  | tl n cs =>
   simp only [Af, af, Prod.exists, ag] at h
   obtain ⟨cs', H1, h1, _, rfl⟩ := h
   exact ih cs H cs' H1 h1
  | snap x n cs =>
   simp only [Af] at h
   split at h
   case h_2 => cases h
   split at h
   ·cases h
   rename_i hx
   simp only [af, Prod.exists, ag] at h
   obtain ⟨cs', H1, h1, _, rfl⟩ := h
   exact fun b hb => (ih cs _ cs' H1 h1 b hb).trans (kill x b (fun h => hx (.inl h)) hb)
  | sl x off n =>
   simp only [Af] at h
   split at h
   case h_2 => cases h
   split at h
   ·cases h
   rename_i hx
   simp only [af, Prod.exists, ag] at h
   obtain ⟨cs', H1, h1, _, rfl⟩ := h
   exact fun b hb => (ih _ _ cs' H1 h1 b hb).trans (kill x b (fun h => hx (.inl h)) hb)
  | agg cs =>
   simp only [Af, af, Prod.exists, ag] at h
   obtain ⟨cs', H1, h1, _, rfl⟩ := h
   exact ih cs H cs' H1 h1
theorem SS (hs : CK c E S a) {k : Nat} {v v' : V} {H' : A4} (h : Af c.base k S.H v = some (v', H')) : Ap c E (E.heap H') H' ∧ (∀ u, A6 E v u → A6 ((E.heap H').shrink 0 0) v' u) ∧ H'.length = S.H.length := by
 have hg := I9 c.base k E v v' H' (by rw [hs.H]; exact h) hs.heap
 obtain ⟨e, r, p⟩ := hg
 have hlen := Gz c.base k S.H v v' H' h
 have hrf : ∀ base nb d, nb ≤ E.n → d ≤ E.m → D0 E base nb d → D0 (E.heap H') base nb d := by
  intro base nb d hnb hd hf b sz cs hlt hB c' t hc i x u hv hu
  have hsame := NZ c.base k S.H v v' H' h b sz cs hB
  rw [← hs.H] at hsame
  exact (e.shrink hs.heap hnb hd).rep x u (hf b sz cs hlt hsame c' t hc i x u hv hu)
 refine ⟨⟨rfl, ?_, rfl, e, r, fun _ base nb d _ hn hd hf => hrf base nb d hn hd hf, fun _ base d _ hd hf => hrf base E.n d (ak _) hd hf, fun b hb _ => by rw [JH c.base k S.H v v' H' h b hb, hs.H]⟩, p, hlen⟩
 show E.n = _; rw [hs.n, hlen]
theorem Rz {E : AN} {b sz : Nat} {cs : List V} {c0 : Array bm} {t : ao} (cs' : List V) (c' : Array bm) (hrow : E.w.heap[E.φ b]? = some (.cells c0 t (0, 0))) (hsz : c'.size = c0.size) (hn : E.n = E.H.length)
  (hfree : AT E.lk b = true) (hb : E.H[b]? = some (.cells sz cs)) (hnh : E.φ b ∉ E.BM) : Gs E (E.write b c' (.cells sz cs')) b c0 c' t (.cells sz cs') where
 w := rfl
 row := hrow
 size := hsz
 By := rfl
 H := rfl
 lk := rfl
 n := rfl
 m := rfl
 BM := rfl
 Lt := hnh
 n0 := hn
 free := hfree
 kind := .inl ⟨sz, cs, cs', hb, rfl⟩
theorem K0 (hs : CK c E S a) {E1 : AN} {H1 : A4} (ha : Ap c E E1 H1) (hw1 : E1.w = E.w) {t : ao} {p x : aw} {b off sz : Nat} {cs : List V} {x' : V} (ho : o.op = .store t p x)
  (hp : A6 E1 (.ptr b off) (a.eval p)) (hx : A6 E1 x' (a.eval x)) (hf : b < c.base → A6 (E1.shrink (if c.hints.grow c.fn = true then E1.n else 0) 0) x' (a.eval x)) (hfree : AT E1.lk b = true) (hb : H1[b]? = some (.cells sz cs))
  (hsz : Aw c.P t = some x'.cellsOf.length) (hfit : off + x'.cellsOf.length ≤ cs.length) (hcell : x'.cellsOf.all V.Ba = true) : GD c E a o C7 (H1.set b (.cells sz (C6 cs off x'.cellsOf))) := by
 have hb' : E1.H[b]? = some (.cells sz cs) := by rw [ha.H]; exact hb
 obtain ⟨c0, ty, q1, q2, q3⟩ := ha.heap.cells b sz cs hb'
 have ht : ∀ vs, x' ≠ .EZ vs := by rintro vs rfl; simp [V.cellsOf, V.Ba] at hcell
 have hvs := Hr hx ht
 obtain ⟨hl, hg⟩ := B8 _ _ hvs
 simp only [A6] at hp
 obtain ⟨_, hp, _⟩ := hp
 have hone : ∀ v ∈ (a.eval x).cells.toList, v.oneCell' = true := by
  intro v hv
  obtain ⟨i, hi⟩ := lZ hv
  have hil : i < x'.cellsOf.length := by
   rw [hl]
   exact (al.1 hi).1
  obtain ⟨u, h1, h2⟩ := hg i _ (aj hil)
  rw [hi] at h1
  simp only [aa] at h1
  subst h1
  rw [cb] at hcell
  exact Lw h2 (hcell _ (dc hil))
 have hrun := run_storeCells_at c.P (E1.φ b) off ty (a.eval x).cells.toList 0 c0 E.w (by rw [← hw1]; exact q1) (by rw [← hl]; omega) hone
 simp only [ju] at hrun
 have hsize : (a.eval x).cells.size = x'.cellsOf.length := by rw [hl]; simp
 let c' : Array bm := (c0.toList.take off ++ (a.eval x).cells.toList ++ c0.toList.drop (off + (a.eval x).cells.toList.length)).toArray
 have hc'size : c'.size = c0.size := by
  have : off + (a.eval x).cells.toList.length ≤ c0.size := by rw [← hl]; omega
  simp only [c', je, aq, dq, kn, gm] at *
  omega
 have hc'get : ∀ i, c'[i]? = if off ≤ i ∧ i < off + (a.eval x).cells.toList.length then (a.eval x).cells.toList[i - off]? else c0[i]? := fun i => Ib c0 _ off (by rw [← hl]; omega) i
 have hwr := Rz (C6 cs off x'.cellsOf) c' q1 hc'size (by rw [ha.n, ha.H]) hfree hb' (fun e => (ha.heap.BM _ e).2 b (by rw [hb']; trivial) rfl)
 have hnew : ∀ (i : Nat) v, (C6 cs off x'.cellsOf)[i]? = some v → ∃ u, c'[i]? = some u ∧ A6 E1 v u := by
  intro i v hv
  rw [Jy cs _ off hfit] at hv
  rw [hc'get, ← hl]
  by_cases hc : off ≤ i ∧ i < off + x'.cellsOf.length
  ·rw [if_pos hc] at hv ⊢
   exact hg _ v hv
  ·rw [if_neg hc] at hv ⊢
   exact q3 i v hv
 have hr := hwr.rel ha.heap (fun sz' cs' e => by
  simp only [Bb.cells.injEq] at e
  obtain ⟨_, rfl⟩ := e
  exact ⟨by rw [HU cs _ off hfit, hc'size]; exact q2, hnew⟩) (fun l n sz e => by cases e)
 have hfor : ∀ base nb d, base ≤ c.base → nb ≤ E1.n → (c.hints.grow c.fn = true → nb = E1.n) → d ≤ E1.m → D0 E1 base nb d → D0 (E1.write b c' (.cells sz (C6 cs off x'.cellsOf))) base nb d := by
  intro base nb d hbase hnb hgr hd hf1
  refine hwr.Cf hnb hd hf1 ha.heap (fun sz' cs' e hlt i v u hv hu => ?_)
  simp only [Bb.cells.injEq] at e
  obtain ⟨_, rfl⟩ := e
  rw [Jy cs _ off hfit] at hv
  rw [hc'get, ← hl] at hu
  by_cases hc : off ≤ i ∧ i < off + x'.cellsOf.length
  ·rw [if_pos hc] at hv hu
   obtain ⟨_, hg'⟩ := B8 _ _ (Hr (hf (ck hlt hbase)) ht)
   obtain ⟨u', h1, h2⟩ := hg' _ v hv
   rw [hu] at h1
   simp only [aa] at h1
   subst h1
   refine (C9.grow (E1.shrink nb d) (n := _) (m := 0) ?_ (db _)).rep _ _ h2
   show (if c.hints.grow c.fn = true then E1.n else 0) ≤ nb
   split
   ·rename_i hgt; rw [hgr hgt]; exact ak _
   ·exact db _
  ·rw [if_neg hc] at hv hu
   exact hf1 b sz cs hlt hb' c0 ty q1 i v u hv hu
 refine ⟨E1.write b c' (.cells sz (C6 cs off x'.cellsOf)), ⟨?_, ?_, ha.m, ha.CI.trans hwr.CI, hr,
  fun hg base nb d hb0 hn hd hf0 => hfor base nb d hb0 (bt hn ha.CI.len) (fun h => by rw [hg] at h; cases h) (by rw [ha.m]; exact hd) (ha.Gn hg base nb d hb0 hn hd hf0),
  fun hg base d hb0 hd hf0 => hfor base _ d hb0 (ak _) (fun _ => rfl) (by rw [ha.m]; exact hd) (ha.HP hg base d hb0 hd hf0),
  fun b' hb0 hl0 => ?_⟩, .inr ⟨?_, ?_⟩⟩
 ·show E1.H.set b _ = _; rw [ha.H]
 ·show E1.n = _; rw [ha.n]; simp
 ·rw [Ab, if_neg, ha.kept b' hb0 hl0]
  rintro ⟨rfl, _⟩
  rw [ha.CI.lk, hs.lk] at hfree
  rw [hfree] at hl0
  cases hl0
 ·simp only [execOp, ho, hp, Instr.storeAt, Instr.sureAddr, storeVar, Sem.run_bind, Sem.run_pure, Result.andThen_ok, Dz hsz, hsize, ne_eq, not_true_eq_false, if_false, hrun]
  show Result.ok Next.skip (E.w.setRow (E1.φ b) c') = Result.ok Next.skip (E1.w.setRow (E1.φ b) c')
  rw [hw1]
 ·simp only [C7, A6]
  exact ⟨#[], rfl, by simp only [AH]⟩
theorem RZ (hs : CK c E S a) {t : ao} {p x : aw} {P X : V} {H' : A4} (ho : o.op = .store t p x) (hp : ev S.T p = some P) (hx : ev S.T x = some X) (h : FE c t S.H P X = some H') : GD c E a o C7 H' := by
 have hrp := Al hs p _ hp
 have hrx := Al hs x _ hx
 cases P with
 | ptr b off =>
  simp only [FE] at h
  split at h
  case isFalse => cases h
  rename_i hmw
  have hfree := HW hs.DV hmw
  simp only [ae, Prod.exists] at h
  obtain ⟨X1, H1, hX, h⟩ := h
  split at h
  case h_2 => cases h
  rename_i sz cs hb
  split at h
  case isFalse => cases h
  rename_i hcond
  simp only [aa] at h
  subst h
  obtain ⟨k1, k2, k3⟩ := hcond
  by_cases hlt : b < c.base
  ·rw [if_pos hlt] at hX
   split at hX
   ·rename_i hgrow
    split at hX
    case isFalse => cases hX
    rename_i hcl
    simp only [aa, ag] at hX
    obtain ⟨rfl, rfl⟩ := hX
    refine K0 hs (Ap.refl hs) rfl ho hrp hrx (fun _ => ?_) (by rw [hs.lk]; exact hfree) hb k1 k2 k3
    rw [if_pos hgrow]
    exact GY (E := E) (d := 0) X _ hcl hrx
   ·rename_i hgrow
    obtain ⟨ha, hr, hlen⟩ := SS hs hX
    refine K0 hs ha rfl ho (ha.CI.rep hs.heap _ _ hrp) ?_ (fun _ => ?_) (by show AT E.lk b = true; rw [hs.lk]; exact hfree) hb k1 k2 k3
    ·exact (C9.grow (E.heap H1) (db _) (db _)).rep _ _ (hr _ hrx)
    ·rw [if_neg hgrow]
     exact hr _ hrx
  ·rw [if_neg hlt] at hX
   simp only [aa, ag] at hX
   obtain ⟨rfl, rfl⟩ := hX
   exact K0 hs (Ap.refl hs) rfl ho hrp hrx (fun h => absurd h hlt) (by rw [hs.lk]; exact hfree) hb k1 k2 k3
 | _ => simp [FE] at h
theorem TE {E : AN} {cs xs : List V} {arr : Array bm} {us : List bm} {off : Nat} (hc : AH E cs arr.toList) (hx : AH E xs us) (hfit : off + xs.length ≤ cs.length) {arr' : Array bm} (hsz : arr'.size = arr.size)
  (hg : ∀ k, arr'[k]? = if off ≤ k ∧ k < off + us.length then us[k - off]? else arr[k]?) : AH E (C6 cs off xs) arr'.toList := by
 obtain ⟨l1, g1⟩ := B8 _ _ hc
 obtain ⟨l2, g2⟩ := B8 _ _ hx
 refine Dh _ _ ?_ fun i v u hi hj => ?_
 ·rw [HU cs xs off hfit, l1]; simp [hsz]
 ·rw [Jy cs xs off hfit] at hi
  rw [en, hg, ← l2] at hj
  by_cases h : off ≤ i ∧ i < off + xs.length
  ·rw [if_pos h] at hi hj
   obtain ⟨u', h1, h2⟩ := g2 _ v hi
   rw [hj] at h1
   simp only [aa] at h1
   subst h1
   exact h2
  ·rw [if_neg h] at hi hj
   obtain ⟨u', h1, h2⟩ := g1 _ v hi
   rw [en, hj] at h1
   simp only [aa] at h1
   subst h1
   exact h2
def JT (E : AN) : List (Nat × V) → List (Nat × bm) → Prop
 | [], us => us = []
 | (i, v) :: ps, us => ∃ u us', us = (i, u) :: us' ∧ A6 E v u ∧ JT E ps us'
theorem FR.gY {E E' : AN} (h : FR E E') (hh : C1 E) : ∀ (ps : List (Nat × V)) (us : List (Nat × bm)), JT E ps us → JT E' ps us
 | [], _, r => r
 | (_, v) :: ps, _, r => by
  simp only [JT] at r ⊢
  obtain ⟨u, us', h1, h2, h3⟩ := r
  exact ⟨u, us', h1, h.rep hh v u h2, h.gY hh ps us' h3⟩
theorem MQ (hs : CK c E S a) : ∀ (xs : List (Nat × aw)) (ps : List (Nat × V)), Qp S.T xs = some ps → JT E ps (xs.map fun p => (p.1, a.eval p.2))
 | [], ps, h => by simp only [Qp, aa] at h; subst h; simp only [JT, fq]
 | (i, x) :: xs, ps, h => by
  simp only [Qp, ae, af] at h
  obtain ⟨v, hv, ws, hw, rfl⟩ := h
  simp only [JT, df]
  exact ⟨_, _, rfl, Al hs x v hv, MQ hs xs ws hw⟩
theorem I5 {E : AN} (place : Nat → Option (Nat × Nat)) : ∀ (ps : List (Nat × V)) (us : List (Nat × bm)) (cs : List V) (arr : Array bm) (cs' : List V),
  DS place cs ps = some cs' → JT E ps us → AH E cs arr.toList → ∃ arr', Instr.fill place arr us = some arr' ∧ AH E cs' arr'.toList
 | [], us, cs, arr, cs', h, hp, hc => by
  simp only [DS, aa] at h
  subst h
  simp only [JT] at hp
  subst hp
  exact ⟨arr, rfl, hc⟩
 | (i, v) :: ps, us, cs, arr, cs', h, hp, hc => by
  simp only [JT] at hp
  obtain ⟨u, us', rfl, hu, hus⟩ := hp
  simp only [DS] at h
  split at h
  ·cases h
  ·rename_i off sz hpl
   split at h
   ·cases h
   ·rename_i hcond
    simp only [not_or, dt, Decidable.not_not, lq] at hcond
    obtain ⟨h1, h2, h3⟩ := hcond
    have ht : ∀ vs, v ≠ .EZ vs := by rintro vs rfl; simp [V.cellsOf, V.Ba] at h3
    have hvs := Hr hu ht
    obtain ⟨l1, _⟩ := B8 _ _ hc
    obtain ⟨l2, _⟩ := B8 _ _ hvs
    have hsz : u.cells.size = sz := by rw [← h1, l2]; simp
    have harr : arr.size = cs.length := by rw [l1]; simp
    have hfold := Go.Great.foldl_set off u.cells.toList 0 arr
    simp only [ju] at hfold
    obtain ⟨f1, f2⟩ := hfold
    have hstep : Instr.fill place arr ((i, u) :: us') = Instr.fill place ((u.cells.toList.zipIdx 0).foldl (fun cs (x : bm × Nat) => cs.setIfInBounds (off + x.2) x.1) arr) us' := by
     simp only [Instr.fill, hpl]
     rw [if_neg (by simp only [hsz, ne_eq, not_true_eq_false, decide_false, Bool.false_or, decide_eq_true_eq]; omega)]
     rw [← Array.foldl_toList, Array.toList_zipIdx]
    rw [hstep]
    refine I5 place ps us' (C6 cs off v.cellsOf) _ cs' h hus (TE hc hvs (by omega) f1 fun k => ?_)
    rw [f2 k]
    by_cases hk : off ≤ k ∧ k < off + u.cells.toList.length
    ·rw [if_pos hk, if_pos ⟨hk.1, hk.2, by rw [← l2] at hk; omega⟩]
    ·rw [if_neg hk, if_neg (fun e => hk ⟨e.1, e.2.1⟩)]
theorem HT (place : Nat → Option (Nat × Nat)) : ∀ (ps : List (Nat × V)) (cs cs' : List V), DS place cs ps = some cs' → cs'.length = cs.length
 | [], cs, cs', h => by simp only [DS, aa] at h; rw [h]
 | (i, v) :: ps, cs, cs', h => by
  simp only [DS] at h
  split at h
  ·cases h
  ·split at h
   ·cases h
   ·rename_i hcond
    simp only [not_or, dt, Decidable.not_not, lq] at hcond
    rw [HT place ps _ cs' h, HU _ _ _ (by omega)]
theorem RG (hs : CK c E S a) {t : ao} {parts : Array (Nat × aw)} {ps : List (Nat × V)} {z cs : List V} {pl : List (Nat × Nat)} (ho : o.op = .build t parts) (hp : Qp S.T parts.toList = some ps) (hz : BG c.P t = some z) (hpl : Dg c.P t = some pl)
  (h : DS (fun i => pl[i]?) z ps = some cs) : DH c E a o (.agg cs) := by
 obtain ⟨i, x, v, h1, h2, h3, rfl⟩ := HL hz
 obtain ⟨arr, k1, k2⟩ := I5 _ ps _ _ x.cells cs h (MQ hs _ _ hp) (FF E h3)
 unfold Dg at hpl
 split at hpl
 case h_2 => cases hpl
 rename_i fs hu
 have hb : c.P.built t (parts.map fun (i, x) => (i, a.eval x)).toList = some arr := by
  simp only [Program.built, h1, hu, h2, hpl, Array.toList_map]
  simpa using k1
 refine ⟨.agg arr, by simp only [execOp, ho, run_build E.w t _ arr hb, Sem.run_bind, Result.andThen_ok, Sem.run_pure], ?_⟩
 simp only [A6]
 exact ⟨arr, rfl, k2⟩
theorem Ln {α : Type} (l : List α) : ∀ (n i : Nat), i < n * l.length → (ch n l).flatten[i]? = l[i % l.length]?
 | 0, i, h => by omega
 | n + 1, i, h => by
  rw [jz, lu]
  rcases bz i l.length with hi | hi
  ·rw [az hi, Nat.mod_eq_of_lt hi]
  ·rw [cd hi, Ln l n (i - l.length) (by rw [gz, mX] at h; omega), Nat.mod_eq_sub_mod hi]
theorem Gy {α : Type} (l : List α) (n : Nat) : (ch n l).flatten.length = n * l.length := by
 induction n with
 | zero => simp
 | succ n ih => rw [jz, lu, aq, ih, gz, mX, Nat.add_comm]
theorem KU {E : AN} {z : List V} {x : bm} (hz : AH E z x.cells.toList) (hpos : z.length ≠ 0) (n : Nat) : AH E (ch n z).flatten (madeCells x.cells (n * z.length)).toList := by
 obtain ⟨l, g⟩ := B8 _ _ hz
 refine Dh _ _ (by rw [Gy]; simp [size_madeCells]) fun i v u hi hj => ?_
 have hil : i < n * z.length := by
  rcases bz i (n * z.length) with h | h
  ·exact h
  ·rw [bf (by rw [Gy]; exact h)] at hi; cases hi
 rw [Ln z n i hil] at hi
 obtain ⟨u', h1, h2⟩ := g _ v hi
 have hx : x.cells.size = z.length := by rw [l]; simp
 have hlt : i % z.length < x.cells.size := by rw [hx]; exact Nat.mod_lt _ (by omega)
 have : (madeCells x.cells (n * z.length))[i]? = some u' := by
  unfold madeCells
  rw [Array.getElem?_map, Array.getElem?_range]
  simp only [hil, if_true, ai, hx, aa]
  rw [getElem!_pos x.cells (i % z.length) hlt]
  rw [en, gu hlt] at h1
  simpa using h1
 rw [en, this] at hj
 simp only [aa] at hj
 subst hj
 exact h2
theorem Su {E : AN} {v : V} {u : bm} (h : A6 E v u) : A6 E (Ss v) u := by
 unfold Ss
 split
 ·simp only [A6] at h ⊢
  obtain ⟨A, h1, _⟩ := h
  exact ⟨db _, A, 0, h1, ak _, .inl trivial⟩
 ·exact h
theorem V2 {E : AN} (kp : Bool) {v : V} {u : bm} (h : A6 E v u) : A6 E (H8 kp v) u := by
 unfold H8
 cases kp
 ·exact Su h
 ·exact h
theorem Iz {E : AN} {kp : Bool} : ∀ {vs : List V} {us : List bm}, AH E vs us → AH E (vs.map (H8 kp)) us
 | [], us, h => h
 | v :: vs, us, h => by
  simp only [AH, df] at h ⊢
  obtain ⟨u, us', h1, h2, h3⟩ := h
  exact ⟨u, us', h1, V2 kp h2, Iz h3⟩
theorem So (hs : CK c E S a) {t : ao} {n m : aw} {N M v : V} {H' : A4} (ho : o.op = .makeSlice t n m) (hn : ev S.T n = some N) (hm : ev S.T m = some M) {kp : Bool} (h : Iv c.P kp t S.H N M = some (v, H')) : GD c E a o v H' := by
 have r1 := Al hs n _ hn
 have r2 := Al hs m _ hm
 unfold Iv at h
 split at h
 case h_2 => cases h
 rename_i k l
 simp only [ae] at h
 obtain ⟨e, he, sz, hsz, by_, hby, z, hz, h⟩ := h
 split at h
 case isFalse => cases h
 rename_i hc
 obtain ⟨rfl, h0, hb, hzl, hsz0⟩ := hc
 simp only [aa, ag] at h
 obtain ⟨rfl, rfl⟩ := h
 simp only [A6] at r1 r2
 obtain ⟨i, x, vv, h1, h2, h3, rfl⟩ := HL hz
 obtain ⟨i', hi', hsize⟩ := Gc hsz
 rw [h1] at hi'
 simp only [aa] at hi'
 subst hi'
 have hbytes : i.bytes = by_ := by unfold CU at hby; rw [h1] at hby; simpa using hby
 subst hbytes hsize
 have hb2 : k * (i.bytes : Int) + k ≤ 70368744177664 := by rw [Int.mul_add, Int.mul_one] at hb; exact hb
 have hb3 : 0 ≤ k * (i.bytes : Int) := Int.mul_nonneg h0 (by omega)
 have hrun := run_make (P := c.P) E.w t e i x (Bg he) h1 h2 .i64 .i64 k k h0 (Int.le_refl _) (by rw [Int.mul_comm]; omega) (by omega)
 have hp := AN.OB E (E.w.alloc (.cells (madeCells x.cells (k.toNat * i.size)) e)) (.cells i.size (ch k.toNat (vv.cellsOf.map (H8 kp))).flatten) (c := madeCells x.cells (k.toNat * i.size)) (t := e) rfl rfl rfl rfl (by rw [hs.n, hs.H])
 have hmr := KU (E := E) (Iz (kp := kp) (FF E h3)) (by rw [fe, hzl]; exact hsz0) k.toNat
 rw [fe, hzl] at hmr
 obtain ⟨hl, hg⟩ := B8 _ _ hmr
 have hr := hp.rel hs.heap (fun sz' cs e => by
  simp only [Bb.cells.injEq] at e
  obtain ⟨rfl, rfl⟩ := e
  exact ⟨by rw [hl]; simp, fun i v hv => by simpa using hg i v hv⟩) (fun l n sz e => by cases e)
 refine ⟨_, hp.after hs hr, .inl ⟨.slice (some ⟨E.w.heap.size, 0, none⟩) k.toNat k.toNat, ?_, ?_⟩⟩
 ·simp only [execOp, ho, r1, r2, hrun, Sem.run_bind, Result.andThen_ok, Sem.run_pure]; rfl
 ·simp only [A6]
  rw [hp.n, hs.n, hp.By, hs.H]
  refine ⟨by omega, ⟨k.toNat, by rw [if_pos rfl], ak _⟩, fun l n z => ?_⟩
  rw [hp.BR, hs.H, if_pos rfl]
  simp
end
structure Eb (E E' : AN) (c : Array bm) (t : ao) : Prop where
 heap : E'.w.heap = E.w.heap.push (.cells c t (0, 0))
 os : E'.w.os = E.w.os
 tape : E'.w.tape = E.w.tape
 output : E'.w.output = E.w.output
 By : E'.φ = E.φ
 H : E'.H = E.H
 lk : E'.lk = E.lk
 nn : E'.n = E.n
 mm : E'.m = E.m
 BM : ∀ g, g ∈ E'.BM ↔ g ∈ E.BM ∨ (g ∈ E'.BM ∧ g = E.w.heap.size)
theorem Eb.CC {E E' : AN} {c : Array bm} {t : ao} (h : Eb E E' c t) (g : Nat) : E'.w.heap[g]? = if g = E.w.heap.size then some (.cells c t (0, 0)) else E.w.heap[g]? := by
 rw [h.heap, gl]
theorem Eb.CI {E E' : AN} {c : Array bm} {t : ao} (h : Eb E E' c t) : FR E E' where
 lk := h.lk
 os := h.os
 tape := h.tape
 output := h.output
 size := by rw [h.heap]; simp
 len := by rw [h.nn]; exact ak _
 mm := h.mm
 cell := by
  intro g i u hc _
  have hg := GJ hc
  simp only [World.cell?, h.CC g] at hc ⊢
  rw [if_neg (by simp at hg; omega)]
  exact hc
 block := by
  intro g hg _
  rw [h.CC g, if_neg (by omega)]
 mono := by
  intro lv g i _ hu
  rcases hu with hu | hu
  ·rcases (h.BM g).1 hu with hu | ⟨_, rfl⟩
   ·exact .inl (.inl hu)
   ·exact .inr (ak _)
  cases lv with
  | some lv =>
   obtain ⟨b, h1, h2, h3⟩ := hu
   rw [h.lk] at h2
   rw [h.H] at h3
   rw [h.By] at h1
   exact .inl (.inr ⟨b, h1, h2, h3⟩)
  | none =>
   obtain ⟨b, h1, h3⟩ := hu
   rw [h.H] at h3
   rw [h.By] at h1
   exact .inl (.inr ⟨b, h1, h3⟩)
 By := fun b _ hn => ⟨by rw [h.By], by rw [h.H]; exact hn⟩
 cells := fun b _ hn => by rw [h.H]; exact hn
 BT := by
  intro b l n' sz' _ hB
  rw [h.H] at hB
  refine ⟨n', hB, ak _, fun _ => ⟨by rw [h.By], fun c' t' hc => ⟨c', ?_, rfl⟩⟩⟩
  rw [h.CC]
  split
  ·have := ar.1 hc |>.1
   omega
  ·exact hc
 fresh := fun b hl => .inl ⟨by rw [h.By], by rw [h.H] at hl; exact hl⟩
 BM := fun g hg => (h.BM g).2 (.inl hg)
 Hn := fun g hg => (h.BM g).1 hg |>.imp id fun e => by rw [e.2]; exact ak _
 Gp := fun g _ hl => by rw [h.CC g, if_neg (by omega)]
theorem Eb.rel {E E' : AN} {c : Array bm} {t : ao} (h : Eb E E' c t) (hh : C1 E) : C1 E' where
 cells := by
  intro b sz cs hB
  rw [h.H] at hB
  obtain ⟨c', t', h1, h2, h3⟩ := hh.cells b sz cs hB
  rw [h.By, h.CC, if_neg (by have := ar.1 h1 |>.1; omega)]
  exact ⟨c', t', h1, h2, fun i v hv => let ⟨u, h4, h5⟩ := h3 i v hv; ⟨u, h4, h.CI.rep hh v u h5⟩⟩
 dm := by rw [h.mm, h.lk]; exact hh.dm
 lvl := by
  intro b l n sz hB
  rw [h.H] at hB
  rw [h.lk]
  exact hh.lvl b l n sz hB
 BT := by
  intro b l n sz hB
  rw [h.H] at hB
  obtain ⟨c', t', h1, h2⟩ := hh.BT b l n sz hB
  rw [h.By, h.CC, if_neg (by have := ar.1 h1 |>.1; omega)]
  exact ⟨c', t', h1, h2⟩
 maps := by
  intro b As hB
  rw [h.H] at hB
  obtain ⟨h1, h2⟩ := hh.maps b As hB
  rw [h.By, h.CC, if_neg (by have := ar.1 h1 |>.1; omega)]
  exact ⟨h1, h2⟩
 inj := by
  intro b b' h1 h2 he
  rw [h.H] at h1 h2
  rw [h.By] at he
  exact hh.inj b b' h1 h2 he
 BM := fun g hg => by
  rw [h.heap, jk, h.By, h.H]
  rcases (h.BM g).1 hg with hg | ⟨_, rfl⟩
  ·have := (hh.BM g hg).1
   exact ⟨by omega, (hh.BM g hg).2⟩
  ·exact ⟨by omega, fun b hl e => by have := E8 hh hl; omega⟩
theorem Eb.Cf {E E' : AN} {c : Array bm} {t : ao} (h : Eb E E' c t) {base nb d : Nat} (hnb : nb ≤ E.n) (hd : d ≤ E.m) (hf : D0 E base nb d) (hh : C1 E) : D0 E' base nb d := by
 intro b sz cs hlt hB c' t' hc i v u hv hu
 rw [h.H] at hB
 rw [h.By, h.CC] at hc
 split at hc
 ·have := E8 hh (b := b) (by rw [hB]; trivial)
  omega
 ·exact (h.CI.shrink hh hnb hd).rep v u (hf b sz cs hlt hB c' t' hc i v u hv hu)
theorem Eb.gK {E E' : AN} {c : Array bm} {t : ao} (h : Eb E E' c t) (hh : C1 E) (hn : E.w.heap.size ∉ E'.BM) (lv : Option Nat) (i : Nat) : ¬ E'.U lv E.w.heap.size i := by
 intro hu
 rcases PX hu with hu | ⟨b, h1, hl⟩
 ·exact hn hu
 rw [h.By] at h1
 rw [h.H] at hl
 have := E8 hh hl
 omega
section
variable {c : Cx} {E : AN} {S : St} {a : Act} {o : bq}
theorem Eb.after (hs : CK c E S a) {E1 E' : AN} {H1 : A4} {cs : Array bm} {t : ao} (h0 : Ap c E E1 H1) (h : Eb E1 E' cs t) : Ap c E E' H1 where
 H := by rw [h.H, h0.H]
 n := by rw [h.nn, h0.n]
 m := h.mm.trans h0.m
 CI := h0.CI.trans h.CI
 heap := h.rel h0.heap
 Gn := fun hg base nb d hb hn hd hf => h.Cf (bt hn h0.CI.len) (by rw [h0.m]; exact hd) (h0.Gn hg base nb d hb hn hd hf) h0.heap
 HP := fun hg base d hb hd hf => (h.Cf (ak _) (by rw [h0.m]; exact hd) (h0.HP hg base d hb hd hf) h0.heap).up h.CI.len
 kept := h0.kept
theorem Lp (hs : CK c E S a) {E1 : AN} {H1 : A4} (h0 : Ap c E E1 H1) {k : Nat} {v v' : V} {H' : A4} (h : Af c.base k H1 v = some (v', H')) :
  Ap c E (E1.heap H') H' ∧ FR E1 (E1.heap H') ∧ (∀ u, A6 E1 v u → A6 ((E1.heap H').shrink 0 0) v' u) ∧ H'.length = H1.length := by
 have hg := I9 c.base k E1 v v' H' (by rw [h0.H]; exact h) h0.heap
 obtain ⟨e, r, p⟩ := hg
 have hlen := Gz c.base k H1 v v' H' h
 have hrf : ∀ base nb d, nb ≤ E1.n → d ≤ E1.m → D0 E1 base nb d → D0 (E1.heap H') base nb d := by
  intro base nb d hnb hd hf b sz cs hlt hB c' t hc i x u hv hu
  have hsame := NZ c.base k H1 v v' H' h b sz cs hB
  rw [← h0.H] at hsame
  exact (e.shrink h0.heap hnb hd).rep x u (hf b sz cs hlt hsame c' t hc i x u hv hu)
 refine ⟨⟨rfl, ?_, h0.m, h0.CI.trans e, r, fun hg base nb d hb hn hd hf => hrf base nb d (bt hn h0.CI.len) (by rw [h0.m]; exact hd) (h0.Gn hg base nb d hb hn hd hf), fun hg base d hb hd hf => hrf base E1.n d (ak _) (by rw [h0.m]; exact hd) (h0.HP hg base d hb hd hf), fun b hb hl => (JH c.base k H1 v v' H' h b hb).trans (h0.kept b hb hl)⟩, e, p, hlen⟩
 show E1.n = _; rw [h0.n, hlen]
theorem GL (hs : CK c E S a) : ∀ (ps : List (Nat × V)) (E1 : AN) (H1 : A4) (ps' : List (Nat × V)) (H' : A4), Ap c E E1 H1 → E1.w = E.w → CH c H1 ps = some (ps', H') →
  ∃ E', Ap c E E' H' ∧ E'.w = E.w ∧ FR E1 E' ∧ ∀ us, JT E1 ps us → JT E' ps' us
 | [], E1, H1, ps', H', h0, hw, h => by
  simp only [CH, aa, ag] at h
  obtain ⟨rfl, rfl⟩ := h
  exact ⟨E1, h0, hw, FR.refl _, fun us r => r⟩
 | (i, v) :: ps, E1, H1, ps', H', h0, hw, h => by
  simp only [CH, ae, af, Prod.exists, ag] at h
  obtain ⟨v1, H2, hv, ps2, H3, h2, rfl, rfl⟩ := h
  have stay : (v1, H2) = (v, H1) → ∃ E', Ap c E E' H3 ∧ E'.w = E.w ∧ FR E1 E' ∧ ∀ us, JT E1 ((i, v) :: ps) us → JT E' ((i, v1) :: ps2) us := by
   intro e
   simp only [ag] at e
   obtain ⟨rfl, rfl⟩ := e
   obtain ⟨E', k1, k2, k3, k4⟩ := GL hs ps E1 H2 ps2 H3 h0 hw h2
   refine ⟨E', k1, k2, k3, fun us r => ?_⟩
   simp only [JT] at r ⊢
   obtain ⟨u, us', r1, r2, r3⟩ := r
   exact ⟨u, us', r1, k3.rep h0.heap v1 u r2, k4 us' r3⟩
  unfold FL at hv
  split at hv
  ·simp only [aa] at hv
   exact stay hv.symm
  split at hv
  ·split at hv
   ·simp only [aa] at hv
    exact stay hv.symm
   ·cases hv
  ·obtain ⟨g1, g2, g3, g4⟩ := Lp hs h0 hv
   obtain ⟨E', k1, k2, k3, k4⟩ := GL hs ps (E1.heap H2) H2 ps2 H3 g1 hw h2
   refine ⟨E', k1, k2, g2.trans k3, fun us r => ?_⟩
   simp only [JT] at r ⊢
   obtain ⟨u, us', r1, r2, r3⟩ := r
   refine ⟨u, us', r1, k3.rep g1.heap _ _ ?_, k4 us' (g2.gY h0.heap _ _ r3)⟩
   exact (C9.grow (E1.heap H2) (db _) (db _)).rep _ _ (g3 u r2)
def AN.bV (E : AN) (w : ej) : AN := { E with w := w }
theorem AN.VG (E : AN) (w : ej) {c : Array bm} {t : ao} (h1 : w.heap = E.w.heap.push (.cells c t (0, 0))) (h2 : w.os = E.w.os) (h3 : w.tape = E.w.tape) (h4 : w.output = E.w.output) : Eb E (E.bV w) c t where
 heap := h1
 os := h2
 tape := h3
 output := h4
 By := rfl
 H := rfl
 lk := rfl
 nn := rfl
 mm := rfl
 BM := fun g => ⟨.inl, fun h => h.elim id (·.1)⟩
theorem J5 {E' : AN} {lv : Option Nat} {g : Nat} {arr : Array bm} {t : ao} {cs : List V} (hw : E'.w.heap[g]? = some (.cells arr t (0, 0))) (hr : AH E' cs (arr.toList.take cs.length)) (hu : ∀ i, i < cs.length → ¬ E'.U lv g i) : Br E' lv g 0 cs := by
 refine Eu _ _ fun i v hi => ?_
 obtain ⟨_, hg⟩ := B8 _ _ hr
 obtain ⟨u, h1, h2⟩ := hg i v hi
 have hil : i < cs.length := by
  rcases bz i cs.length with h | h
  ·exact h
  ·rw [bf h] at hi; cases hi
 refine ⟨u, ?_, h2, by rw [fy]; exact hu i hil⟩
 rw [cell_of_row _ _ _ _ _ _ hw, fy]
 rw [eo hil, en] at h1
 exact h1
theorem LD (hs : CK c E S a) {t e : ao} {n sz : Nat} {parts : Array (Nat × aw)} {ps ps' : List (Nat × V)} {H' : A4} {z cs : List V} (ho : o.op = .buildSlice t n parts) (hp : Qp S.T parts.toList = some ps) (hem : CH c S.H ps = some (ps', H'))
  (he : B4 c.P t = some e) (hsz : Aw c.P e = some sz) (hz : BG c.P e = some z) (hzl : z.length = sz) (hsz0 : sz ≠ 0) (hsm : n * sz ≤ 1048576) (h : DS (fun i => some (i * sz, sz)) (ch n z).flatten ps' = some cs) :
  GD c E a o (.tl n cs) H' := by
 obtain ⟨E1, k1, k2, k3, k4⟩ := GL hs ps E S.H ps' H' (Ap.refl hs) rfl hem
 have hparts := k4 _ (MQ hs _ _ hp)
 obtain ⟨i, x, vv, h1, h2, h3, rfl⟩ := HL hz
 obtain ⟨i', hi', hsize⟩ := Gc hsz
 rw [h1] at hi'
 simp only [aa] at hi'
 subst hi'
 subst hsize
 have hmr := KU (E := E1) (FF E1 h3) (by rw [hzl]; exact hsz0) n
 rw [hzl] at hmr
 obtain ⟨arr, f1, f2⟩ := I5 _ ps' _ _ _ cs h hparts hmr
 have hplen : cs.length = n * i.size := by
  have := HT _ ps' _ cs h
  rw [this, Gy, hzl]
 obtain ⟨hl, _⟩ := B8 _ _ f2
 have hrun : (Instr.buildSlice t n (parts.map fun (i, x) => (i, a.eval x))).run c.P E.w = .ok (.slice (some ⟨E.w.heap.size, 0, none⟩) n n) (E.w.alloc (.cells arr e)) := by
  by_cases hn : n = 0
  ·subst hn
   have : arr = #[] := by
    have h0 : arr.size = 0 := by rw [← gm, ← hl, hplen, lQ]
    exact ka h0
   subst this
   have hfz : Instr.fill (fun i_1 => some (i_1 * i.size, i.size)) #[] (parts.map fun (i, x) => (i, a.eval x)).toList = some #[] := by
    have : madeCells x.cells (0 * i.size) = #[] := by simp [madeCells, ja]
    rw [this] at f1
    rw [← f1]
    congr 1
    simp
   have hfz' : Instr.fill (fun i_1 => some (i_1 * i.size, i.size)) #[] (parts.toList.map fun x => (x.fst, a.eval x.snd)) = some #[] := by simpa using hfz
   simp [Instr.buildSlice, run_underlying (Bg he), sizeOf, typeInfo, h1, newRow, ja, hfz']
  ·refine run_buildSlice E.w t e n _ arr i x (Bg he) h1 h2 (by omega) (by intro e0; rcases mL.1 e0 with h | h <;> omega) ?_
   have : (parts.map fun (i, x) => (i, a.eval x)).toList = parts.toList.map fun p => (p.1, a.eval p.2) := by simp
   rw [this]
   exact f1
 have hsil := AN.VG E1 (E.w.alloc (.cells arr e)) (c := arr) (t := e) (by rw [k2]; rfl) (by rw [k2]; rfl) (by rw [k2]; rfl) (by rw [k2]; rfl)
 refine ⟨_, Eb.after hs k1 hsil, .inl ⟨.slice (some ⟨E.w.heap.size, 0, none⟩) n n, ?_, ?_⟩⟩
 ·simp only [execOp, ho, Sem.run_bind, hrun, Result.andThen_ok, Sem.run_pure]; rfl
 ·simp only [A6]
  refine ⟨_, rfl, .inr ⟨_, _, rfl, J5 (arr := arr) (t := e) ?_ ?_ fun i _ => ?_⟩⟩
  ·rw [hsil.CC, ← k2, if_pos rfl]
  ·rw [eh (by rw [hl]; exact ak _)]
   exact hsil.CI.HC k1.heap _ _ f2
  ·rw [← k2]; exact hsil.gK k1.heap (fun e => absurd (k1.heap.BM _ e).1 (ig _)) (some 0) i
theorem Hw (hh : C1 E) {sz n : Nat} {x : V} {u : bm} {xs : List V} (hr : A6 E x u) (hn : Cd x = some n) (hx : Fu E.H sz x = some xs) (hl : xs.length = n * sz) :
  ∃ A cap, u = .slice A n cap ∧ ∃ us : List bm, AH E xs us ∧ us.length = n * sz ∧ (n = 0 ∨ ∃ ad : Addr, A = some ad ∧ ∀ (j : Nat) v, us[j]? = some v → E.w.cell? (ad.add j) = some v) := by
 have row : ∀ {lv : Option Nat} {cs : List V} {A : Option Addr} {cap : Nat}, u = .slice A n cap → xs = cs → (n = 0 ∨ ∃ g o, A = some ⟨g, o, none⟩ ∧ Br E lv g o cs) →
   ∃ A cap, u = .slice A n cap ∧ ∃ us : List bm, AH E xs us ∧ us.length = n * sz ∧ (n = 0 ∨ ∃ ad : Addr, A = some ad ∧ ∀ (j : Nat) v, us[j]? = some v → E.w.cell? (ad.add j) = some v) := by
  intro lv cs A cap hu hxs hA
  subst hxs
  rcases hA with h0 | ⟨g, o, rfl, hrl⟩
  ·subst h0
   have : xs = [] := bx (by simpa using hl)
   subst this
   exact ⟨A, cap, hu, [], by simp only [AH], by simp, .inl rfl⟩
  ·refine ⟨_, cap, hu, (da xs.length).map fun i => (E.w.cell? ⟨g, o + i, none⟩).getD undef, Cy fun i v hi => let ⟨u, a1, a2, _⟩ := Bn _ _ hrl i v hi; ⟨u, a1, a2⟩, by simp [hl], .inr ⟨_, rfl, fun j v hj => ?_⟩⟩
   have hjl : j < xs.length := by
    rcases bz j xs.length with h | h
    ·exact h
    ·rw [bf (by simp only [fe, ia]; exact h)] at hj; cases hj
   simp only [dj, et hjl, ai, aa] at hj
   obtain ⟨u', a1, _, _⟩ := Bn _ _ hrl j _ (aj hjl)
   rw [a1] at hj
   simp only [er] at hj
   subst hj
   rw [Addr.add_lit]
   exact a1
 unfold Fu at hx
 unfold Cd at hn
 cases x with
 | lit lv len cs =>
  simp only [aa] at hx hn
  subst hx hn
  simp only [A6] at hr
  obtain ⟨_, A, cap, hu, _, hA⟩ := hr
  exact row hu rfl hA
 | tl len cs =>
  simp only [aa] at hx hn
  subst hx hn
  simp only [A6] at hr
  obtain ⟨A, hu, hA⟩ := hr
  exact row hu rfl hA
 | snap b len cs =>
  simp only [aa] at hx hn
  subst hx hn
  simp only [A6] at hr
  obtain ⟨_, ⟨A, cap, hu, _, ⟨g, o, hA, _, hA2⟩, _⟩, _⟩ := hr
  exact row hu rfl (.inr ⟨g, o, hA, hA2⟩)
 | pre b m0 len cs =>
  simp only [aa] at hx hn
  subst hx hn
  simp only [A6] at hr
  obtain ⟨_, ⟨A, cap, hu, _, ⟨g, o, hA, _, hA2⟩, _⟩, _⟩ := hr
  exact row hu rfl (.inr ⟨g, o, hA, hA2⟩)
 | sl b off len =>
  simp only [aa] at hn
  subst hn
  dsimp only at hx
  split at hx
  case h_2 => cases hx
  rename_i z cs hb
  split at hx
  case isFalse => cases hx
  rename_i hc
  simp only [aa] at hx
  simp only [A6] at hr
  obtain ⟨_, ⟨cap, hu, _⟩, _⟩ := hr
  obtain ⟨c0, t, q1, q2, q3⟩ := hh.cells b z cs hb
  have hex : ∀ (i : Nat) v, xs[i]? = some v → ∃ u, E.w.cell? ⟨E.φ b, off + i, none⟩ = some u ∧ A6 E v u := by
   intro i v hi
   rw [← hx, dn] at hi
   split at hi
   ·rw [eg] at hi
    obtain ⟨u, k1, k2⟩ := q3 _ v hi
    exact ⟨u, by rw [cell_of_row _ _ _ _ _ _ q1]; exact k1, k2⟩
   ·cases hi
  refine ⟨_, cap, hu, (da xs.length).map fun i => (E.w.cell? ⟨E.φ b, off + i, none⟩).getD undef, Cy hex, by simp [hl], .inr ⟨_, rfl, fun j v hj => ?_⟩⟩
  have hjl : j < xs.length := by
   rcases bz j xs.length with h | h
   ·exact h
   ·rw [bf (by simp only [fe, ia]; exact h)] at hj; cases hj
  simp only [dj, et hjl, ai, aa] at hj
  obtain ⟨u', a1, _⟩ := hex j _ (aj hjl)
  rw [a1] at hj
  simp only [er] at hj
  subst hj
  rw [Addr.add_lit]
  exact a1
 | _ => simp at hn
theorem LQ {P : bg} (w : ej) (t ty e ty2 t0 : ao) (i : TypeInfo) (ht : P.underlying t = some (.slice e)) {e2 : ao} (ht2 : P.underlying ty2 = some (.slice e2)) (hi : P.info? e = some i)
  (g sLen sCap : Nat) (cur : Array bm) (hg : w.heap[g]? = some (.cells cur t0 (0, 0)))
  (a : Addr) (m c : Nat) (news : List bm) (hl : news.length = m * i.size) (hnews : ∀ (j : Nat) u, news[j]? = some u → w.cell? (a.add j) = some u) (h1 : ∀ u ∈ news, u.oneCell' = true)
  (hroom : sLen + m ≤ sCap) (hfit : sLen * i.size + news.length ≤ cur.size) :
  (Builtin.append_ #[t, ty2] ty #[.slice (some ⟨g, 0, none⟩) sLen sCap, .slice (some a) m c]).run P w =
   .ok (.slice (some ⟨g, 0, none⟩) (sLen + m) sCap) (w.setRow g (cur.toList.take (sLen * i.size) ++ news ++ cur.toList.drop (sLen * i.size + news.length)).toArray) := by
 have hf := run_firstCells_some (P := P) w i.size m a m c news hl hnews
 have hst := run_storeCells_at P g (sLen * i.size) t0 news 0 cur w hg (by simpa using hfit) h1
 simp only [ju] at hst
 simp [Builtin.append_, run_underlying ht, run_underlying ht2, sizeOf, typeInfo, hi, Builtin.lenOf, hroom, hf, Addr.add_lit, hst]
theorem LP {P : bg} (w : ej) (t ty e ty2 : ao) (i : TypeInfo) (ht : P.underlying t = some (.slice e)) {e2 : ao} (ht2 : P.underlying ty2 = some (.slice e2)) (hi : P.info? e = some i)
  (base x : Option Addr) (sLen sCap c : Nat) (hroom : sLen ≤ sCap) :
  (Builtin.append_ #[t, ty2] ty #[.slice base sLen sCap, .slice x 0 c]).run P w = .ok (.slice base sLen sCap) w := by
 cases base <;> cases x <;> simp [Builtin.append_, run_underlying ht, run_underlying ht2, sizeOf, typeInfo, hi, Builtin.lenOf, hroom, Builtin.firstCells, loadCells, loadCellsFrom, storeCells]
theorem Hs {P : bg} (w : ej) (t ty e ty2 : ao) (i : TypeInfo) (z : bm) (ht : P.underlying t = some (.slice e)) {e2 : ao} (ht2 : P.underlying ty2 = some (.slice e2)) (hi : P.info? e = some i) (hz : i.zero = some z)
  (b : Option Addr) (sLen sCap : Nat) (olds : List bm) (hlo : olds.length = sLen * i.size) (holds : sLen = 0 ∨ ∃ ad : Addr, b = some ad ∧ ∀ (j : Nat) v, olds[j]? = some v → w.cell? (ad.add j) = some v)
  (a : Addr) (n c : Nat) (news : List bm) (hl : news.length = n * i.size) (hnews : ∀ (j : Nat) v, news[j]? = some v → w.cell? (a.add j) = some v)
  (hg : sCap < sLen + n) (h63 : ((sLen + n : Nat) : Int) ≤ 9223372036854775807) (hfit : Builtin.nextslicecap (sLen + n) sCap * i.bytes ≤ 281474976710656) :
  (Builtin.append_ #[t, ty2] ty #[.slice b sLen sCap, .slice (some a) n c]).run P w =
   .ok (.slice (some ⟨w.heap.size, 0, none⟩) (sLen + n) (grownCap w (sLen + n) sCap e))
    (w.drew.alloc (.cells (olds.toArray ++ news.toArray ++ Builtin.zeroCells z.cells (grownCap w (sLen + n) sCap e - (sLen + n))) e)) := by
 have hn : ¬ (sLen + n ≤ sCap) := by omega
 have h63' : ¬ (9223372036854775807 < ((sLen : Int) + (n : Int))) := by omega
 have h48' : ¬ (281474976710656 < Builtin.nextslicecap (sLen + n) sCap * i.bytes) := by omega
 have hf := run_firstCells_some (P := P) w.drew i.size n a n c news hl (by simpa using hnews)
 have hfo : (Builtin.firstCells i.size sLen (.slice b sLen sCap)).run P w.drew = .ok olds.toArray w.drew := by
  rcases holds with h0 | ⟨ad, rfl, hh⟩
  ·subst h0
   have : olds = [] := bx (by simpa using hlo)
   subst this
   cases b <;> simp [Builtin.firstCells, loadCells, loadCellsFrom]
  ·exact run_firstCells_some (P := P) w.drew i.size sLen ad sLen sCap olds hlo (by simpa using hh)
 simp [Builtin.append_, run_underlying ht, run_underlying ht2, sizeOf, typeInfo, zeroValue, hi, hz, Builtin.lenOf, hn, h63', h48', Question.forced, hf, hfo, newRow, grownCap]
 congr 2
 apply iu
 simp
theorem EA {E : AN} : ∀ {xs ys : List V} {us vs : List bm}, AH E xs us → AH E ys vs → AH E (xs ++ ys) (us ++ vs)
 | [], ys, us, vs, h, k => by simp only [AH] at h; subst h; simpa using k
 | x :: xs, ys, us, vs, h, k => by
  simp only [AH, List.cons_append] at h ⊢
  obtain ⟨u, us', rfl, h1, h2⟩ := h
  exact ⟨u, us' ++ vs, rfl, h1, EA h2 k⟩
theorem Jx {E : AN} {xs : List V} {us vs : List bm} (h : AH E xs us) (hv : vs.take xs.length = us) : AH E xs (vs.take xs.length) := by rw [hv]; exact h
theorem Z6 {E : AN} {xs : List V} {us : List bm} (h : AH E xs us) (hc : xs.all V.Ba = true) : ∀ u ∈ us, u.oneCell' = true := by
 intro u hu
 obtain ⟨i, hi⟩ := lZ hu
 obtain ⟨hl, hg⟩ := B8 _ _ h
 have hil : i < xs.length := by rw [hl]; exact (al.1 hi).1
 obtain ⟨u', h1, h2⟩ := hg i _ (aj hil)
 rw [hi] at h1
 simp only [aa] at h1
 subst h1
 rw [cb] at hc
 exact Lw h2 (hc _ (dc hil))
theorem Qt {E' : AN} {H' : A4} (h : Ap c E E' H') {g : Nat} : E'.MZ g := by
 intro b hb hl
 rw [h.H, bf (by rw [← h.n]; exact hb)] at hl
 exact hl.elim
theorem TY {E' : AN} {H' : A4} (h : E'.H = H') (hn : E'.n = H'.length) {g : Nat} : E'.MZ g := by
 intro b hb hl
 rw [h, bf (by rw [← hn]; exact hb)] at hl
 exact hl.elim
theorem KV (hs : CK c E S a) {t e : ao} {n sz : Nat} {parts : Array (Nat × aw)} {ps ps' : List (Nat × V)} {H' : A4} {z cs : List V} (ho : o.op = .buildSlice t n parts) (hp : Qp S.T parts.toList = some ps) (hem : CH c S.H ps = some (ps', H'))
  (he : B4 c.P t = some e) (hsz : Aw c.P e = some sz) (hz : BG c.P e = some z) (hzl : z.length = sz) (hsz0 : sz ≠ 0) (hsm : n * sz ≤ 1048576) (hn0 : n ≠ 0) (h : DS (fun i => some (i * sz, sz)) (ch n z).flatten ps' = some cs) :
  GD c E a o (.snap H'.length n cs) (H' ++ [.BT c.d n sz]) := by
 obtain ⟨E1, k1, k2, k3, k4⟩ := GL hs ps E S.H ps' H' (Ap.refl hs) rfl hem
 have hparts := k4 _ (MQ hs _ _ hp)
 obtain ⟨i, x, vv, h1, h2, h3, rfl⟩ := HL hz
 obtain ⟨i', hi', hsize⟩ := Gc hsz
 rw [h1] at hi'
 simp only [aa] at hi'
 subst hi'
 subst hsize
 have hmr := KU (E := E1) (FF E1 h3) (by rw [hzl]; exact hsz0) n
 rw [hzl] at hmr
 obtain ⟨arr, f1, f2⟩ := I5 _ ps' _ _ _ cs h hparts hmr
 have hplen : cs.length = n * i.size := by
  have := HT _ ps' _ cs h
  rw [this, Gy, hzl]
 obtain ⟨hl, _⟩ := B8 _ _ f2
 have hrun : (Instr.buildSlice t n (parts.map fun (i, x) => (i, a.eval x))).run c.P E.w = .ok (.slice (some ⟨E.w.heap.size, 0, none⟩) n n) (E.w.alloc (.cells arr e)) := by
  by_cases hn : n = 0
  ·subst hn
   have : arr = #[] := by
    have h0 : arr.size = 0 := by rw [← gm, ← hl, hplen, lQ]
    exact ka h0
   subst this
   have hfz : Instr.fill (fun i_1 => some (i_1 * i.size, i.size)) #[] (parts.map fun (i, x) => (i, a.eval x)).toList = some #[] := by
    have : madeCells x.cells (0 * i.size) = #[] := by simp [madeCells, ja]
    rw [this] at f1
    rw [← f1]
    congr 1
    simp
   have hfz' : Instr.fill (fun i_1 => some (i_1 * i.size, i.size)) #[] (parts.toList.map fun x => (x.fst, a.eval x.snd)) = some #[] := by simpa using hfz
   simp [Instr.buildSlice, run_underlying (Bg he), sizeOf, typeInfo, h1, newRow, ja, hfz']
  ·refine run_buildSlice E.w t e n _ arr i x (Bg he) h1 h2 (by omega) (by intro e0; rcases mL.1 e0 with h | h <;> omega) ?_
   have : (parts.map fun (i, x) => (i, a.eval x)).toList = parts.toList.map fun p => (p.1, a.eval p.2) := by simp
   rw [this]
   exact f1
 have hp := AN.OB E1 (E1.w.alloc (.cells arr e)) (.BT c.d n i.size) (c := arr) (t := e) rfl rfl rfl rfl (by rw [k1.n, k1.H])
 have has : arr.size = n * i.size := by rw [← gm, ← hl, hplen]
 have hr := hp.rel k1.heap (fun sz' cs e => by cases e) (fun q k z e => by
  simp only [Bb.BT.injEq] at e
  obtain ⟨rfl, rfl, rfl⟩ := e
  rw [has]
  exact ⟨ak _, by rw [k1.CI.lk, hs.lk]; exact ak _⟩)
 refine ⟨_, hp.Ve hs k1 hr, .inl ⟨.slice (some ⟨E.w.heap.size, 0, none⟩) n n, ?_, ?_⟩⟩
 ·simp only [execOp, ho, Sem.run_bind, hrun, Result.andThen_ok, Sem.run_pure]; rw [k2]; rfl
 ·simp only [A6]
  have hgetH := hp.BR
  refine ⟨by rw [hp.n, k1.n]; omega, ⟨_, _, rfl, ak _, ⟨_, _, rfl, fun _ => Qt (hp.Ve hs k1 hr), J5 (arr := arr) (t := e) (by rw [hp.CC, ← k2, if_pos rfl]) ?_ fun j hj => ?_⟩, fun q k z hk => ?_⟩, fun z q hk => ?_⟩
  ·rw [eh (by rw [hl]; exact ak _)]
   exact hp.CI.HC k1.heap _ _ f2
  ·rintro (hu | ⟨b, p1, p3⟩)
   ·exact absurd (k1.heap.BM _ hu).1 (by rw [k2]; exact ig _)
   rw [hp.By] at p1
   rw [hp.BR] at p3
   by_cases hb : b = E1.H.length
   ·rw [if_pos hb] at p3
    simp only at p3
    rw [hplen] at hj
    omega
   ·rw [if_neg hb] at p1 p3
    have hl : live E1.H[b]? := by
     split at p3
     ·rename_i he; rw [he]; trivial
     ·rename_i he; rw [he]; trivial
     ·rename_i he; rw [he]; trivial
     ·exact p3.elim
    have := E8 k1.heap hl
    rw [k2] at this
    omega
  ·rw [← k1.H, hgetH, if_pos rfl] at hk
   simp only [aa, Bb.BT.injEq] at hk
   obtain ⟨_, rfl, rfl⟩ := hk
   refine ⟨ak _, fun _ => ⟨by rw [hp.By, ← k1.H, if_pos rfl, k2], _, _, by rw [hp.By, ← k1.H, if_pos rfl, hp.CC, if_pos rfl], has.symm⟩⟩
  ·rw [← k1.H, hgetH, if_pos rfl] at hk
   cases hk
theorem QQ (hs : CK c E S a) {st xt : ao} {args : Array aw} {ats : Array ao} {s x : aw} {sv xv v : V} {H' : A4} (ho : o.op = .call { callee := .builtin .append, args := args, argTypes := ats }) (hargs : args.toList = [s, x]) (hats : ats.toList = [st, xt])
    (hsv : ev S.T s = some sv) (hxv : ev S.T x = some xv) (h : E6 c st xt S.H sv xv = some (v, H')) : GD c E a o v H' := by
  have hrs := Al hs s _ hsv
  have hrx := Al hs x _ hxv
  have ha1 : args = #[s, x] := by apply iu; simpa using hargs
  have ha2 : ats = #[st, xt] := by apply iu; simpa using hats
  subst ha1 ha2
  unfold E6 at h
  simp only [ae] at h
  obtain ⟨e, he, sz, hsz, by_, hby, z, hz, h⟩ := h
  split at h
  case isFalse => cases h
  rename_i hc
  obtain ⟨hxt, hsz0, hzl⟩ := hc
  obtain ⟨e2, he2⟩ := Option.isSome_iff_exists.1 hxt
  simp only [ae] at h
  obtain ⟨n, hn, xs, hxs, h⟩ := h
  split at h
  case isFalse => cases h
  rename_i hc
  obtain ⟨hxl, hxc⟩ := hc
  obtain ⟨i, zx, zv, h1, h2, h3, rfl⟩ := HL hz
  obtain ⟨i', hi', hsize⟩ := Gc hsz
  rw [h1] at hi'
  simp only [aa] at hi'
  subst hi'
  have hbytes : i.bytes = by_ := by unfold CU at hby; rw [h1] at hby; simpa using hby
  subst hbytes hsize
  have hzcell : zx.cells.size = i.size := by
    have := (B8 _ _ (FF E h3)).1
    rw [hzl] at this
    rw [this]; simp
  rw [← hs.H] at hxs
  obtain ⟨B, capx, hx, us, hus, hul, hB⟩ := Hw hs.heap hrx hn hxs hxl
  have hone := Z6 hus hxc
  have hexec : ∀ {r w'} (_ : (Builtin.append_ #[st, xt] o.type #[a.eval s, a.eval x]).run c.P E.w = .ok r w'), (execOp a.eval o).run c.P E.w = .ok (.value r) w' := by
    intro r w' hr
    simp only [execOp, ho, resolve, Sem.run_bind, Sem.run_pure, Result.andThen_ok, invoke, builtin, il, df, fq, hr]
  have hnone : n = 0 → ∀ {A : Option Addr} {m cap : Nat}, a.eval s = .slice A m cap → m ≤ cap → (execOp a.eval o).run c.P E.w = .ok (.value (a.eval s)) E.w := by
    intro h0 A m cap hA hmc
    subst h0
    refine hexec ?_
    rw [hA, hx]
    exact LP E.w st o.type e xt i (Bg he) (Bg he2) h1 A B m cap capx hmc
  cases sv with
  | tl m cs =>
    dsimp only at h
    have hrs' := hrs
    simp only [A6] at hrs'
    obtain ⟨A, hA, hAr⟩ := hrs'
    split at h
    · rename_i h0
      simp only [aa, ag] at h
      obtain ⟨rfl, rfl⟩ := h
      exact ⟨E, Ap.refl hs, .inl ⟨_, hnone h0 hA (ak _), hrs⟩⟩
    · rename_i h0
      split at h
      case isFalse => cases h
      rename_i hc
      obtain ⟨hcl, hbd⟩ := hc
      simp only [aa, ag] at h
      obtain ⟨rfl, rfl⟩ := h
      have hb2 : (m + n) * i.bytes + (m + n) ≤ 70368744177664 := by rw [mY, mZ] at hbd; exact hbd
      obtain ⟨A2, cap2, hA2, olds, holds, hol, hoc⟩ := Hw (n := m) hs.heap hrs rfl (sz := i.size) (xs := cs) (by simp [Fu]) hcl
      rw [hA] at hA2
      simp only [Value.slice.injEq] at hA2
      obtain ⟨rfl, _, rfl⟩ := hA2
      rcases hB with hB | ⟨ad, rfl, hB⟩
      · exact absurd hB h0
      have hrun := Hs (P := c.P) E.w st o.type e xt i zx (Bg he) (Bg he2) h1 h2 A m m olds hol hoc ad n capx us hul hB (by omega) (by omega) (growslice_fits (by omega) (by omega))
      have hp := AN.OB E (E.w.drew.alloc (.cells (olds.toArray ++ us.toArray ++ Builtin.zeroCells zx.cells (grownCap E.w (m + n) m e - (m + n))) e)) (.BT c.d (m + n) i.size) (c := _) (t := e) rfl rfl rfl rfl (by rw [hs.n, hs.H])
      have hge := grownCap_ge E.w (m + n) m e
      have hcsz : (olds.toArray ++ us.toArray ++ Builtin.zeroCells zx.cells (grownCap E.w (m + n) m e - (m + n))).size = grownCap E.w (m + n) m e * i.size := by
        simp only [lh, je, size_zeroCells, hzcell, hol, hul, ← gz]
        congr 1
        omega
      have hr := hp.rel hs.heap (fun sz' cs e => by cases e) (fun q k z e => by
        simp only [Bb.BT.injEq] at e
        obtain ⟨rfl, rfl, rfl⟩ := e
        rw [hcsz]
        exact ⟨fx _ hge, by rw [hs.lk]; exact ak _⟩)
      refine ⟨_, hp.after hs hr, .inl ⟨_, hexec (by rw [hA, hx]; exact hrun), ?_⟩⟩
      simp only [A6]
      have hgetH := hp.BR
      refine ⟨by rw [hp.n, hs.n]; omega, ⟨_, _, rfl, hge, ⟨_, _, rfl, fun _ => Qt (hp.after hs hr), J5 (by rw [hp.CC, if_pos rfl]) ?_ fun j hj => ?_⟩, fun q k z hk => ?_⟩, fun z q hk => ?_⟩
      · refine hp.CI.HC hs.heap _ _ (Jx (EA holds hus) ?_)
        simp only [la, bj]
        rw [← bj, show (cs ++ xs).length = (olds ++ us).length by simp [hol, hul, hcl, hxl]]
        exact kl
      · rintro (hu | ⟨b, p1, p3⟩)
        · exact absurd (hs.heap.BM _ hu).1 (ig _)
        rw [hp.By] at p1
        rw [hp.BR] at p3
        by_cases hb : b = E.H.length
        · rw [if_pos hb] at p3
          simp only at p3
          rw [show (cs ++ xs).length = (m + n) * i.size by simp [hcl, hxl, gz]] at hj
          omega
        · rw [if_neg hb] at p1 p3
          have hl : live E.H[b]? := by
            split at p3
            · rename_i he; rw [he]; trivial
            · rename_i he; rw [he]; trivial
            · rename_i he; rw [he]; trivial
            · exact p3.elim
          have := E8 hs.heap hl
          omega
      · rw [← hs.H, hgetH, if_pos rfl] at hk
        simp only [aa, Bb.BT.injEq] at hk
        obtain ⟨_, rfl, rfl⟩ := hk
        refine ⟨ak _, fun _ => ⟨by rw [hp.By, ← hs.H, if_pos rfl], _, _, by rw [hp.By, ← hs.H, if_pos rfl, hp.CC, if_pos rfl], hcsz.symm⟩⟩
      · rw [← hs.H, hgetH, if_pos rfl] at hk
        cases hk
  | snap b m cs =>
    dsimp only at h
    have hrs' := hrs
    simp only [A6] at hrs'
    obtain ⟨hbn, ⟨A, cap, hA, hmc, hAr, hcur⟩, hnc⟩ := hrs'
    split at h
    · rename_i h0
      simp only [aa, ag] at h
      obtain ⟨rfl, rfl⟩ := h
      exact ⟨E, Ap.refl hs, .inl ⟨_, hnone h0 hA hmc, hrs⟩⟩
    · rename_i h0
      split at h
      case h_2 => cases h
      rename_i l m' sz' hb
      split at h
      case isFalse => cases h
      rename_i hc
      obtain ⟨hcl, hbd, rfl, rfl, hmw⟩ := hc
      simp only [aa, ag] at h
      obtain ⟨rfl, rfl⟩ := h
      have hb2 : (m' + n) * i.bytes + (m' + n) ≤ 70368744177664 := by rw [mY, mZ] at hbd; exact hbd
      rw [← hs.H] at hb
      obtain ⟨_, hcur⟩ := hcur l m' i.size hb
      obtain ⟨hA0, c0, t0, hrow, hcsz⟩ := hcur rfl
      obtain ⟨A2, cap2, hA2, olds, holds, hol, hoc⟩ := Hw (n := m') hs.heap hrs rfl (sz := i.size) (xs := cs) (by simp [Fu]) hcl
      rw [hA] at hA2
      simp only [Value.slice.injEq] at hA2
      obtain ⟨rfl, _, rfl⟩ := hA2
      rcases hB with hB | ⟨ad, rfl, hB⟩
      · exact absurd hB h0
      have hpos : 0 < n := Nat.pos_of_ne_zero h0
      have hfree : AT E.lk b = true := by rw [hs.lk]; exact HW hs.DV hmw
      have hblt : b < E.H.length := by rw [hs.H, ← hs.n]; exact hbn
      have hlt : m' < m' + n := Nat.lt_add_of_pos_right hpos
      have hkept : ∀ x, x < c.base → AT c.lk x = false → (S.H.set b (.BT l (m' + n) i.size))[x]? = E.H[x]? := by
        intro x hx hl
        rw [Ab, if_neg, hs.H]
        rintro ⟨rfl, _⟩
        rw [hs.lk] at hfree
        rw [hfree] at hl
        cases hl
      by_cases hroom : m' + n ≤ cap
      ·
        have hfit : m' * i.size + us.length ≤ c0.size := by rw [hul, ← hcsz, ← gz]; exact fx _ hroom
        have hrun := LQ (P := c.P) E.w st o.type e xt t0 i (Bg he) (Bg he2) h1 (E.φ b) m' cap c0 hrow ad n capx us hul hB hone hroom hfit
        let c' : Array bm := (c0.toList.take (m' * i.size) ++ us ++ c0.toList.drop (m' * i.size + us.length)).toArray
        have hget : ∀ k, c'[k]? = if m' * i.size ≤ k ∧ k < m' * i.size + us.length then us[k - m' * i.size]? else c0[k]? := fun k => Ib c0 us _ hfit k
        have hsz' : c'.size = c0.size := by
          simp only [c', je, aq, dq, kn, gm]
          omega
        have hw : Gs E (E.write b c' (.BT l (m' + n) i.size)) b c0 c' t0 (.BT l (m' + n) i.size) :=
          { w := rfl, row := hrow, size := hsz', By := rfl, H := rfl, lk := rfl, n := rfl, m := rfl, BM := rfl, Lt := fun e => (hs.heap.BM _ e).2 b (by rw [hb]; trivial) rfl, n0 := by rw [hs.n, hs.H], free := hfree
            kind := .inr ⟨l, m', m' + n, i.size, hb, rfl, hlt, fun k hk => (hget k).trans (if_neg (fun e => absurd e.1 (Nat.not_le.2 hk)))⟩ }
        have hr := hw.rel hs.heap (fun z q e => by cases e) (fun q k z e => by
          simp only [Bb.BT.injEq] at e
          obtain ⟨rfl, rfl, rfl⟩ := e
          rw [hsz', ← hcsz]
          exact fx _ hroom)
        have hfor := fun base nb d hn hd hf => hw.Cf (base := base) (nb := nb) (d := d) hn hd hf hs.heap (fun z q e => by cases e)
        refine ⟨E.write b c' (.BT l (m' + n) i.size), ⟨by show E.H.set b _ = _; rw [hs.H], by show E.n = _; rw [hs.n]; simp, rfl, hw.CI, hr, fun _ base nb d _ hn hd hf => hfor base nb d hn hd hf, fun _ base d _ hd hf => hfor base E.n d (ak _) hd hf, hkept⟩, .inl ⟨_, hexec (by rw [hA, hx, hA0]; exact hrun), ?_⟩⟩
        simp only [A6]
        have holdget : olds = c0.toList.take (m' * i.size) := by
          rcases hoc with h0' | ⟨ad', had, hoc⟩
          · subst h0'
            simp only [lQ] at hol ⊢
            simp [bx hol]
          · rw [hA0] at had
            simp only [aa] at had
            subst had
            apply List.ext_getElem?
            intro j
            rcases bz j olds.length with hj | hj
            · have h4 := hoc j _ (aj hj)
              rw [Addr.add_lit, cell_of_row _ _ _ _ _ _ hrow, fy] at h4
              rw [aj hj, ← h4, eo (by omega)]
              simp
            · rw [bf hj, bf (by simp; omega)]
        refine ⟨hbn, ⟨_, _, rfl, hroom, ⟨_, _, rfl, fun _ => TY (E' := E.write b c' (.BT l (m' + n) i.size)) rfl (by show E.n = (E.H.set b _).length; rw [hs.n, hs.H]; simp), J5 (by rw [hw.CC, if_pos rfl]) ?_ fun j hj => ?_⟩, fun q k z hk => ?_⟩, fun z q hk => ?_⟩
        · refine hw.CI.HC hs.heap _ _ (Jx (EA holds hus) ?_)
          show (c0.toList.take (m' * i.size) ++ us ++ c0.toList.drop (m' * i.size + us.length)).take _ = _
          rw [← holdget, show (cs ++ xs).length = (olds ++ us).length by simp [hol, hul, hcl, hxl]]
          exact kl
        · rintro (hu | ⟨y, p1, p3⟩)
          · exact (hs.heap.BM _ hu).2 b (by rw [hb]; trivial) rfl
          rw [hw.BR] at p3
          by_cases hy : b = y
          · rw [if_pos hy] at p3
            simp only at p3
            rw [show (cs ++ xs).length = (m' + n) * i.size by simp [hcl, hxl, gz]] at hj
            omega
          · rw [if_neg hy] at p3
            have hl : live E.H[y]? := by
              split at p3
              · rename_i he; rw [he]; trivial
              · rename_i he; rw [he]; trivial
              · rename_i he; rw [he]; trivial
              · exact p3.elim
            exact hy (hs.heap.inj b y (by rw [hb]; trivial) hl p1.symm)
        · rw [hw.BR, if_pos rfl] at hk
          simp only [aa, Bb.BT.injEq] at hk
          obtain ⟨_, rfl, rfl⟩ := hk
          exact ⟨ak _, fun _ => ⟨rfl, c', t0, by rw [show (E.write b c' (.BT l (m' + n) i.size)).φ b = E.φ b from rfl, hw.CC, if_pos rfl], by rw [hsz', hcsz]⟩⟩
        · rw [hw.BR, if_pos rfl] at hk
          cases hk
      ·
        have hrun := Hs (P := c.P) E.w st o.type e xt i zx (Bg he) (Bg he2) h1 h2 A m' cap olds hol hoc ad n capx us hul hB (by omega) (by omega) (growslice_fits (by omega) (by omega))
        have hge := grownCap_ge E.w (m' + n) cap e
        have hcsz2 : (olds.toArray ++ us.toArray ++ Builtin.zeroCells zx.cells (grownCap E.w (m' + n) cap e - (m' + n))).size = grownCap E.w (m' + n) cap e * i.size := by
          simp only [lh, je, size_zeroCells, hzcell, hol, hul, ← gz]
          congr 1
          omega
        let E2 : AN := { E with w := E.w.drew.alloc (.cells (olds.toArray ++ us.toArray ++ Builtin.zeroCells zx.cells (grownCap E.w (m' + n) cap e - (m' + n))) e), φ := fun y => if y = b then E.w.heap.size else E.φ y, H := E.H.set b (.BT l (m' + n) i.size) }
        have hmv : Ia E E2 b l m' (m' + n) i.size (olds.toArray ++ us.toArray ++ Builtin.zeroCells zx.cells (grownCap E.w (m' + n) cap e - (m' + n))) e :=
          { heap := rfl, os := rfl, tape := rfl, output := rfl, By := fun _ => rfl, H := rfl, lk := rfl, n := rfl, m := rfl, BM := rfl, TR := hb, lt := hlt
            size := by rw [hcsz2]; exact fx _ hge }
        have hr := hmv.rel hs.heap
        have hfor := fun base nb d hn hd hf => hmv.Cf (base := base) (nb := nb) (d := d) hn hd hf hs.heap
        refine ⟨E2, ⟨by show E.H.set b _ = _; rw [hs.H], by show E.n = _; rw [hs.n]; simp, rfl, hmv.CI, hr, fun _ base nb d _ hn hd hf => hfor base nb d hn hd hf, fun _ base d _ hd hf => hfor base E.n d (ak _) hd hf, hkept⟩, .inl ⟨_, hexec (by rw [hA, hx]; exact hrun), ?_⟩⟩
        simp only [A6]
        refine ⟨hbn, ⟨_, _, rfl, hge, ⟨_, _, rfl, fun _ => TY hmv.H (by show E.n = _; rw [hs.n, hs.H]; simp), J5 (by rw [hmv.CC, if_pos rfl]) ?_ fun j hj => ?_⟩, fun q k z hk => ?_⟩, fun z q hk => ?_⟩
        · refine hmv.CI.HC hs.heap _ _ (Jx (EA holds hus) ?_)
          simp only [la, bj]
          rw [← bj, show (cs ++ xs).length = (olds ++ us).length by simp [hol, hul, hcl, hxl]]
          exact kl
        · rintro (hu | ⟨y, p1, p3⟩)
          · exact absurd (hs.heap.BM _ hu).1 (ig _)
          rw [hmv.By] at p1
          rw [hmv.BR] at p3
          by_cases hy : b = y
          · rw [if_pos hy] at p3
            simp only at p3
            rw [show (cs ++ xs).length = (m' + n) * i.size by simp [hcl, hxl, gz]] at hj
            omega
          · rw [if_neg (fun e => hy e.symm)] at p1
            rw [if_neg hy] at p3
            have hl : live E.H[y]? := by
              split at p3
              · rename_i he; rw [he]; trivial
              · rename_i he; rw [he]; trivial
              · rename_i he; rw [he]; trivial
              · exact p3.elim
            have := E8 hs.heap hl
            omega
        · rw [hmv.BR, if_pos rfl] at hk
          simp only [aa, Bb.BT.injEq] at hk
          obtain ⟨_, rfl, rfl⟩ := hk
          exact ⟨ak _, fun _ => ⟨by rw [hmv.By, if_pos rfl], _, _, by rw [hmv.By, if_pos rfl, hmv.CC, if_pos rfl], hcsz2.symm⟩⟩
        · rw [hmv.BR, if_pos rfl] at hk
          cases hk
  | _ => simp at h
end
theorem Lu {E : AN} : ∀ (cs : List V) (us : List bm), (cs.all fun | .int .. | .bool _ | .str _ => true | _ => false) = true → AH E cs us → us = cs.map CZ
 | [], us, _, h => by simp only [AH] at h; exact h
 | c :: cs, us, hp, h => by
  simp only [fg, av] at hp
  simp only [AH] at h
  obtain ⟨u, us', rfl, h1, h2⟩ := h
  rw [Lu cs us' hp.2 h2, df]
  congr 1
  cases c <;> simp_all [A6, CZ]
theorem GS {E : AN} {v : V} {u : bm} (hp : BE v = true) (h : A6 E v u) : u = Aj v := by
 cases v with
 | agg cs =>
  simp only [A6] at h
  obtain ⟨vs, rfl, h⟩ := h
  have := Lu cs vs.toList hp h
  simp only [Aj]
  rw [← this]
 | int _ _ => simp only [A6] at h; exact h
 | bool _ => simp only [A6] at h; exact h
 | str _ => simp only [A6] at h; exact h
 | _ => simp [BE] at hp
theorem EW {E : AN} : ∀ (cs : List V), (cs.all fun | .int .. | .bool _ | .str _ => true | _ => false) = true → AH E cs (cs.map CZ)
 | [], _ => by simp only [AH, fq]
 | c :: cs, hp => by
  simp only [fg, av] at hp
  simp only [AH, df]
  refine ⟨_, _, rfl, ?_, EW cs hp.2⟩
  cases c <;> simp_all [A6, CZ]
theorem JP (E : AN) {v : V} (hp : BE v = true) : A6 E v (Aj v) := by
 cases v with
 | agg cs =>
  simp only [A6, Aj]
  exact ⟨_, rfl, by simpa using EW cs hp⟩
 | int _ _ => simp only [A6, Aj, CZ]
 | bool _ => simp only [A6, Aj, CZ]
 | str _ => simp only [A6, Aj, CZ]
 | _ => simp [BE] at hp
theorem Pg {q : Sc} {x y : V} (hs : q ≠ .s) (h : Ee q x y = some true) : CZ x = CZ y := by
 cases q <;> cases x <;> cases y <;> simp_all [Ee, CZ]
theorem JY : ∀ {ks : List Sc} {xs ys : List V}, (ks.all fun q => decide (q ≠ .s)) = true → xs.length = ks.length → ys.length = ks.length → CV ks xs ys = some true → xs.map CZ = ys.map CZ
 | [], xs, ys, _, hx, hy, _ => by
  rw [bx hx, bx hy]
 | k :: ks, [], _, _, hx, _, _ => by simp at hx
 | k :: ks, _ :: _, [], _, _, hy, _ => by simp at hy
 | k :: ks, x :: xs, y :: ys, hk, hx, hy, h => by
  simp only [fg, av, decide_eq_true_eq] at hk
  simp only [CV, ae] at h
  obtain ⟨b, h1, h2⟩ := h
  cases b with
  | false => simp at h2
  | true =>
   simp only [if_true] at h2
   simp only [df, Pg hk.1 h1, JY hk.2 (by simpa using hx) (by simpa using hy) h2]
theorem JJ {P : bg} {k : ao} {ks : List Sc} (h : OX P k = some (.many ks)) : IQ P k = some ks ∧ (ks.all fun q => decide (q ≠ .s)) = true := by
 unfold OX at h
 split at h
 ·cases h
 ·simp only [ae] at h
  obtain ⟨ks', h1, h2⟩ := h
  split at h2
  ·rename_i hc
   simp only [aa, KT.many.injEq] at h2
   subst h2
   exact ⟨h1, hc⟩
  ·cases h2
theorem RR {P : bg} {k : ao} {q : Sc} (h : OX P k = some (.one q)) : EB P k = some q := by
 unfold OX at h
 split at h
 ·rename_i h1
  simp only [aa, KT.one.injEq] at h
  rw [h1, h]
 ·simp only [ae] at h
  obtain ⟨ks', h1, h2⟩ := h
  split at h2 <;> cases h2
theorem I2 {ks : List Sc} {x y : V} {b : Bool} (h : Dc (.many ks) x y = some b) : ∃ xs ys, x = .agg xs ∧ y = .agg ys ∧ xs.length = ks.length ∧ ys.length = ks.length ∧ CV ks xs ys = some b := by
 cases x <;> cases y <;> simp only [Dc] at h <;> try (cases h; done)
 rename_i xs ys
 split at h
 case isFalse => cases h
 rename_i hc
 exact ⟨xs, ys, rfl, rfl, hc.1, hc.2, h⟩
theorem Li {P : bg} {k : ao} {kt : KT} (hk : OX P k = some kt) {x y : V} (h : Dc kt x y = some true) : Aj x = Aj y := by
 cases kt with
 | one q =>
  cases q with
  | s =>
   cases x <;> cases y <;> simp only [Dc] at h <;> try (cases h; done)
   simp only [aa] at h
   simp only [Aj, CZ, (Go.MapKept.bytes_beq _ _).1 h]
  | b => cases x <;> cases y <;> simp_all [Dc, Ee, Aj, CZ]
  | i => cases x <;> cases y <;> simp_all [Dc, Ee, Aj, CZ]
 | many ks =>
  obtain ⟨xs, ys, rfl, rfl, h1, h2, h3⟩ := I2 h
  simp only [Aj]
  rw [JY (JJ hk).2 h1 h2 h3]
def iX (x : (V × V) × Nat) : MapEntry := { key := Aj x.1.1, val := Aj x.1.2, born := x.2 }
def Zt (As : List (V × V)) (i : Nat) : List MapEntry := (As.zipIdx i).map iX
theorem R4 (As : List (V × V)) : (FG As).toList = Zt As 0 := rfl
theorem Mm (e : V × V) (As : List (V × V)) (i : Nat) : Zt (e :: As) i = iX (e, i) :: Zt As (i + 1) := rfl
section
variable {P : bg} {k : ao} {w : ej}
theorem GH {q : Sc} (hk : EB P k = some q) (em : Bool) (n : Nat) (v : bm) : (Instr.checkKey em (n + 1) k v).run P w = .ok () w := by
 unfold EB at hk
 unfold Instr.checkKey
 split at hk <;> rename_i hu <;> first | cases hk | skip
 all_goals simp only [Sem.run_bind, run_underlying hu, Result.andThen_ok]
 all_goals cases v <;> simp
theorem HF (em : Bool) (m : Nat) (us : Array bm) : ∀ (fs : List Field) (n : Nat) (ks : List Sc), Ds P n fs = some ks → n + ks.length ≤ us.size →
  (forIn (m := Sem) fs PUnit.unit (fun f _ => do
   if f.name ≠ "_" then
    Instr.checkKey em (m + 1) f.type (← part f.type us f.offset)
    pure (ForInStep.yield PUnit.unit)
   else pure (ForInStep.yield PUnit.unit))).run P w = .ok PUnit.unit w
 | [], n, ks, _, _ => by simp
 | f :: fs, n, ks, hf, hl => by
  simp only [Ds] at hf
  split at hf <;> simp only [ae, af, reduceCtorEq] at hf
  rename_i hc
  obtain ⟨hn, ho, hz⟩ := hc
  obtain ⟨q, hk, ks', hks, rfl⟩ := hf
  simp only [List.length_cons] at hl
  have hu0 : us[n]? = some us[n] := gu (by omega)
  have hag := GO (P := P) (w := w) (Lf hk)
  have ih := HF em m us fs (n + 1) ks' hks (by omega)
  simp only [List.forIn_cons, Sem.run_bind, hn, ne_eq, not_false_eq_true, if_true, part, hag, Result.andThen_ok, ba, if_false, ho, hu0, Sem.run_pure, GH hk]
  exact ih
theorem I7 {ks : List Sc} (h : IQ P k = some ks) : ∃ fs, P.underlying k = some (.struct fs) ∧ P.stoodInHeld k = false ∧ Ds P 0 fs.toList = some ks := by
 unfold IQ at h
 split at h
 case h_2 => cases h
 rename_i fs hu
 split at h
 case isFalse => cases h
 rename_i hg
 simp only [av, ft] at hg
 exact ⟨fs, hu, hg.1, h⟩
theorem LR {kt : KT} (hk : OX P k = some kt) {key : V} (hself : Dc kt key key = some true) (em : Bool) : (Instr.checkKey em 10000 k (Aj key)).run P w = .ok () w := by
 cases kt with
 | one q => exact GH (RR hk) em 9999 _
 | many ks =>
  obtain ⟨hf, _⟩ := JJ hk
  obtain ⟨fs, hu, _, hff⟩ := I7 hf
  obtain ⟨xs, ys, e0, _, hc, _, _⟩ := I2 hself
  have e : Aj key = .agg (xs.map CZ).toArray := by rw [e0]; rfl
  rw [e, show (10000 : Nat) = 9999 + 1 from rfl, Instr.checkKey]
  simp only [Sem.run_bind, run_underlying hu, Result.andThen_ok]
  rw [← Array.forIn_toList]
  have := HF (P := P) (w := w) em 9998 (xs.map CZ).toArray fs.toList 0 ks hff (by simp; omega)
  simp only [this]
  first | rfl | simp
theorem Wv {q : Sc} {d : TypeDesc} (hk : EB P k = some q) (hd : P.underlying k = some d) {x y : V} {b : Bool} (h : Dc (.one q) x y = some b) : Instr.sameNow d (Aj x) (Aj y) = some b := by
 unfold EB at hk
 rw [hd] at hk
 cases q <;> cases x <;> cases y <;> simp_all [Dc, Ee, Aj, CZ] <;> (split at hk <;> simp_all [Instr.sameNow])
theorem Lj {q : Sc} {d : TypeDesc} (hk : EB P k = some q) (hd : P.underlying k = some d) {key : V} : ∀ (As : List (V × V)) (i : Nat) (r : Option (Nat × V)), EN (.one q) key As i = some r → Instr.findNow d (Aj key) (Zt As i) i = some (r.map fun x => (x.1, Aj x.2))
 | [], i, r, h => by
  simp only [EN, aa] at h
  subst h
  rfl
 | e :: As, i, r, h => by
  simp only [EN, ae] at h
  obtain ⟨b, hb, h⟩ := h
  have h1 := Wv hk hd hb
  rw [Mm]
  simp only [Instr.findNow, iX, h1]
  cases b with
  | true =>
   simp only [if_true, aa] at h
   subst h
   rfl
  | false =>
   simp only [ba, if_false] at h
   exact Lj hk hd As (i + 1) r h
theorem Xk (E : AN) {ks : List Sc} (hf : IQ P k = some ks) {x y : V} (hx : BE x = true) (hy : BE y = true) {b : Bool} (h : Dc (.many ks) x y = some b) : (Op.equal k (Aj x) (Aj y)).run P w = .ok b w := by
 obtain ⟨fs, hu, hst, hff⟩ := I7 hf
 obtain ⟨xs, ys, rfl, rfl, _, _, h⟩ := I2 h
 have hfo : P.fieldsOf k = fs := by simp only [Program.fieldsOf, hu]
 have hu2 : P.underlying k = some (.struct (P.fieldsOf k)) := by rw [hfo]; exact hu
 show (Op.equalIn 10000 k _ _).run P w = _
 simp only [Aj]
 rw [run_equalIn_struct w 9999 k _ _ hu2 hst, hfo]
 exact IH (E := E) 9998 _ _ fs.toList 0 ks xs ys b hff (by simpa using EW xs hx) (by simpa using EW ys hy) h
theorem KF (E : AN) {ks : List Sc} (hf : IQ P k = some ks) {key : V} (hkey : BE key = true) : ∀ (As : List (V × V)) (i : Nat) (r : Option (Nat × V)), (∀ x ∈ As, BE x.1 = true ∧ BE x.2 = true) → EN (.many ks) key As i = some r →
  (Instr.findAsking k (Aj key) (Zt As i) i).run P w = .ok (r.map fun x => (x.1, Aj x.2)) w
 | [], i, r, _, h => by
  simp only [EN, aa] at h
  subst h
  simp [Zt, Instr.findAsking]
 | e :: As, i, r, hp, h => by
  simp only [EN, ae] at h
  obtain ⟨b, hb, h⟩ := h
  have h1 := Xk E hf (w := w) hkey (hp e (bu ..)).1 hb
  rw [Mm]
  simp only [Instr.findAsking, iX, Sem.run_bind, h1, Result.andThen_ok]
  cases b with
  | true =>
   simp only [if_true, aa] at h
   subst h
   simp
  | false =>
   simp only [ba, if_false] at h ⊢
   exact KF E hf hkey As (i + 1) r (fun x hx => hp x (ca _ hx)) h
theorem OF (E : AN) {kt : KT} (hk : OX P k = some kt) {key : V} (hkey : BE key = true) {As : List (V × V)} (hp : ∀ x ∈ As, BE x.1 = true ∧ BE x.2 = true) {r : Option (Nat × V)} (h : EN kt key As 0 = some r) :
  (Instr.findKey k (Aj key) (FG As).toList).run P w = .ok (r.map fun x => (x.1, Aj x.2)) w := by
 rw [R4]
 cases kt with
 | one q =>
  have hs := RR hk
  have : ∃ d, P.underlying k = some d := by
   unfold EB at hs
   split at hs <;> rename_i hu <;> first | exact ⟨_, hu⟩ | cases hs
  obtain ⟨d, hd⟩ := this
  exact Go.MapKept.run_findKey hd (Lj hs hd As 0 r h)
 | many ks =>
  obtain ⟨hf, _⟩ := JJ hk
  obtain ⟨fs, hu, _, _⟩ := I7 hf
  cases As with
  | nil =>
   simp only [EN, aa] at h
   subst h
   exact Go.MapKept.run_findKey hu rfl
  | cons e As =>
   have hn : Instr.findNow (.struct fs) (Aj key) (Zt (e :: As) 0) 0 = none := by
    rw [Mm]
    simp only [Instr.findNow, Instr.sameNow]
   have := KF E hf (w := w) hkey (e :: As) 0 r hp h
   simp only [Instr.findKey, Sem.run_bind, run_underlying hu, Result.andThen_ok, hn, this]
theorem S4 {α : Type} : ∀ (l : List α), ∀ x ∈ l.zip l, x.1 = x.2 ∧ x.1 ∈ l
 | [], x, h => by simp at h
 | y :: l, x, h => by
  simp only [List.zip_cons_cons, List.mem_cons] at h
  rcases h with rfl | h
  ·exact ⟨rfl, bu ..⟩
  ·obtain ⟨h1, h2⟩ := S4 l x h
   exact ⟨h1, ca _ h2⟩
theorem MB (n : Nat) {v : V} (h : (match v with | .int .. | .bool _ | .str _ => true | _ => false) = true) : Instr.sameBits n (CZ v) (CZ v) = true := by
 cases v <;> simp_all [CZ, Instr.sameBits]
 exact (Go.MapKept.bytes_beq _ _).2 rfl
theorem OG {v : V} (h : BE v = true) : Instr.sameBits 10000 (Aj v) (Aj v) = true := by
 cases v with
 | agg cs =>
  simp only [Aj]
  rw [show (10000 : Nat) = 9999 + 1 from rfl, Instr.sameBits]
  simp only [beq_self_eq_true, Bool.true_and, cb]
  intro x hx
  obtain ⟨h1, h2⟩ := S4 _ x hx
  obtain ⟨x1, x2⟩ := x
  simp only at h1
  subst h1
  simp only [List.mem_map] at h2
  obtain ⟨v, hv, rfl⟩ := h2
  unfold BE at h
  rw [cb] at h
  exact MB 9999 (h v hv)
 | int _ _ => simp [Aj, CZ, Instr.sameBits]
 | bool _ => simp [Aj, CZ, Instr.sameBits]
 | str _ => simp only [Aj, CZ, Instr.sameBits]; exact (Go.MapKept.bytes_beq _ _).2 rfl
 | _ => simp [BE] at h
theorem PK {v : V} (h : BE v = true) : (Instr.keyThatStays (Aj v) (Aj v)).run P w = .ok (Aj v) w := by
 simp only [Instr.keyThatStays, OG h, if_true, Sem.run_pure]
theorem Hh {kt : KT} {key : V} : ∀ (As : List (V × V)) (i j : Nat) (v : V), EN kt key As i = some (some (j, v)) → ∃ n kk, j = i + n ∧ As[n]? = some (kk, v) ∧ Dc kt key kk = some true
 | [], i, j, v, h => by simp [EN] at h
 | e :: As, i, j, v, h => by
  simp only [EN, ae] at h
  obtain ⟨b, hb, h⟩ := h
  cases b with
  | true =>
   simp only [if_true, aa, ag] at h
   obtain ⟨rfl, rfl⟩ := h
   exact ⟨0, e.1, rfl, rfl, hb⟩
  | false =>
   simp only [ba, if_false] at h
   obtain ⟨n, kk, h1, h2, h3⟩ := Hh As (i + 1) j v h
   exact ⟨n + 1, kk, by omega, h2, h3⟩
theorem GZ (As : List (V × V)) (i : Nat) : (FG As)[i]? = (As[i]?).map fun x => { key := Aj x.1, val := Aj x.2, born := i } := by
  unfold FG
  rw [ik, dj, List.getElem?_zipIdx]
  cases As[i]? <;> simp
theorem Kv (As : List (V × V)) : (FG As).size = As.length := by simp [FG]
theorem Oo (As : List (V × V)) (k v : V) : (FG As).push { key := Aj k, val := Aj v, born := As.length } = FG (As ++ [(k, v)]) := by
  apply ld
  intro i
  rw [gl, Kv, GZ, GZ]
  by_cases h : i = As.length
  · subst h; simp
  · rw [if_neg h]
    rcases bz i As.length with hl | hl
    · rw [az hl]
    · rw [bf hl, bf (by simp; omega)]
theorem Ml (As : List (V × V)) (i : Nat) (k v : V) (f : MapEntry → MapEntry) (h : ∀ x, As[i]? = some x → f { key := Aj x.1, val := Aj x.2, born := i } = { key := Aj k, val := Aj v, born := i }) : (FG As).modify i f = FG (As.set i (k, v)) := by
  apply ld
  intro j
  rw [Array.getElem?_modify, GZ, GZ, jj]
  by_cases hij : i = j
  · subst hij
    rw [if_pos rfl, if_pos rfl]
    cases hx : As[i]? with
    | none =>
      rw [if_neg]
      · rfl
      · intro hl
        rw [aj hl] at hx
        cases hx
    | some x =>
      rw [if_pos (al.1 hx).1]
      simp only [ai, h x hx]
  · rw [if_neg hij, if_neg hij]
end
structure E5 (E E' : AN) : Prop where
 heap : E'.w.heap = E.w.heap.push (.map #[] 0)
 os : E'.w.os = E.w.os
 tape : E'.w.tape = E.w.tape
 output : E'.w.output = E.w.output
 By : ∀ b, E'.φ b = if b = E.H.length then E.w.heap.size else E.φ b
 H : E'.H = E.H ++ [.mp []]
 lk : E'.lk = E.lk
 n : E'.n = E.n + 1
 m : E'.m = E.m
 BM : E'.BM = E.BM
 n0 : E.n = E.H.length
theorem E5.BR {E E' : AN} (h : E5 E E') (b : Nat) : E'.H[b]? = if b = E.H.length then some (.mp []) else E.H[b]? := by
 rw [h.H]
 by_cases hb : b = E.H.length
 ·subst hb; simp
 ·rw [if_neg hb]
  rcases bz b E.H.length with hl | hl
  ·rw [az hl]
  ·rw [bf (by simp; omega), bf hl]
theorem E5.CC {E E' : AN} (h : E5 E E') (g : Nat) : E'.w.heap[g]? = if g = E.w.heap.size then some (.map #[] 0) else E.w.heap[g]? := by
 rw [h.heap, gl]
theorem E5.CI {E E' : AN} (h : E5 E E') : FR E E' where
 lk := h.lk
 os := h.os
 tape := h.tape
 output := h.output
 size := by rw [h.heap]; simp
 len := by rw [h.n]; omega
 mm := h.m
 cell := by
  intro g i u hc _
  have hg := GJ hc
  simp only [World.cell?, h.CC g] at hc ⊢
  rw [if_neg (by simp at hg; omega)]
  exact hc
 block := by
  intro g hg _
  rw [h.CC g, if_neg (by omega)]
 mono := by
  intro lv g i _ hu
  rcases hu with hu | hu
  ·exact .inl (.inl (by rw [h.BM] at hu; exact hu))
  cases lv with
  | some lv =>
   obtain ⟨b, h1, h2, h3⟩ := hu
   rw [h.lk] at h2
   rw [h.BR b] at h3
   rw [h.By b] at h1
   by_cases hb : b = E.H.length
   ·rw [if_pos hb] at h1; right; omega
   ·rw [if_neg hb] at h1 h3
    exact .inl (.inr ⟨b, h1, h2, h3⟩)
  | none =>
   obtain ⟨b, h1, h3⟩ := hu
   rw [h.BR b] at h3
   rw [h.By b] at h1
   by_cases hb : b = E.H.length
   ·rw [if_pos hb] at h1; right; omega
   ·rw [if_neg hb] at h1 h3
    exact .inl (.inr ⟨b, h1, h3⟩)
 By := by
  intro b hb hn
  have : b ≠ E.H.length := by have := h.n0; omega
  refine ⟨by rw [h.By b, if_neg this], fun l n sz => ?_⟩
  rw [h.BR b, if_neg this]
  exact hn l n sz
 cells := by
  intro b hb hn sz cs
  have : b ≠ E.H.length := by have := h.n0; omega
  rw [h.BR b, if_neg this]
  exact hn sz cs
 BT := by
  intro b l n' sz' hb hB
  have hne : b ≠ E.H.length := by have := h.n0; omega
  rw [h.BR b, if_neg hne] at hB
  refine ⟨n', hB, ak _, fun _ => ⟨by rw [h.By b, if_neg hne], fun c' t' hc => ⟨c', ?_, rfl⟩⟩⟩
  rw [h.CC]
  split
  ·rename_i he
   have := ar.1 hc |>.1
   omega
  ·exact hc
 fresh := by
  intro b hl
  rw [h.BR b] at hl
  rw [h.By b]
  by_cases hb : b = E.H.length
  ·rw [if_pos hb]; exact .inr (ak _)
  ·rw [if_neg hb] at hl ⊢; exact .inl ⟨rfl, hl⟩
 BM := fun g hg => by rw [h.BM]; exact hg
 Hn := fun g hg => .inl (by rw [h.BM] at hg; exact hg)
 Gp := fun g _ hl => by rw [h.CC g, if_neg (by omega)]
theorem E5.rel {E E' : AN} (h : E5 E E') (hh : C1 E) : C1 E' where
 cells := by
  intro b sz cs hB
  rw [h.BR b] at hB
  rw [h.By b]
  split at hB
  ·cases hB
  ·rename_i he
   obtain ⟨c', t', h1, h2, h3⟩ := hh.cells b sz cs hB
   rw [if_neg he, h.CC, if_neg (by have := ar.1 h1 |>.1; omega)]
   exact ⟨c', t', h1, h2, fun i v hv => let ⟨u, h4, h5⟩ := h3 i v hv; ⟨u, h4, h.CI.rep hh v u h5⟩⟩
 dm := by rw [h.m, h.lk]; exact hh.dm
 lvl := by
  intro b l n sz hB
  rw [h.BR b] at hB
  rw [h.lk]
  split at hB
  ·cases hB
  ·exact hh.lvl b l n sz hB
 BT := by
  intro b l n sz hB
  rw [h.BR b] at hB
  rw [h.By b]
  split at hB
  ·cases hB
  ·rename_i he
   obtain ⟨c', t', h1, h2⟩ := hh.BT b l n sz hB
   rw [if_neg he, h.CC, if_neg (by have := ar.1 h1 |>.1; omega)]
   exact ⟨c', t', h1, h2⟩
 maps := by
  intro b As hB
  rw [h.BR b] at hB
  rw [h.By b]
  split at hB
  ·rename_i he
   simp only [aa, Bb.mp.injEq] at hB
   subst hB
   rw [if_pos he, h.CC, if_pos rfl]
   exact ⟨rfl, fun x hx => by cases hx⟩
  ·rename_i he
   obtain ⟨h1, h2⟩ := hh.maps b As hB
   rw [if_neg he, h.CC, if_neg (by have := ar.1 h1 |>.1; omega)]
   exact ⟨h1, h2⟩
 inj := by
  intro b b' h1 h2 he
  rw [h.BR] at h1 h2
  rw [h.By, h.By] at he
  by_cases hb : b = E.H.length <;> by_cases hb' : b' = E.H.length
  ·omega
  ·rw [if_pos hb, if_neg hb'] at he
   rw [if_neg hb'] at h2
   have := E8 hh h2
   omega
  ·rw [if_neg hb, if_pos hb'] at he
   rw [if_neg hb] at h1
   have := E8 hh h1
   omega
  ·rw [if_neg hb, if_neg hb'] at he
   rw [if_neg hb] at h1
   rw [if_neg hb'] at h2
   exact hh.inj b b' h1 h2 he
 BM := fun g hg => by
  rw [h.BM] at hg
  obtain ⟨h1, h2⟩ := hh.BM g hg
  refine ⟨by rw [h.heap, jk]; omega, fun b hl => ?_⟩
  rw [h.BR] at hl
  rw [h.By]
  by_cases hb : b = E.H.length
  ·rw [if_pos hb]; omega
  ·rw [if_neg hb] at hl ⊢; exact h2 b hl
theorem E5.Cf {E E' : AN} (h : E5 E E') {base nb d : Nat} (hb : base ≤ E.n) (hnb : nb ≤ E.n) (hd : d ≤ E.m) (hf : D0 E base nb d) (hh : C1 E) : D0 E' base nb d := by
 intro b sz cs hlt hB c' t' hc i v u hv hu
 have hne : b ≠ E.H.length := by have := h.n0; omega
 rw [h.BR, if_neg hne] at hB
 rw [h.By, if_neg hne, h.CC] at hc
 split at hc
 ·rename_i he
  have := E8 hh (b := b) (by rw [hB]; trivial)
  omega
 ·exact (h.CI.shrink hh hnb hd).rep v u (hf b sz cs hlt hB c' t' hc i v u hv hu)
structure GX (E E' : AN) (b : Nat) (As kvs' : List (V × V)) : Prop where
 heap : ∀ g, E'.w.heap[g]? = if g = E.φ b then some (.map (FG kvs') kvs'.length) else E.w.heap[g]?
 size : E'.w.heap.size = E.w.heap.size
 os : E'.w.os = E.w.os
 tape : E'.w.tape = E.w.tape
 output : E'.w.output = E.w.output
 By : E'.φ = E.φ
 H : E'.H = E.H.set b (.mp kvs')
 lk : E'.lk = E.lk
 n : E'.n = E.n
 m : E'.m = E.m
 BM : E'.BM = E.BM
 TR : E.H[b]? = some (.mp As)
 row : E.w.heap[E.φ b]? = some (.map (FG As) As.length)
 Lt : E.φ b ∉ E.BM
 free : AT E.lk b = true
theorem GX.BR {E E' : AN} {b : Nat} {As kvs' : List (V × V)} (h : GX E E' b As kvs') (x : Nat) : E'.H[x]? = if b = x then some (.mp kvs') else E.H[x]? := by
 rw [h.H, Ab]
 have := (al.1 h.TR).1
 simp [this]
theorem GX.CI {E E' : AN} {b : Nat} {As kvs' : List (V × V)} (h : GX E E' b As kvs') : FR E E' where
 lk := h.lk
 os := h.os
 tape := h.tape
 output := h.output
 size := by rw [h.size]; exact ak _
 len := by rw [h.n]; exact ak _
 mm := h.m
 cell := by
  intro g i u hc _
  have hne : g ≠ E.φ b := by
   rintro rfl
   simp only [World.cell?, h.row] at hc
   cases hc
  simp only [World.cell?, h.heap g, if_neg hne] at hc ⊢
  exact hc
 block := by
  intro g hg hu
  rw [h.heap g, if_neg]
  rintro rfl
  refine hu 0 (.inr ⟨b, rfl, EU _ h.free, ?_⟩)
  rw [h.TR]
  trivial
 mono := by
  intro lv g i _ hu
  rcases hu with hu | hu
  ·exact .inl (.inl (by rw [h.BM] at hu; exact hu))
  cases lv with
  | some lv =>
   obtain ⟨x, h1, h2, h3⟩ := hu
   rw [h.lk] at h2
   rw [h.By] at h1
   rw [h.BR x] at h3
   refine .inl (.inr ⟨x, h1, h2, ?_⟩)
   by_cases hb : b = x
   ·subst hb; rw [h.TR]; trivial
   ·rw [if_neg hb] at h3; exact h3
  | none =>
   obtain ⟨x, h1, h3⟩ := hu
   rw [h.By] at h1
   rw [h.BR x] at h3
   refine .inl (.inr ⟨x, h1, ?_⟩)
   by_cases hb : b = x
   ·subst hb; rw [h.TR]; trivial
   ·rw [if_neg hb] at h3; exact h3
 By := by
  intro x hx hn
  refine ⟨by rw [h.By], fun l n sz => ?_⟩
  rw [h.BR x]
  split
  ·simp
  ·exact hn l n sz
 cells := by
  intro x hx hn sz cs
  rw [h.BR x]
  split
  ·simp
  ·exact hn sz cs
 BT := by
  intro x l n' sz' hx hB
  rw [h.BR x] at hB
  by_cases hb : b = x
  ·rw [if_pos hb] at hB; cases hB
  ·rw [if_neg hb] at hB
   refine ⟨n', hB, ak _, fun _ => ⟨by rw [h.By], fun c2 t2 hc => ⟨c2, ?_, rfl⟩⟩⟩
   rw [h.heap, if_neg]
   ·exact hc
   ·intro e
    rw [e, h.row] at hc
    cases hc
 fresh := by
  intro x hl
  rw [h.BR x] at hl
  rw [h.By]
  refine .inl ⟨rfl, ?_⟩
  by_cases hb : b = x
  ·subst hb; rw [h.TR]; trivial
  ·rw [if_neg hb] at hl; exact hl
 BM := fun g hg => by rw [h.BM]; exact hg
 Hn := fun g hg => .inl (by rw [h.BM] at hg; exact hg)
 Gp := fun g hg _ => by rw [h.heap g, if_neg (fun e => h.Lt (by rw [← e]; exact hg))]
theorem GX.rel {E E' : AN} {b : Nat} {As kvs' : List (V × V)} (h : GX E E' b As kvs') (hh : C1 E) (hp : ∀ x ∈ kvs', BE x.1 = true ∧ BE x.2 = true) : C1 E' where
 cells := by
  intro x sz cs hB
  rw [h.BR x] at hB
  rw [h.By]
  by_cases hx : b = x
  ·rw [if_pos hx] at hB; cases hB
  ·rw [if_neg hx] at hB
   obtain ⟨c2, t2, h1, h2, h3⟩ := hh.cells x sz cs hB
   rw [h.heap, if_neg (by intro e; rw [e, h.row] at h1; cases h1)]
   exact ⟨c2, t2, h1, h2, fun i v hv => let ⟨u, h4, h5⟩ := h3 i v hv; ⟨u, h4, h.CI.rep hh v u h5⟩⟩
 dm := by rw [h.m, h.lk]; exact hh.dm
 lvl := by
  intro x l n sz hB
  rw [h.BR x] at hB
  rw [h.lk]
  by_cases hx : b = x
  ·rw [if_pos hx] at hB; cases hB
  ·rw [if_neg hx] at hB
   exact hh.lvl x l n sz hB
 BT := by
  intro x l n sz hB
  rw [h.BR x] at hB
  rw [h.By]
  by_cases hx : b = x
  ·rw [if_pos hx] at hB; cases hB
  ·rw [if_neg hx] at hB
   obtain ⟨c2, t2, h1, h2⟩ := hh.BT x l n sz hB
   rw [h.heap, if_neg (by intro e; rw [e, h.row] at h1; cases h1)]
   exact ⟨c2, t2, h1, h2⟩
 maps := by
  intro x ks hB
  rw [h.BR x] at hB
  rw [h.By]
  by_cases hx : b = x
  ·subst hx
   rw [if_pos rfl] at hB
   simp only [aa, Bb.mp.injEq] at hB
   subst hB
   rw [h.heap, if_pos rfl]
   exact ⟨rfl, hp⟩
  ·rw [if_neg hx] at hB
   obtain ⟨h1, h2⟩ := hh.maps x ks hB
   have hne : E.φ x ≠ E.φ b := fun e => hx (hh.inj b x (by rw [h.TR]; trivial) (by rw [hB]; trivial) e.symm)
   rw [h.heap, if_neg hne]
   exact ⟨h1, h2⟩
 inj := by
  intro x y h1 h2 he
  rw [h.BR] at h1 h2
  rw [h.By] at he
  refine hh.inj x y ?_ ?_ he
  ·by_cases hx : b = x
   ·subst hx; rw [h.TR]; trivial
   ·rw [if_neg hx] at h1; exact h1
  ·by_cases hx : b = y
   ·subst hx; rw [h.TR]; trivial
   ·rw [if_neg hx] at h2; exact h2
 BM := fun g hg => by
  rw [h.BM] at hg
  obtain ⟨h1, h2⟩ := hh.BM g hg
  refine ⟨by rw [h.size]; exact h1, fun x hl => ?_⟩
  rw [h.BR] at hl
  rw [h.By]
  by_cases hx : b = x
  ·subst hx; exact fun e => h.Lt (e ▸ hg)
  ·rw [if_neg hx] at hl; exact h2 x hl
theorem GX.Cf {E E' : AN} {b : Nat} {As kvs' : List (V × V)} (h : GX E E' b As kvs') {base nb d : Nat} (hnb : nb ≤ E.n) (hd : d ≤ E.m) (hf : D0 E base nb d) (hh : C1 E) : D0 E' base nb d := by
 intro x sz cs hlt hB c2 t2 hc i v u hv hu
 rw [h.BR] at hB
 by_cases hx : b = x
 ·rw [if_pos hx] at hB; cases hB
 ·rw [if_neg hx] at hB
  rw [h.By, h.heap] at hc
  split at hc
  ·cases hc
  ·exact (h.CI.shrink hh hnb hd).rep v u (hf x sz cs hlt hB c2 t2 hc i v u hv hu)
section
variable {c : Cx} {E : AN} {S : St} {a : Act} {o : bq}
theorem E5.after (hs : CK c E S a) {E' : AN} (h : E5 E E') (hr : C1 E') : Ap c E E' (S.H ++ [.mp []]) where
 H := by rw [h.H, hs.H]
 n := by rw [h.n, hs.n]; simp
 m := h.m
 CI := h.CI
 heap := hr
 Gn := fun _ base nb d hb hn hd hf => h.Cf (by have := hs.base; have := hs.n; omega) hn hd hf hs.heap
 HP := fun _ base d hb hd hf => (h.Cf (by have := hs.base; have := hs.n; omega) (ak _) hd hf hs.heap).up h.CI.len
 kept := fun b hb _ => by rw [hs.H, az (by have := hs.base; omega)]
theorem GX.after (hs : CK c E S a) {E' : AN} {b : Nat} {As kvs' : List (V × V)} (h : GX E E' b As kvs') (hm : c.BX b = true) (hr : C1 E') : Ap c E E' (S.H.set b (.mp kvs')) where
 H := by rw [h.H, hs.H]
 n := by rw [h.n, hs.n]; simp
 m := h.m
 CI := h.CI
 heap := hr
 Gn := fun _ base nb d hb hn hd hf => h.Cf hn hd hf hs.heap
 HP := fun _ base d hb hd hf => (h.Cf (ak _) hd hf hs.heap).up h.CI.len
 kept := fun x hx hl => by
  rw [hs.H, Ab, if_neg]
  rintro ⟨rfl, _⟩
  unfold Cx.BX at hm
  simp only [de, decide_eq_true_eq] at hm
  rcases hm with hm | hm
  ·omega
  ·rw [hm] at hl; cases hl
theorem K3 (E : AN) : A6 E C7 undef := by
 simp only [C7, A6]
 exact ⟨#[], rfl, by simp only [AH]⟩
theorem OY (hs : CK c E S a) {t : ao} (ho : o.op = .makeMap t none) : GD c E a o (.D3 S.H.length) (S.H ++ [.mp []]) := by
  have hp : E5 E { w := E.w.alloc (.map #[] 0), φ := fun b => if b = E.H.length then E.w.heap.size else E.φ b, H := E.H ++ [.mp []], lk := E.lk, n := E.n + 1, m := E.m, BM := E.BM } :=
    ⟨rfl, rfl, rfl, rfl, fun _ => rfl, rfl, rfl, rfl, rfl, rfl, by rw [hs.n, hs.H]⟩
  refine ⟨_, hp.after hs (hp.rel hs.heap), .inl ⟨.map (some E.w.heap.size), ?_, ?_⟩⟩
  · simp only [execOp, ho]; rfl
  · simp only [A6]
    rw [hs.H, hs.n]
    refine ⟨by omega, by rw [if_pos rfl], fun l n z => ?_⟩
    simp
theorem MP (hs : CK c E S a) {b : Nat} {As : List (V × V)} (hb : S.H[b]? = some (.mp As)) {u : bm} (hr : A6 E (.D3 b) u) : u = .map (some (E.φ b)) ∧ E.w.heap[E.φ b]? = some (.map (FG As) As.length) ∧ ∀ x ∈ As, BE x.1 = true ∧ BE x.2 = true := by
 simp only [A6] at hr
 have := hs.heap.maps b As (by rw [hs.H]; exact hb)
 exact ⟨hr.2.1, this.1, this.2⟩
theorem JN {P : bg} {t : ao} {q : KT × ao} (h : LF P t = some q) : ∃ k, P.underlying t = some (.map k q.2) ∧ OX P k = some q.1 := by
 unfold LF at h
 split at h
 case h_2 => cases h
 rename_i k e hu
 simp only [af] at h
 obtain ⟨kt, h1, rfl⟩ := h
 exact ⟨k, hu, h1⟩
theorem PU {P : bg} {e : ao} {z : V} (h : Je P e = some z) (w : ej) : ∃ x, (zeroValue e).run P w = .ok x w ∧ Dq x = some z := by
 unfold Je at h
 simp only [ae] at h
 obtain ⟨x, ⟨i, h1, h2⟩, h3⟩ := h
 exact ⟨x, by simp [zeroValue, typeInfo, h1, h2], h3⟩
theorem QF (hs : CK c E S a) {t : ao} {x k : aw} {ok : Bool} {m kv v : V} (ho : o.op = .lookup t x k ok) (hx : ev S.T x = some m) (hk : ev S.T k = some kv) (h : IT c.P t S.H m kv ok = some v) : DH c E a o v := by
 have r1 := Al hs x _ hx
 have r2 := Al hs k _ hk
 unfold IT at h
 split at h
 case h_2 => cases h
 rename_i b
 split at h
 case h_2 => cases h
 rename_i As hb
 simp only [ae] at h
 obtain ⟨q, hq, h⟩ := h
 split at h
 case isFalse => cases h
 rename_i hc
 simp only [ae] at h
 obtain ⟨r, hr, h⟩ := h
 obtain ⟨e1, e2, e3⟩ := MP hs hb r1
 obtain ⟨kt, hu, hkt⟩ := JN hq
 have ek := GS hc.1 r2
 have hchk := LR (P := c.P) (w := E.w) hkt hc.2 (FG As).isEmpty
 have hfind := OF (P := c.P) (w := E.w) E hkt hc.1 e3 hr
 cases r with
 | some r =>
  obtain ⟨j, vv⟩ := r
  simp only [aa] at h
  obtain ⟨n, kk, h1, h2, h3⟩ := Hh As 0 j vv hr
  have hpl := (e3 _ (bh h2)).2
  refine ⟨if ok then .tuple #[Aj vv, .bool true] else Aj vv, ?_, ?_⟩
  ·simp only [execOp, ho, Instr.lookup, e1, ek, Sem.run_bind, run_underlying hu, Result.andThen_ok, Go.MapKept.run_getObj_map e2, Sem.run_pure, hchk, hfind, ai]
  ·subst h
   cases ok with
   | true =>
    simp only [if_true, A6]
    refine ⟨_, rfl, ?_⟩
    simp only [AH, A6]
    exact ⟨_, _, rfl, JP E hpl, _, _, rfl, rfl, rfl⟩
   | false => exact JP E hpl
 | none =>
  simp only [af] at h
  obtain ⟨z, hz, rfl⟩ := h
  obtain ⟨zx, hzr, hzo⟩ := PU hz E.w
  refine ⟨if ok then .tuple #[zx, .bool false] else zx, ?_, ?_⟩
  ·simp only [execOp, ho, Instr.lookup, e1, ek, Sem.run_bind, run_underlying hu, Result.andThen_ok, Go.MapKept.run_getObj_map e2, Sem.run_pure, hchk, hfind, gg, hzr]
  ·have hrz := HD E zx z hzo
   cases ok with
   | true =>
    simp only [if_true, A6]
    refine ⟨_, rfl, ?_⟩
    simp only [AH, A6]
    exact ⟨_, _, rfl, hrz, _, _, rfl, rfl, rfl⟩
   | false => exact hrz
def AN.FH (E : AN) (b : Nat) (kvs' : List (V × V)) : AN := { E with w := { E.w with heap := E.w.heap.setIfInBounds (E.φ b) (.map (FG kvs') kvs'.length) }, H := E.H.set b (.mp kvs') }
theorem cO {b : Nat} {As kvs' : List (V × V)} (hrow : E.w.heap[E.φ b]? = some (.map (FG As) As.length)) (hb : E.H[b]? = some (.mp As)) (hfree : AT E.lk b = true) (hnh : E.φ b ∉ E.BM) : GX E (E.FH b kvs') b As kvs' where
 heap := fun g => by
  show (E.w.heap.setIfInBounds (E.φ b) _)[g]? = _
  rw [Array.getElem?_setIfInBounds]
  have := (ar.1 hrow).1
  by_cases hg : E.φ b = g
  ·rw [if_pos hg, if_pos hg.symm, if_pos (by omega)]
  ·rw [if_neg hg, if_neg (fun e => hg e.symm)]
 size := by show (E.w.heap.setIfInBounds _ _).size = _; simp
 os := rfl
 tape := rfl
 output := rfl
 By := rfl
 H := rfl
 lk := rfl
 n := rfl
 m := rfl
 TR := hb
 BM := rfl
 Lt := hnh
 row := hrow
 free := hfree
theorem Ko (hs : CK c E S a) {b : Nat} {As kvs' : List (V × V)} (hb : S.H[b]? = some (.mp As)) (hrow : E.w.heap[E.φ b]? = some (.map (FG As) As.length)) (hm : c.BX b = true) (hp : ∀ x ∈ kvs', BE x.1 = true ∧ BE x.2 = true) : Ap c E (E.FH b kvs') (S.H.set b (.mp kvs')) := by
 have hw := cO (kvs' := kvs') hrow (by rw [hs.H]; exact hb) (by rw [hs.lk]; exact HW hs.DV hm) (fun e => (hs.heap.BM _ e).2 b (by rw [hs.H, hb]; trivial) rfl)
 exact hw.after hs hm (hw.rel hs.heap hp)
theorem QR (hs : CK c E S a) {t : ao} {x k y : aw} {m kv v : V} {H' : A4} (ho : o.op = .mapUpdate t x k y) (hx : ev S.T x = some m) (hk : ev S.T k = some kv) (hy : ev S.T y = some v) (h : TQ c t S.H m kv v = some H') : GD c E a o C7 H' := by
  have r1 := Al hs x _ hx
  have r2 := Al hs k _ hk
  have r3 := Al hs y _ hy
  unfold TQ at h
  split at h
  case h_2 => cases h
  rename_i b
  split at h
  case h_2 => cases h
  rename_i As hb
  simp only [ae] at h
  obtain ⟨q, hq, h⟩ := h
  split at h
  case isFalse => cases h
  rename_i hc
  obtain ⟨c1, c2, c3, c4⟩ := hc
  simp only [af] at h
  obtain ⟨r, hr, h⟩ := h
  obtain ⟨e1, e2, e3⟩ := MP hs hb r1
  obtain ⟨kt, hu, hkt⟩ := JN hq
  have ek := GS c1 r2
  have ev' := GS c2 r3
  have hchk := LR (P := c.P) (w := E.w) hkt c3 false
  have hfind := OF (P := c.P) (w := E.w) E hkt c1 e3 hr
  have hmem : ∀ (l : List (V × V)), (∀ x ∈ l, x ∈ As ∨ x = (kv, v)) → ∀ x ∈ l, BE x.1 = true ∧ BE x.2 = true := fun l hl x hx => by
    rcases hl x hx with h | rfl
    · exact e3 x h
    · exact ⟨c1, c2⟩
  cases r with
  | some r =>
    obtain ⟨j, vv⟩ := r
    simp only [] at h
    subst h
    obtain ⟨n, kk, h1, h2, h3⟩ := Hh As 0 j vv hr
    have hj : j = n := by omega
    subst hj
    have hkk := Li hkt h3
    refine ⟨_, Ko hs hb e2 c4 (hmem _ fun x hx => ?_), .inr ⟨?_, K3 _⟩⟩
    · rcases jc hx with h | h
      · exact .inl h
      · exact .inr h
    · have hst := PK (P := c.P) (w := E.w) c1
      have hes : (FG As)[j]? = some { key := Aj kv, val := Aj vv, born := j } := by rw [GZ, h2, hkk]; rfl
      have hset := Ml As j kv v (fun e => { e with key := Aj kv, val := Aj v }) (fun _ _ => rfl)
      simp only [execOp, ho, Instr.mapUpdate, e1, ek, ev', Sem.run_bind, run_underlying hu, Result.andThen_ok, Go.MapKept.run_getObj_map e2, Sem.run_pure, hchk, hfind, ai, hes, er, hst, Go.MapKept.run_setObj_map _ e2]
      rw [hset]
      show _ = Result.ok _ ({ E.w with heap := E.w.heap.setIfInBounds (E.φ b) (.map (FG (As.set j (kv, v))) (As.set j (kv, v)).length) })
      rw [cp]
  | none =>
    simp only [] at h
    subst h
    refine ⟨_, Ko hs hb e2 c4 (hmem _ fun x hx => ?_), .inr ⟨?_, K3 _⟩⟩
    · rcases au.1 hx with h | h
      · exact .inl h
      · exact .inr (bl.1 h)
    · have hpush := Oo As kv v
      simp only [execOp, ho, Instr.mapUpdate, e1, ek, ev', Sem.run_bind, run_underlying hu, Result.andThen_ok, Go.MapKept.run_getObj_map e2, Sem.run_pure, hchk, hfind, gg, Go.MapKept.run_setObj_map _ e2]
      rw [hpush]
      show _ = Result.ok _ ({ E.w with heap := E.w.heap.setIfInBounds (E.φ b) (.map (FG (As ++ [(kv, v)])) (As ++ [(kv, v)]).length) })
      rw [aq]
      rfl
theorem Rm {E : AN} {z : V} {u : bm} {i : Nat} (h : A6 E z u) : A6 E (.EZ [z, .int .i64 i]) (.tuple #[u, .int .i64 i]) := by
 simp only [A6]
 refine ⟨_, rfl, ?_⟩
 simp only [AH, A6]
 exact ⟨_, _, rfl, h, _, _, rfl, rfl, rfl⟩
theorem RY (hs : CK c E S a) {t : ao} {x k : aw} {m kv v : V} {H' : A4} (ho : o.op = .mapEntry t x k) (hx : ev S.T x = some m) (hk : ev S.T k = some kv) (h : HO c t S.H m kv = some (v, H')) : GD c E a o v H' := by
  have r1 := Al hs x _ hx
  have r2 := Al hs k _ hk
  unfold HO at h
  split at h
  case h_2 => cases h
  rename_i b
  split at h
  case h_2 => cases h
  rename_i As hb
  simp only [ae] at h
  obtain ⟨q, hq, h⟩ := h
  split at h
  case isFalse => cases h
  rename_i hc
  obtain ⟨c1, c3, c4⟩ := hc
  simp only [ae] at h
  obtain ⟨r, hr, h⟩ := h
  obtain ⟨e1, e2, e3⟩ := MP hs hb r1
  obtain ⟨kt, hu, hkt⟩ := JN hq
  have ek := GS c1 r2
  have hchk := LR (P := c.P) (w := E.w) hkt c3 false
  have hfind := OF (P := c.P) (w := E.w) E hkt c1 e3 hr
  cases r with
  | some r =>
    obtain ⟨j, vv⟩ := r
    simp only [aa, ag] at h
    obtain ⟨rfl, rfl⟩ := h
    obtain ⟨n, kk, h1, h2, h3⟩ := Hh As 0 j vv hr
    have hj : j = n := by omega
    subst hj
    have hkk := Li hkt h3
    have hpl := (e3 _ (bh h2)).2
    have hA := Ko (kvs' := As.set j (kv, vv)) hs hb e2 c4 (fun x hx => by
      rcases jc hx with h | h
      · exact e3 x h
      · subst h; exact ⟨c1, hpl⟩)
    refine ⟨_, hA, .inl ⟨.tuple #[Aj vv, .int .i64 j], ?_, Rm (JP _ hpl)⟩⟩
    have hst := PK (P := c.P) (w := E.w) c1
    have hes : (FG As)[j]? = some { key := Aj kv, val := Aj vv, born := j } := by rw [GZ, h2, hkk]; rfl
    have hset := Ml As j kv vv (fun e => { e with key := Aj kv }) (fun x hx => by rw [h2] at hx; cases hx; rfl)
    simp only [execOp, ho, Instr.mapEntry, e1, ek, Sem.run_bind, run_underlying hu, Result.andThen_ok, Go.MapKept.run_getObj_map e2, Sem.run_pure, hchk, hfind, ai, hes, er, hst, Go.MapKept.run_setObj_map _ e2]
    rw [hset]
    show _ = Result.ok _ ({ E.w with heap := E.w.heap.setIfInBounds (E.φ b) (.map (FG (As.set j (kv, vv))) (As.set j (kv, vv)).length) })
    rw [cp]
    rfl
  | none =>
    simp only [ae] at h
    obtain ⟨z, hz, h⟩ := h
    split at h
    case isFalse => cases h
    rename_i hzp
    simp only [aa, ag] at h
    obtain ⟨rfl, rfl⟩ := h
    obtain ⟨zx, hzr, hzo⟩ := PU hz E.w
    have ez : zx = Aj z := GS hzp (HD E zx z hzo)
    have hA := Ko (kvs' := As ++ [(kv, z)]) hs hb e2 c4 (fun x hx => by
      rcases au.1 hx with h | h
      · exact e3 x h
      · rw [bl.1 h]; exact ⟨c1, hzp⟩)
    refine ⟨_, hA, .inl ⟨.tuple #[zx, .int .i64 As.length], ?_, Rm (by rw [ez]; exact JP _ hzp)⟩⟩
    have hpush := Oo As kv z
    rw [← ez] at hpush
    simp only [execOp, ho, Instr.mapEntry, e1, ek, Sem.run_bind, run_underlying hu, Result.andThen_ok, Go.MapKept.run_getObj_map e2, Sem.run_pure, hchk, hfind, gg, hzr, Go.MapKept.run_setObj_map _ e2]
    rw [hpush]
    show _ = Result.ok _ ({ E.w with heap := E.w.heap.setIfInBounds (E.φ b) (.map (FG (As ++ [(kv, z)])) (As ++ [(kv, z)]).length) })
    rw [aq]
    rfl
theorem RX (hs : CK c E S a) {t : ao} {x st y : aw} {m sv v : V} {H' : A4} (ho : o.op = .entryStore t x st y) (hx : ev S.T x = some m) (hst : ev S.T st = some sv) (hy : ev S.T y = some v) (h : Jk c S.H m sv v = some H') : GD c E a o C7 H' := by
 have r1 := Al hs x _ hx
 have r2 := Al hs st _ hst
 have r3 := Al hs y _ hy
 unfold Jk at h
 split at h
 case h_2 => cases h
 rename_i b kd i
 split at h
 case h_2 => cases h
 rename_i As hb
 split at h
 case isFalse => cases h
 rename_i hc
 obtain ⟨c1, c2, c4⟩ := hc
 simp only [af] at h
 obtain ⟨e, he, rfl⟩ := h
 obtain ⟨e1, e2, e3⟩ := MP hs hb r1
 simp only [A6] at r2
 have ev' := GS c2 r3
 have hel := e3 _ (bh he)
 have hA := Ko (kvs' := As.set i.toNat (e.1, v)) hs hb e2 c4 (fun x hx => by
  rcases jc hx with h | h
  ·exact e3 x h
  ·subst h; exact ⟨hel.1, c2⟩)
 refine ⟨_, hA, .inr ⟨?_, K3 _⟩⟩
 have hlt := (al.1 he).1
 have hfi : (FG As).findIdx? (fun e => (e.born : Int) == i) = some i.toNat := by
  rw [Array.findIdx?_eq_some_iff_getElem]
  have hg : ∀ j (hj : j < (FG As).size), (FG As)[j].born = j := by
   intro j hj
   have h1 := GZ As j
   rw [gu hj] at h1
   have hj' : j < As.length := by rw [← Kv]; exact hj
   rw [aj hj'] at h1
   simp only [ai, aa] at h1
   rw [h1]
  refine ⟨by rw [Kv]; exact hlt, ?_, fun j hj => ?_⟩
  ·rw [hg]
   simp only [beq_iff_eq]
   omega
  ·rw [hg]
   simp only [beq_iff_eq]
   omega
 have hset := Ml As i.toNat e.1 v (fun e => { e with val := Aj v }) (fun x hx => by rw [he] at hx; cases hx; rfl)
 simp only [execOp, ho, Instr.entryStore, e1, r2, ev', asInt, asIntOf, Sem.run_bind, Result.andThen_ok, Go.MapKept.run_getObj_map e2, Sem.run_pure, hfi, Go.MapKept.run_setObj_map _ e2]
 rw [hset]
 show _ = Result.ok _ ({ E.w with heap := E.w.heap.setIfInBounds (E.φ b) (.map (FG (As.set i.toNat (e.1, v))) (As.set i.toNat (e.1, v)).length) })
 rw [cp]
end
end Go.Proofs.YtblodpbcinkehaaGreat.K
