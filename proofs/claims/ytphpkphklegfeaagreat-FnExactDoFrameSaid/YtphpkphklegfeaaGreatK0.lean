/-
 An interpreter of the Go code, proved sound, and the rules by which typed functions are shown to be what it computes. Part 1 of 4. No conditions.
-/
import Derived.Calls
import Derived.Orders
import Derived.Deep.Draws
import Derived.Laws.BytesString
import Derived.RowKit3
import Derived.Laws.Rows
import Derived.Laws.StructEq
import Derived.Laws.Append
import Derived.Laws.CopyRow
import Derived.Laws.Cells
import Derived.WideLaws
import Derived.Lib.MinMax
import Derived.Laws.Alloc2
import Derived.Laws.MakeOwn
import Derived.Laws.AppendOwn
import Derived.Great.BuildSlice
import Derived.MapKept
set_option linter.unusedVariables false
set_option linter.unusedSimpArgs false
namespace Go.Proofs.YtphpkphklegfeaaGreat.K
open Go renaming IntKind → fz, FuncId → eg, Value → cb, Operand → au, Program → bm, TypeId → ao, Oper → ch, ResultVar → ed, World → et
open List renaming range → bt, replicate → cq, all_eq_true → cj, mem_of_mem_take → mj, map_nil → ft, map_cons → dj, getElem?_cons_zero → fb, tail → ow, eq_nil_of_length_eq_zero → cp, getElem?_map → dz, getElem?_eq_getElem → ae, getElem?_eq_none → ba, length_take → dn, getElem?_take → di, getElem?_drop → eo, getElem?_range → fe, map_toArray → jd, getElem?_toArray → ib, foldlM_cons → nj, foldlM_nil → nv, getElem?_set → km, length_map → ee, length_range → iw, length_append → an, length_singleton → cn, take_of_length_le → fy, getElem?_append_left → aw, append_assoc → bf, getElem?_take_of_lt → ew, getElem?_append_right → bu, getElem?_of_mem → ml, getElem?_eq_some_iff → ak, getElem_mem → bg, size_toArray → jt, length_drop → im, replicate_succ → kz, flatten_cons → ng, take_left → ln, all_cons → gg, mem_cons_self → ck, mem_cons_of_mem → bw, mem_of_getElem? → bj, mem_or_eq_of_mem_set → jq, length_set → bp, mem_append → aq, mem_singleton → bh
open Nat renaming le_refl → al, le_trans → cu, not_lt → dw, lt_of_lt_of_le → cw, zero_le → dq, add_assoc → gj, lt_or_ge → bz, zero_add → gh, mul_le_mul_right → gb, le_of_lt → jv, ne_of_lt → oh, add_zero → ir, add_mul → iu, one_mul → oo, zero_mul → nw, lt_irrefl → jl, mul_add → ot, mul_one → ou
open Option.some renaming injEq → ab
open Option renaming bind_eq_some_iff → af, map_eq_some_iff → ag, map_some → aj, getD_some → ec, map_none → iq
open Bool renaming false_eq_true → bd, and_eq_true → ar, not_eq_true' → eb, or_eq_true → df, not_eq_false → nc
open _root_.Array renaming ext' → jc, getElem?_eq_some_iff → az, getElem?_push → ig, size_push → jx, getElem?_toList → eu, length_toList → kn, getElem?_eq_getElem → gf, range_zero' → mv, size_append → mw, toList_append → mn, ext_getElem? → mu
open Prod.mk renaming injEq → ah
inductive V where
 | int (k : fz) (n : Int)
 | bool (b : Bool)
 | str (s : ByteArray)
 | IJ
 | ptr (b off : Nat)
 | lp (lv : Nat) (cells : List V) (off : Nat)
 | lit (lv len : Nat) (cells : List V)
 | tl (len : Nat) (cells : List V)
 | snap (b len : Nat) (cells : List V)
 | sl (b off len : Nat)
 | agg (cells : List V)
 | GS (vs : List V)
 | fn (f : eg) (caps : List V)
 | FP
 | Ft (b : Nat)
 deriving Inhabited
inductive Bz where
 | cells (sz : Nat) (cs : List V)
 | C1 (lv n sz : Nat)
 | dead
 | mp (BP : List (V × V))
 deriving Inhabited
abbrev A6 := List Bz
abbrev Lk := List (List Nat)
inductive Ui where | Qp | exact | share
 deriving DecidableEq
structure Bp where
 DS : eg → List Ui
 QW : eg → Bool
 grow : eg → Bool
 H4 : eg → Bool
def V.cellsOf : V → List V
 | .agg cs => cs
 | v => [v]
def V.Bm : V → Bool
 | .agg _ | .GS _ => false
 | _ => true
def Ck : V := .GS []
def Du : cb → Option V
 | .int k n => some (.int k n)
 | .bool b => some (.bool b)
 | .string s => some (.str s)
 | .pointer none => some .IJ
 | .slice none 0 0 => some (.tl 0 [])
 | .nilFunc => some .FP
 | _ => none
def MD : List cb → Option (List V)
 | [] => some []
 | v :: vs => (Du v).bind fun x => (MD vs).map (x :: ·)
def Ea : cb → Option V
 | .agg cs => (MD cs.toList).map .agg
 | v => Du v
structure St where
 T : Nat → V
 H : A6
def St.set (S : St) (d : Nat) (v : V) : St := { S with T := fun i => if i = d then v else S.T i }
def St.put (S : St) (d : Option Nat) (v : V) : St := match d with | some d => S.set d v | none => S
def ev (T : Nat → V) : au → Option V
 | .tmp t => some (T t)
 | .const v => Ea v
 | .func f => some (.fn f [])
 | .global _ => none
section types
variable (P : bm)
def B8 (t : ao) : Option Nat := (P.info? t).map (·.size)
def CH (t : ao) : Option Nat := (P.info? t).map (·.bytes)
def Cz (t : ao) : Option Bool :=
 match P.underlying t with
 | some (.struct _) | some (.array _ _) => some true
 | some _ => some false
 | none => none
def BJ (t : ao) : Option (List V) := ((P.info? t).bind (·.zero)).bind fun z => (Ea z).map V.cellsOf
def B6 (t : ao) : Option ao := match P.underlying t with | some (.slice e) => some e | _ => none
def AR (s : ao) (f : Nat) : Option Nat :=
 match P.underlying s with
 | some (.struct fs) => match fs[f]? with
  | some g => match B8 P g.type with
   | some (_ + 1) => some g.offset
   | _ => none
  | none => none
 | _ => none
def FT (t : ao) : Option (List (Nat × Nat)) :=
 match P.underlying t with
 | some (.struct fs) => fs.toList.mapM fun f => (P.info? f.type).map fun i => (f.offset, i.size)
 | _ => none
def rU (e : ao) : Bool := match P.underlying e with | some (.int .u8) => true | _ => false
inductive Sc where | b | i | s
 deriving DecidableEq
def FC (t : ao) : Option Sc :=
 match P.underlying t with
 | some .bool => some .b
 | some (.int _) => some .i
 | some .string => some .s
 | _ => none
def Eh (n : Nat) : List Field → Option (List Sc)
 | [] => some []
 | f :: fs => if f.name ≠ "_" ∧ f.offset = n ∧ B8 P f.type = some 1 then (FC P f.type).bind fun k => (Eh (n + 1) fs).map (k :: ·) else none
def JP (t : ao) : Option (List Sc) :=
 match P.underlying t with
 | some (.struct fs) => if !P.stoodInHeld t && !P.eqGuardType P.depth t then Eh P 0 fs.toList else none
 | _ => none
end types
def MV (acc : ByteArray) : List V → Option ByteArray
 | [] => some acc
 | .int .u8 n :: cs => MV (acc.push (UInt8.ofNat n.toNat)) cs
 | _ => none
def Bo (cs : List V) (off : Nat) (xs : List V) : List V := cs.take off ++ xs ++ cs.drop (off + xs.length)
def FY : Sc → V → V → Option Bool
 | .i, .int k a, .int k' b => if k = k' then some (a == b) else none
 | .b, .bool a, .bool b => some (a == b)
 | .s, .str a, .str b => some (a.toList == b.toList)
 | _, _, _ => none
def DD : List Sc → List V → List V → Option Bool
 | [], _, _ => some true
 | k :: ks, x :: xs, y :: ys => (FY k x y).bind fun b => if b then DD ks xs ys else some false
 | _, _, _ => none
def We (op : BinOp) (k : fz) (a b : Int) : Option V :=
 match op with
 | .add => some (.int k (k.wrap (a + b)))
 | .sub => some (.int k (k.wrap (a - b)))
 | .mul => some (.int k (k.wrap (a * b)))
 | .quo => if b = 0 then none else some (.int k (k.wrap (a.tdiv b)))
 | .rem => if b = 0 then none else some (.int k (a.tmod b))
 | .xor => some (.int k (k.wrap (BitVec.ofInt k.bits a ^^^ BitVec.ofInt k.bits b).toNat))
 | .eql => some (.bool (a == b))
 | .neq => some (.bool (a != b))
 | .lss => some (.bool (decide (a < b)))
 | .leq => some (.bool (decide (a ≤ b)))
 | .gtr => some (.bool (decide (a > b)))
 | .geq => some (.bool (decide (a ≥ b)))
 | _ => none
def Qe (P : bm) (op : BinOp) (t : ao) (x y : V) : Option V :=
 match x, y with
 | .int k a, .int k' b => if k = k' then We op k a b else none
 | .bool a, .bool b =>
  match op, P.underlying t with
  | .eql, some .bool => some (.bool (a == b))
  | .neq, some .bool => some (.bool (!(a == b)))
  | _, _ => none
 | .str a, .str b =>
  match op with
  | .eql => some (.bool (a.toList == b.toList))
  | .neq => some (.bool !(a.toList == b.toList))
  | .add => if a.size + b.size ≤ 1099511627776 then some (.str (a ++ b)) else none
  | _ => none
 | .agg xs, .agg ys =>
  (JP P t).bind fun ks =>
   match op with
   | .eql => (DD ks xs ys).map .bool
   | .neq => (DD ks xs ys).map fun b => .bool !b
   | _ => none
 | _, _ => none
def pN (op : UnOp) (x : V) : Option V :=
 match op, x with
 | .not, .bool b => some (.bool !b)
 | .neg, .int k n => some (.int k (k.wrap (0 - n)))
 | _, _ => none
def Ct : V → Option Nat
 | .lit _ n _ | .tl n _ | .snap _ n _ | .sl _ _ n => some n
 | _ => none
def Gb (H : A6) (sz : Nat) : V → Option (List V)
 | .lit _ _ cs | .tl _ cs | .snap _ _ cs => some cs
 | .sl b off len => match H[b]? with
  | some (.cells z cs) => if z = sz ∧ off + len * sz ≤ cs.length then some ((cs.drop off).take (len * sz)) else none
  | _ => none
 | _ => none
def BF (P : bm) (t : ao) (cs : List V) (off : Nat) : Option V :=
 match Cz P t with
 | some true => (B8 P t).bind fun n => if off + n ≤ cs.length then some (.agg ((cs.drop off).take n)) else none
 | some false => cs[off]?
 | none => none
def FL (P : bm) (t : ao) (H : A6) : V → Option V
 | .ptr b off => match H[b]? with
  | some (.cells _ cs) => BF P t cs off
  | _ => none
 | .lp _ cs off => BF P t cs off
 | _ => none
def clean (d : Nat) : V → Bool
 | .int .. | .bool _ | .str _ | .IJ | .FP => true
 | .lit lv _ cs => (lv == 0 || decide (lv < d)) && cleanL cs
 | .agg cs => cleanL cs
 | .GS cs => cleanL cs
 | _ => false
where
 cleanL : List V → Bool
  | [] => true
  | v :: vs => clean d v && cleanL vs
def BC (lo : Nat) : Nat → A6 → V → Option (V × A6)
 | 0, _, _ => none
 | k + 1, H, v =>
  match v with
  | .int .. | .bool _ | .str _ | .IJ | .FP => some (v, H)
  | .lit .. => if clean 1 v then some (v, H) else none
  | .tl n cs => (giveL (BC lo k) H cs).map fun r => (.lit 0 n r.1, r.2)
  | .snap b n cs => match H[b]? with
   | some (.C1 _ m _) => if b < lo ∨ m ≠ n then none else (giveL (BC lo k) (H.set b .dead) cs).map fun r => (.lit 0 n r.1, r.2)
   | _ => none
  | .sl b off n => match H[b]? with
   | some (.cells sz cs) => if b < lo ∨ cs.length < off + n * sz then none else
     (giveL (BC lo k) (H.set b .dead) ((cs.drop off).take (n * sz))).map fun r => (.lit 0 n r.1, r.2)
   | _ => none
  | .agg cs => (giveL (BC lo k) H cs).map fun r => (.agg r.1, r.2)
  | _ => none
where
 giveL (f : A6 → V → Option (V × A6)) : A6 → List V → Option (List V × A6)
  | H, [] => some ([], H)
  | H, v :: vs => (f H v).bind fun r => (giveL f r.2 vs).map fun q => (r.1 :: q.1, q.2)
def Bc (d : Nat) : V → Bool
 | .int .. | .bool _ | .str _ | .IJ | .FP | .ptr .. | .sl .. | .Ft _ => true
 | .lit lv _ cs => (lv == 0 || decide (lv < d)) && cleanGL cs
 | .agg cs => cleanGL cs
 | .GS cs => cleanGL cs
 | .tl _ cs => cleanGL cs
 | .snap _ _ cs => cleanGL cs
 | .fn _ cs => cleanGL cs
 | _ => false
where
 cleanGL : List V → Bool
  | [] => true
  | v :: vs => Bc d v && cleanGL vs
def Ax (lv : Nat) (H : A6) : Nat → V → Option (V × List Nat)
 | 0, _ => none
 | k + 1, v =>
  match v with
  | .int .. | .bool _ | .str _ | .IJ | .FP | .ptr .. | .Ft .. | .lp .. | .lit .. | .fn .. => some (v, [])
  | .tl n cs => (lendL (Ax lv H k) cs).map fun r => (.lit lv n r.1, r.2)
  | .snap _ n cs => (lendL (Ax lv H k) cs).map fun r => (.lit lv n r.1, r.2)
  | .sl b off n => match H[b]? with
   | some (.cells sz cs) => if cs.length < off + n * sz then none else
     (lendL (Ax lv H k) ((cs.drop off).take (n * sz))).map fun r => (.lit lv n r.1, b :: r.2)
   | _ => none
  | .agg cs => (lendL (Ax lv H k) cs).map fun r => (.agg r.1, r.2)
  | .GS _ => none
where
 lendL (f : V → Option (V × List Nat)) : List V → Option (List V × List Nat)
  | [] => some ([], [])
  | v :: vs => (f v).bind fun r => (lendL f vs).map fun q => (r.1 :: q.1, r.2 ++ q.2)
def BL (th : Bool) (lo d : Nat) : Nat → A6 × List Bz → V → Option (V × A6 × List Bz)
 | 0, _, _ => none
 | k + 1, X, v =>
  match v with
  | .int .. | .bool _ | .str _ | .IJ | .FP => some (v, X)
  | .ptr b _ => if b < lo then some (v, X) else none
  | .Ft b => if b < lo then some (v, X) else none
  | .lit .. => if clean d v then some (v, X) else none
  | .tl n cs => if n = 0 then some (if th then .tl 0 [] else .lit 0 0 [], X) else (resL (BL th lo d k) X cs).map fun r => (.lit 0 n r.1, r.2)
  | .snap b n cs => match X.1[b]? with
   | some (.C1 l m sz) => if b < lo ∨ m ≠ n ∨ l < d then none else
     (resL (BL th lo d k) (X.1.set b .dead, X.2) cs).bind fun r =>
      if th then if cs.length = n * sz then some (.sl (lo + r.2.2.length) 0 n, r.2.1, r.2.2 ++ [.cells sz r.1]) else none else some (.lit 0 n r.1, r.2)
   | _ => none
  | .sl b off n => if b < lo then some (v, X) else match X.1[b]? with
   | some (.cells sz cs) => if cs.length < off + n * sz then none else
     (resL (BL th lo d k) (X.1.set b .dead, X.2) ((cs.drop off).take (n * sz))).bind fun r =>
      if th then if off = 0 ∧ n * sz = cs.length then some (.sl (lo + r.2.2.length) 0 n, r.2.1, r.2.2 ++ [.cells sz r.1]) else none else some (.lit 0 n r.1, r.2)
   | _ => none
  | .agg cs => (resL (BL th lo d k) X cs).map fun r => (.agg r.1, r.2)
  | .GS cs => (resL (BL th lo d k) X cs).map fun r => (.GS r.1, r.2)
  | _ => none
where
 resL (f : A6 × List Bz → V → Option (V × A6 × List Bz)) : A6 × List Bz → List V → Option (List V × A6 × List Bz)
  | X, [] => some ([], X)
  | X, v :: vs => (f X v).bind fun r => (resL f r.2 vs).map fun q => (r.1 :: q.1, q.2)
def Cq : Nat := 8
structure Cx where
 P : bm
 hints : Bp
 fn : eg
 ntmps : Nat
 base : Nat
 lk : Lk
 still : Bool := false
 calm : Bool := false
 Γ : eg → List V → A6 → Lk → Option (V × A6)
def Cx.d (c : Cx) : Nat := c.lk.length
def AX (lk : Lk) (b : Nat) : Bool := lk.all fun l => !l.contains b
def Cx.BV (c : Cx) (b : Nat) : Bool := decide (c.base ≤ b) || AX c.lk b
def LO (T : Nat → V) : List au → Option (List V)
 | [] => some []
 | o :: os => (ev T o).bind fun v => (LO T os).map (v :: ·)
def H5 (c : Cx) (m : Ui) (H : A6) (v : V) : Option (V × List Nat × A6) :=
 match m with
 | .Qp => (Ax (c.d + 1) H Cq v).map fun r => (r.1, r.2, H)
 | .exact => some (v, [], H)
 | .share => if c.calm then none else (BC c.base Cq H v).map fun r => (r.1, [], r.2)
def Cx.CF (c : Cx) (g : eg) (L : List Nat) (H : A6) : List Nat :=
 if c.calm then L ++ bt H.length else if c.hints.grow g && !c.hints.grow c.fn then L ++ bt c.base else L
def An (c : Cx) : List Ui → A6 → List V → Option (List V × List Nat × A6)
 | _, H, [] => some ([], [], H)
 | ms, H, v :: vs =>
  (H5 c (ms.headD .Qp) H v).bind fun r => (An c ms.tail r.2.2 vs).map fun q => (r.1 :: q.1, r.2.1 ++ q.2.1, q.2.2)
def Gc (c : Cx) (H : A6) (v : V) : Option (V × A6) := if c.hints.H4 c.fn then some (v, H) else if c.still then (if clean 1 v then some (v, H) else none) else BC c.base Cq H v
def G7 (c : Cx) (t : ao) (H : A6) (a x : V) : Option A6 :=
 match a with
 | .ptr b off =>
  if c.BV b then
   (if b < c.base then (if c.hints.grow c.fn then if Bc 1 x then some (x, H) else none else BC c.base Cq H x) else some (x, H)).bind fun r =>
   match r.2[b]? with
   | some (.cells sz cs) =>
    if B8 c.P t = some r.1.cellsOf.length ∧ off + r.1.cellsOf.length ≤ cs.length ∧ r.1.cellsOf.all V.Bm = true then
     some (r.2.set b (.cells sz (Bo cs off r.1.cellsOf)))
    else none
   | _ => none
  else none
 | _ => none
def Dz (c : Cx) (st xt : ao) (H : A6) (s x : V) : Option (V × A6) :=
 (B6 c.P st).bind fun e => (B8 c.P e).bind fun sz => (CH c.P e).bind fun by_ => (BJ c.P e).bind fun z =>
 if (B6 c.P xt).isSome ∧ sz ≠ 0 ∧ z.length = sz then
  (Ct x).bind fun n => (Gb H sz x).bind fun xs =>
  if xs.length = n * sz ∧ xs.all V.Bm = true then
   match s with
   | .tl m cs =>
    if n = 0 then some (s, H) else
    if cs.length = m * sz ∧ (m + n) * (by_ + 1) ≤ 70368744177664 then some (.snap H.length (m + n) (cs ++ xs), H ++ [.C1 c.d (m + n) sz]) else none
   | .snap b m cs =>
    if n = 0 then some (s, H) else
    match H[b]? with
    | some (.C1 l m' sz') =>
     if cs.length = m * sz ∧ (m + n) * (by_ + 1) ≤ 70368744177664 ∧ m' = m ∧ sz' = sz ∧ c.BV b = true then
      some (.snap b (m + n) (cs ++ xs), H.set b (.C1 l (m + n) sz)) else none
    | _ => none
   | _ => none
  else none
 else none
def Va : V → V
 | .tl 0 [] => .lit 0 0 []
 | v => v
def I3 (kp : Bool) (v : V) : V := if kp then v else Va v
def Jz (P : bm) (kp : Bool) (t : ao) (H : A6) (n m : V) : Option (V × A6) :=
 match n, m with
 | .int .i64 a, .int .i64 b =>
  (B6 P t).bind fun e => (B8 P e).bind fun sz => (CH P e).bind fun by_ => (BJ P e).bind fun z =>
  if a = b ∧ 0 ≤ a ∧ a * (by_ + 1) ≤ 70368744177664 ∧ z.length = sz ∧ sz ≠ 0 then
   some (.sl H.length 0 a.toNat, H ++ [.cells sz (cq a.toNat (z.map (I3 kp))).flatten])
  else none
 | _, _ => none
def Dv (place : Nat → Option (Nat × Nat)) (cells : List V) : List (Nat × V) → Option (List V)
 | [] => some cells
 | (i, v) :: rest => match place i with
  | none => none
  | some (off, sz) => if v.cellsOf.length ≠ sz ∨ cells.length < off + sz ∨ v.cellsOf.all V.Bm = false then none else Dv place (Bo cells off v.cellsOf) rest
def CZ (c : Cx) : A6 → List (Nat × V) → Option (List (Nat × V) × A6)
 | H, [] => some ([], H)
 | H, (i, v) :: r => (Gc c H v).bind fun x => (CZ c x.2 r).map fun q => ((i, x.1) :: q.1, q.2)
def S5 (T : Nat → V) : List (Nat × au) → Option (List (Nat × V))
 | [] => some []
 | (i, o) :: os => (ev T o).bind fun v => (S5 T os).map ((i, v) :: ·)
def Bb : V → Bool
 | .int .. | .bool _ | .str _ => true
 | .agg cs => cs.all fun | .int .. | .bool _ | .str _ => true | _ => false
 | _ => false
def D3 : V → cb
 | .int k n => .int k n
 | .bool b => .bool b
 | .str s => .string s
 | _ => .pointer none
def B7 : V → cb
 | .agg cs => .agg (cs.map D3).toArray
 | v => D3 v
def GB (BP : List (V × V)) : Array MapEntry := (BP.zipIdx.map fun x => { key := B7 x.1.1, val := B7 x.1.2, born := x.2 }).toArray
inductive KT where | one (q : Sc) | many (ks : List Sc)
 deriving DecidableEq
def Qo (P : bm) (k : ao) : Option KT := match FC P k with
 | some q => some (.one q)
 | none => (JP P k).bind fun ks => if ks.all (fun q => decide (q ≠ .s)) then some (.many ks) else none
def ET : KT → V → V → Option Bool
 | .one .s, .str a, .str b => some (a == b)
 | .one .s, _, _ => none
 | .one q, x, y => FY q x y
 | .many ks, .agg xs, .agg ys => if xs.length = ks.length ∧ ys.length = ks.length then DD ks xs ys else none
 | _, _, _ => none
def FK (kt : KT) (k : V) : List (V × V) → Nat → Option (Option (Nat × V))
 | [], _ => some none
 | e :: es, i => (ET kt k e.1).bind fun b => if b then some (some (i, e.2)) else FK kt k es (i + 1)
def Qr (P : bm) (t : ao) : Option (KT × ao) := match P.underlying t with
 | some (.map k e) => (Qo P k).map fun kt => (kt, e)
 | _ => none
def Qb (P : bm) (e : ao) : Option V := ((P.info? e).bind (·.zero)).bind Ea
def JR (P : bm) (t : ao) (H : A6) (x k : V) (ok : Bool) : Option V :=
 match x with
 | .Ft b => match H[b]? with
  | some (.mp BP) => (Qr P t).bind fun q => if Bb k ∧ ET q.1 k k = some true then (FK q.1 k BP 0).bind fun
    | some (_, v) => some (if ok then .GS [v, .bool true] else v)
    | none => (Qb P q.2).map fun z => if ok then .GS [z, .bool false] else z
   else none
  | _ => none
 | _ => none
def W4 (c : Cx) (t : ao) (H : A6) (x k v : V) : Option A6 :=
 match x with
 | .Ft b => match H[b]? with
  | some (.mp BP) => (Qr c.P t).bind fun q => if Bb k ∧ Bb v ∧ ET q.1 k k = some true ∧ c.BV b = true then (FK q.1 k BP 0).map fun
    | some (i, _) => H.set b (.mp (BP.set i (k, v)))
    | none => H.set b (.mp (BP ++ [(k, v)]))
   else none
  | _ => none
 | _ => none
def Jj (c : Cx) (t : ao) (H : A6) (x k : V) : Option (V × A6) :=
 match x with
 | .Ft b => match H[b]? with
  | some (.mp BP) => (Qr c.P t).bind fun q => if Bb k ∧ ET q.1 k k = some true ∧ c.BV b = true then (FK q.1 k BP 0).bind fun
    | some (i, v) => some (.GS [v, .int .i64 i], H.set b (.mp (BP.set i (k, v))))
    | none => (Qb c.P q.2).bind fun z => if Bb z then some (.GS [z, .int .i64 BP.length], H.set b (.mp (BP ++ [(k, z)]))) else none
   else none
  | _ => none
 | _ => none
def Ol (c : Cx) (H : A6) (x stamp v : V) : Option A6 :=
 match x, stamp with
 | .Ft b, .int _ i => match H[b]? with
  | some (.mp BP) => if 0 ≤ i ∧ Bb v ∧ c.BV b = true then (BP[i.toNat]?).map fun e => H.set b (.mp (BP.set i.toNat (e.1, v))) else none
  | _ => none
 | _, _ => none
def D2 (T : Nat → V) (n : Nat) : Option au → Option Nat
 | none => some n
 | some o => match ev T o with
  | some (.int _ i) => if 0 ≤ i then some i.toNat else none
  | _ => none
def Cb (c : Cx) (o : ch) (S : St) : Option (V × A6) :=
 let q (x : Option V) : Option (V × A6) := x.map fun v => (v, S.H)
 match o.op with
 | .move x | .assign x => q (ev S.T x)
 | .pick cnd a b => match ev S.T cnd with
  | some (.bool true) => q (ev S.T a)
  | some (.bool false) => q (ev S.T b)
  | _ => none
 | .alloc t => (B8 c.P t).bind fun sz => (BJ c.P t).bind fun z => some (.ptr S.H.length 0, S.H ++ [.cells sz z])
 | .box t x => (B8 c.P t).bind fun sz => (ev S.T x).bind fun v => if v.cellsOf.all V.Bm then some (.ptr S.H.length 0, S.H ++ [.cells sz v.cellsOf]) else none
 | .build t parts => (S5 S.T parts.toList).bind fun ps => (BJ c.P t).bind fun z => (FT c.P t).bind fun pl =>
   q ((Dv (fun i => pl[i]?) z ps).map .agg)
 | .buildSlice t n parts => (S5 S.T parts.toList).bind fun ps => (CZ c S.H ps).bind fun r =>
   (B6 c.P t).bind fun e => (B8 c.P e).bind fun sz => (BJ c.P e).bind fun z =>
   if z.length = sz ∧ sz ≠ 0 ∧ n * sz ≤ 1048576 then
    (Dv (fun i => some (i * sz, sz)) (cq n z).flatten r.1).map fun cs => (.tl n cs, r.2)
   else none
 | .load t a => (ev S.T a).bind fun v => q (FL c.P t S.H v)
 | .store t a x => (ev S.T a).bind fun p => (ev S.T x).bind fun v => (G7 c t S.H p v).map fun H => (Ck, H)
 | .nilCheck x => match ev S.T x with
  | some (.ptr b off) => q (some (.ptr b off))
  | some (.lp lv cs off) => q (some (.lp lv cs off))
  | _ => none
 | .binOp op t x y _ => (ev S.T x).bind fun a => (ev S.T y).bind fun b => q (Qe c.P op t a b)
 | .unOp op _ x => (ev S.T x).bind fun a => q (pN op a)
 | .convert src dst x => match c.P.underlying src, c.P.underlying dst, ev S.T x with
  | some (.int _), some (.int k), some (.int _ n) => q (some (.int k (k.wrap n)))
  | some (.slice e), some .string, some (.tl n cs) => if n = cs.length ∧ rU c.P e = true then q ((MV .empty cs).map .str) else none
  | _, _, _ => none
 | .makeFunc fn first caps => match fn, first.toList with
  | .func f, [] => (LO S.T caps.toList).bind fun vs => q (some (.fn f vs))
  | _, _ => none
 | .makeSlice t n m => (ev S.T n).bind fun a => (ev S.T m).bind fun b => Jz c.P (c.hints.H4 c.fn) t S.H a b
 | .slice t x lo hi mx => match mx with
  | none => (ev S.T x).bind fun v => (Ct v).bind fun n => (D2 S.T 0 lo).bind fun l => (D2 S.T n hi).bind fun h =>
   (B6 c.P t).bind fun e => (B8 c.P e).bind fun sz =>
   if l ≤ h ∧ h ≤ n then
    match v with
    | .lit lv _ cs => q (some (.lit lv (h - l) ((cs.drop (l * sz)).take ((h - l) * sz))))
    | .tl _ cs => q (some (.lit 0 (h - l) ((cs.drop (l * sz)).take ((h - l) * sz))))
    | .snap _ _ cs => q (some (.lit c.d (h - l) ((cs.drop (l * sz)).take ((h - l) * sz))))
    | .sl b off _ => q (some (if l = h then .lit 0 0 [] else .sl b (off + l * sz) (h - l)))
    | _ => none
   else none
  | some mx => match lo, hi with
   | none, some hi => (ev S.T x).bind fun v => (Ct v).bind fun _ => (B6 c.P t).bind fun e => (B8 c.P e).bind fun _ =>
    match ev S.T hi, ev S.T mx with
    | some (.int _ i), some (.int _ j) => if i = 0 ∧ j = 0 then q (some (.tl 0 [])) else none
    | _, _ => none
   | _, _ => none
 | .fieldAddr s x f => (AR c.P s f).bind fun off => match ev S.T x with
  | some (.ptr b o) => q (some (.ptr b (o + off)))
  | some (.lp lv cs o) => q (some (.lp lv cs (o + off)))
  | _ => none
 | .field s x f => (AR c.P s f).bind fun off => match c.P.underlying s with
  | some (.struct fs) => match fs[f]?, ev S.T x with
   | some g, some (.agg cs) => q (BF c.P g.type cs off)
   | _, _ => none
  | _ => none
 | .indexAddr t x i => (B6 c.P t).bind fun e => (B8 c.P e).bind fun sz => (ev S.T x).bind fun v => match ev S.T i with
  | some (.int _ n) => (Ct v).bind fun len => if 0 ≤ n ∧ n < len then
    match v with
    | .lit lv _ cs => q (some (.lp lv cs (n.toNat * sz)))
    | .tl _ cs => q (some (.lp 0 cs (n.toNat * sz)))
    | .snap _ _ cs => q (some (.lp c.d cs (n.toNat * sz)))
    | .sl b off _ => q (some (.ptr b (off + n.toNat * sz)))
    | _ => none
   else none
  | _ => none
 | .index t x i => match c.P.underlying t, ev S.T x, ev S.T i with
  | some .string, some (.str s), some (.int _ n) => if 0 ≤ n then q ((s[n.toNat]?).map fun b => .int .u8 b.toNat) else none
  | _, _, _ => none
 | .extract x i => match ev S.T x with
  | some (.GS vs) => q vs[i]?
  | _ => none
 | .makeMap _ none => some (.Ft S.H.length, S.H ++ [.mp []])
 | .lookup t x k ok => (ev S.T x).bind fun m => (ev S.T k).bind fun kv => q (JR c.P t S.H m kv ok)
 | .mapUpdate t x k v => (ev S.T x).bind fun m => (ev S.T k).bind fun kv => (ev S.T v).bind fun w => (W4 c t S.H m kv w).map fun H => (Ck, H)
 | .mapEntry t x k => (ev S.T x).bind fun m => (ev S.T k).bind fun kv => Jj c t S.H m kv
 | .entryStore _ x st v => (ev S.T x).bind fun m => (ev S.T st).bind fun s => (ev S.T v).bind fun w => (Ol c S.H m s w).map fun H => (Ck, H)
 | .call k => match k.callee with
  | .builtin .len => match k.args.toList, k.argTypes[0]? with
   | [x], some t => match c.P.underlying t, ev S.T x with
    | some .string, some (.str s) => q (some (.int .i64 s.size))
    | some (.slice _), some v => (Ct v).bind fun n => q (some (.int .i64 n))
    | _, _ => none
   | _, _ => none
  | .builtin .append => match k.args.toList, k.argTypes.toList with
   | [s, x], [st, xt] => (ev S.T s).bind fun a => (ev S.T x).bind fun b => Dz c st xt S.H a b
   | _, _ => none
  | .builtin .min => match k.args.toList with
   | [x, y] => match ev S.T x, ev S.T y with
    | some (.int k a), some (.int _ b) => q (some (.int k (if b < a then b else a)))
    | _, _ => none
   | _ => none
  | .builtin .max => match k.args.toList with
   | [x, y] => match ev S.T x, ev S.T y with
    | some (.int k a), some (.int _ b) => q (some (.int k (if b > a then b else a)))
    | _, _ => none
   | _ => none
  | .value f => match ev S.T f with
   | some (.fn g caps) => (LO S.T k.args.toList).bind fun vs =>
    (An c (c.hints.DS g) S.H (vs ++ caps)).bind fun r =>
     c.Γ g r.1 r.2.2 (c.lk ++ [c.CF g r.2.1 r.2.2])
   | _ => none
  | _ => none
 | _ => none
def JS (c : Cx) (o : ch) (S : St) : Option St :=
 match o.dst with
 | none => (Cb c o S).map fun r => { S with H := r.2 }
 | some d => if d < c.ntmps then (Cb c o S).map fun r => { S with H := r.2 }.set d r.1 else none
def D1 (ops : Array ch) (T : Nat → V) (o : ch) : Option Bool :=
 match o.guard with
 | none => some true
 | some (j, want) => match (ops[j]?).bind (·.dst) with
  | some t => match T t with
   | .bool b => some (b == want)
   | .GS [] => some false
   | _ => none
  | none => none
def Bx (c : Cx) (ops : Array ch) (o : ch) (S : St) : Option St :=
 (D1 ops S.T o).bind fun b =>
  if b then JS c o S else match o.dst with | some d => if d < c.ntmps then some (S.set d Ck) else none | none => some S
def De (cf : Nat → Cx) (ops : Array ch) : List Nat → St → Option St
 | [], S => some S
 | i :: rest, S => match ops[i]? with
  | none => none
  | some o => (Bx (cf i) ops o S).bind fun S' => De cf ops rest S'
def J8 (o : ch) : Bool :=
 match o.op with
 | .move _ | .assign _ | .pick .. | .build .. | .buildSlice .. | .nilCheck _ | .binOp .. | .unOp .. | .convert .. | .makeFunc .. | .slice .. | .fieldAddr .. | .field .. | .indexAddr .. | .index .. | .extract .. => true
 | .call k => match k.callee with
  | .builtin .len | .builtin .min | .builtin .max => true
  | _ => false
 | _ => false
def HR (o : ch) : Bool := match o.op with | .load .. | .lookup .. => true | _ => false
def Dt (o : ch) : Bool :=
 match o.op with
 | .alloc _ | .box .. | .makeSlice .. | .makeMap .. => true
 | .call k => match k.callee with
  | .builtin .append | .value _ => true
  | _ => false
 | _ => false
def IE (ops : Array ch) (i : Nat) : List Nat := match ops[i]? with | some o => (o.after.toList.filter (Region.binds .any)).map (·.on) | none => []
def Fq (ops : Array ch) : List (List Nat) :=
 (bt ops.size).foldl (fun tab i => tab ++ [((IE ops i) ++ (IE ops i).flatMap fun e => tab.getD e []).eraseDups]) []
def a8 (ops : Array ch) (tab : List (List Nat)) (done : List Nat) (left : List Nat) : Option Nat :=
 let ready := left.filter fun i => (IE ops i).all fun e => done.contains e
 match ready.find? (fun i => match ops[i]? with | some o => J8 o || HR o | none => false) with
 | some i => some i
 | none => ready.head?
def gS (ops : Array ch) (tab : List (List Nat)) : Nat → List Nat → List Nat → List Nat
 | 0, done, _ => done.reverse
 | n + 1, done, left => match a8 ops tab done left with
  | some i => gS ops tab n (i :: done) (left.filter (· != i))
  | none => done.reverse
def Qv (ops : Array ch) : List Nat := gS ops (Fq ops) ops.size [] (bt ops.size)
def Pw (x y : ch) : Bool :=
 match x.op, y.op with
 | .lookup t (.tmp a) (.tmp k) false, .mapEntry t' (.tmp a') (.tmp k') => t == t' && a == a' && k == k'
 | _, _ => false
def IH {α : Type} (x : Option α) : Bool := match x with | none => true | some _ => false
def JK (ops : Array ch) (x y : ch) : Bool :=
 Oper.apart ops x y && Oper.apart ops y x && (J8 x || J8 y || (HR x && (HR y || Dt y)) || (Pw x y && IH x.guard && IH y.guard))
def Lz (o : ch) : Bool := match o.op with | .alloc _ | .makeSlice .. => true | _ => false
def NC (ops : Array ch) (tab : List (List Nat)) (j m : Nat) : Bool :=
 match ops[j]?, ops[m]? with
 | some x, some y => Lz y && IH y.guard && !IH y.dst && Oper.apart ops x y && Oper.apart ops y x && (bt ops.size).all fun k => !(tab.getD k []).contains m || (tab.getD k []).contains j
 | _, _ => false
def Kn (ops : Array ch) (tab : List (List Nat)) (i : Nat) : Bool :=
 (bt ops.size).any fun j => (match ops[j]? with | some o => HR o | none => false) && !(tab.getD i []).contains j && !(tab.getD j []).contains i
def Ek (o : ch) : Bool :=
 match o.op with
 | .call ⟨.value _, _, _⟩ => true
 | _ => false
def Mt (ops : Array ch) (tab : List (List Nat)) (j a : Nat) : Bool := (bt ops.size).all fun k => (tab.getD j []).contains k || match ops[k]? with | some o => o.dst != some a | none => true
def LB (ops : Array ch) (tab : List (List Nat)) (j i : Nat) : Option (Nat × Nat) :=
 match ops[j]?, ops[i]? with
 | some x, some y => match x.op, y.op with
  | .load _ (.tmp a), .store _ (.tmp b) _ => if IH x.guard && IH y.guard && Oper.apart ops x y && Oper.apart ops y x && Mt ops tab j a && Mt ops tab i b && x.dst != some a && IH y.dst then some (a, b) else none
  | _, _ => none
 | _, _ => none
def En (base : Nat) : V → V → Bool
 | .ptr p _, .ptr q _ => p != q && decide (base ≤ q)
 | .lp .., .ptr q _ => decide (base ≤ q)
 | _, _ => false
def Zg (ops : Array ch) (tab : List (List Nat)) : List (Nat × Nat) :=
 (bt ops.size).flatMap fun i => (bt ops.size).filterMap fun j => if (tab.getD i []).contains j || (tab.getD j []).contains i then none else LB ops tab j i
def LG (ops : Array ch) (base : Nat) (T : Nat → V) : Bool := (Zg ops (Fq ops)).all fun p => En base (T p.1) (T p.2)
def Cr (ops : Array ch) (tab : List (List Nat)) : List Nat → Bool
 | [] => true
 | j :: l => (l.all fun i => i != j && !(tab.getD j []).contains i && ((tab.getD i []).contains j || NC ops tab j i || (LB ops tab j i).isSome || match ops[j]?, ops[i]? with | some x, some y => JK ops x y && (!HR x || !Ek y || Kn ops tab i) | _, _ => false)) && Cr ops tab l
def MX (ops : Array ch) : Bool :=
 let tab := Fq ops
 let ord := Qv ops
 (bt ops.size).all (ord.contains ·) && ord.all (· < ops.size) &&
  (bt ops.size).all (fun i => (IE ops i).all (· < i) && (tab.getD i []).all fun j => (IE ops i).any fun e => e == j || (tab.getD e []).contains j) && Cr ops tab ord
def FX (c : Cx) (ops : Array ch) (i : Nat) : Cx := { c with still := true, calm := Kn ops (Fq ops) i }
inductive X where | normal | exit (id : Nat) | ret
 deriving DecidableEq
def FE (f : St → Option (X × St)) : Nat → St → Option (X × St)
 | 0, _ => none
 | n + 1, S => match f S with
  | some (.normal, S') => FE f n S'
  | r => r
def Ar (c : Cx) (n : Nat) : Code → St → Option (X × St)
 | .skip, S => some (.normal, S)
 | .region _ ops draw, S => (if draw then (if MX ops then (De (FX c ops) ops (Qv ops) S).bind fun S' => if LG ops c.base S'.T then some S' else none else none) else De (fun _ => c) ops (bt ops.size) S).map fun S' => (.normal, S')
 | .seq a b, S => match Ar c n a S with
  | some (.normal, S') => Ar c n b S'
  | r => r
 | .cond x t e, S => match ev S.T x with
  | some (.bool true) => Ar c n t S
  | some (.bool false) => Ar c n e S
  | _ => none
 | .block id a, S => match Ar c n a S with
  | some (.exit i, S') => if i = id then some (.normal, S') else some (.exit i, S')
  | r => r
 | .loop a, S => FE (Ar c n a) n S
 | .exit id, S => some (.exit id, S)
 | .ret, S => some (.ret, S)
 | _, _ => none
def BI (P : bm) (H : A6) (T : Nat → V) : List ed → Option (List V)
 | [] => some []
 | .tmp t :: r => (BI P H T r).map (T t :: ·)
 | .cell a t :: r => (FL P t H (T a)).bind fun v => (BI P H T r).map (v :: ·)
def EI : List V → V
 | [v] => v
 | vs => .GS vs
def JO (vs : List V) : Nat → V := fun i => vs.getD i Ck
def ND (d : Nat) : Bz → Bz
 | .C1 l n sz => .C1 (min l (d - 1)) n sz
 | .cells sz cs => if cs.all (Bc d) then .cells sz cs else .dead
 | x => x
def Dd (h : Bp) (k : eg) (base d : Nat) (v : V) (H : A6) : Option (V × A6) :=
 if h.grow k then
  if Bc d v then some (v, H.take base ++ (H.drop base).map (ND d)) else none
 else (BL (h.QW k) base d Cq (H, []) v).map fun r => (r.1, r.2.1.take base ++ r.2.2)
structure MT where
 R0 : Code
 i : Nat
 o1 : ch
 o2 : ch
 p : Nat
 z : Nat
 q : Nat
 t : ao
 t2 : ao
 A : Code
 B : Code
def Vc (i : Nat) (R0 A B : Code) (q' : Nat) : List ch → Option MT
 | [o1, o2] => match o1.dst, o1.op, o1.guard, o2.dst, o2.op, o2.guard with
  | some p, .move (.tmp z), none, some q, .binOp .eql t (.tmp p') (.const (.slice none 0 0)) t2, none => if p = p' ∧ q = q' then some ⟨R0, i, o1, o2, p, z, q, t, t2, A, B⟩ else none
  | _, _, _, _, _, _ => none
 | _ => none
def FO : Code → Option MT
 | .seq R0 (.seq (.seq (.region i ops false) (.cond (.tmp q') A .skip)) B) => Vc i R0 A B q' ops.toList
 | _ => none
def L0 (P : bm) (rs : List ed) : Option (X × St) → Option (List V × A6)
 | some (.normal, S) | some (.ret, S) => (BI P S.H S.T rs).map fun vs => (vs, S.H)
 | _ => none
def O4 (c : Cx) (n : Nat) (rs : List ed) (N : MT) (S : St) (b : Bool) : Option (List V × A6) :=
 L0 c.P rs (Ar c n (if b then .seq N.A N.B else N.B) ((S.set N.p (S.T N.z)).set N.q (.bool b)))
open Classical in
noncomputable def Jk (c : Cx) (n : Nat) (rs : List ed) (body : Code) (S : St) : Option (List V × A6) :=
 match FO body with
 | none => L0 c.P rs (Ar c n body S)
 | some N => match Ar c n N.R0 S with
  | some (.normal, S0) => if N.p < c.ntmps ∧ N.q < c.ntmps ∧ N.p ≠ N.q ∧ (B6 c.P N.t).isSome = true then
    match Ct (S0.T N.z) with
    | some (_ + 1) => O4 c n rs N S0 false
    | some 0 => if O4 c n rs N S0 true = O4 c n rs N S0 false then O4 c n rs N S0 false else none
    | none => none
   else none
  | _ => none
noncomputable def Dw (P : bm) (h : Bp) : Nat → eg → List V → A6 → Lk → Option (V × A6)
  | 0, _, _, _, _ => none
  | n + 1, k, args, H, lk => match P.funcs[k]? with
    | some fn => match fn.body with
      | some body =>
        if args.length ≤ fn.ntmps ∧ (fn.name == "runtime.NumGoroutine") = false then
          let c : Cx := { P, hints := h, fn := k, ntmps := fn.ntmps, base := H.length, lk, Γ := Dw P h n }
          (Jk c n fn.results.toList body { T := JO args, H }).bind fun r => Dd h k H.length lk.length (EI r.1) r.2
        else none
      | none => none
    | none => none
def Wr (φ : Nat → Nat) (H : A6) (lk : Lk) (lv g i : Nat) : Prop :=
 ∃ b, φ b = g ∧ AX lk b = true ∧ match H[b]? with
  | some (.cells _ _) | some (.mp _) => True
  | some (.C1 l n sz) => lv < l ∨ n * sz ≤ i
  | _ => False
def Sr (φ : Nat → Nat) (H : A6) (g i : Nat) : Prop :=
 ∃ b, φ b = g ∧ match H[b]? with
  | some (.cells _ _) | some (.mp _) => True
  | some (.C1 _ n sz) => n * sz ≤ i
  | _ => False
structure Ab where
 w : et
 φ : Nat → Nat
 H : A6
 lk : Lk
 n : Nat
 m : Nat
 Bj : List Nat
def Ab.U (E : Ab) (lv : Option Nat) (g i : Nat) : Prop :=
 g ∈ E.Bj ∨ match lv with
 | some lv => Wr E.φ E.H (E.lk.take lv) lv g i
 | none => Sr E.φ E.H g i
def Q5 (m : Nat) : Option Nat → Prop
 | some lv => lv ≤ m
 | none => True
def K5 (H : A6) (b : Nat) : Prop := ∀ l n sz, H[b]? ≠ some (.C1 l n sz)
def K6 (H : A6) (b : Nat) : Prop := ∀ sz cs, H[b]? ≠ some (.cells sz cs)
def live : Option Bz → Prop
 | some (.cells _ _) | some (.C1 _ _ _) | some (.mp _) => True
 | _ => False
def Ab.Rv (E : Ab) (g : Nat) : Prop := ∀ b, E.n ≤ b → live E.H[b]? → E.φ b ≠ g
mutual
def AB (E : Ab) : V → cb → Prop
 | .int k n, v => v = .int k n
 | .bool b, v => v = .bool b
 | .str s, v => v = .string s
 | .IJ, v => v = .pointer none
 | .FP, v => v = .nilFunc
 | .ptr b off, v => b < E.n ∧ v = .pointer (some ⟨E.φ b, off, none⟩) ∧ K5 E.H b
 | .Ft b, v => b < E.n ∧ v = .map (some (E.φ b)) ∧ K5 E.H b
 | .lp lv cs off, v => lv ≤ E.m ∧ ∃ g o, v = .pointer (some ⟨g, o + off, none⟩) ∧ Ca E (some lv) g o cs
 | .lit lv len cs, v => lv ≤ E.m ∧ ∃ A cap, v = .slice A len cap ∧ len ≤ cap ∧ (len = 0 ∨ ∃ g o, A = some ⟨g, o, none⟩ ∧ Ca E (some lv) g o cs)
 | .tl len cs, v => ∃ A, v = .slice A len len ∧ (len = 0 ∨ ∃ g o, A = some ⟨g, o, none⟩ ∧ Ca E (some 0) g o cs)
 | .snap b len cs, v => b < E.n ∧ (∃ A cap, v = .slice A len cap ∧ len ≤ cap ∧ (∃ g o, A = some ⟨g, o, none⟩ ∧ (0 < cs.length → E.Rv g) ∧ Ca E none g o cs) ∧
   (∀ l n sz, E.H[b]? = some (.C1 l n sz) → len ≤ n ∧ (len = n → A = some ⟨E.φ b, 0, none⟩ ∧ ∃ c t, E.w.heap[E.φ b]? = some (.cells c t (0, 0)) ∧ cap * sz = c.size))) ∧ K6 E.H b
 | .sl b off len, v => b < E.n ∧ (∃ cap, v = .slice (some ⟨E.φ b, off, none⟩) len cap ∧ len ≤ cap) ∧ K5 E.H b
 | .agg cs, v => ∃ vs : Array cb, v = .agg vs ∧ AU E cs vs.toList
 | .GS cs, v => ∃ vs : Array cb, v = .tuple vs ∧ AU E cs vs.toList
 | .fn f cs, v => ∃ vs : Array cb, v = .func (.func f) #[] vs ∧ AU E cs vs.toList
def Ca (E : Ab) (lv : Option Nat) (g o : Nat) : List V → Prop
 | [] => True
 | c :: cs => (∃ u, E.w.cell? ⟨g, o, none⟩ = some u ∧ AB E c u) ∧ ¬ E.U lv g o ∧ Ca E lv g (o + 1) cs
def AU (E : Ab) : List V → List cb → Prop
 | [], vs => vs = []
 | c :: cs, vs => ∃ u us, vs = u :: us ∧ AB E c u ∧ AU E cs us
end
structure CW (E : Ab) : Prop where
 cells : ∀ b sz cs, E.H[b]? = some (.cells sz cs) → ∃ c t, E.w.heap[E.φ b]? = some (.cells c t (0, 0)) ∧ cs.length ≤ c.size ∧ ∀ (i : Nat) v, cs[i]? = some v → ∃ u, c[i]? = some u ∧ AB E v u
 C1 : ∀ (b l n sz : Nat), E.H[b]? = some (Bz.C1 l n sz) → ∃ c t, E.w.heap[E.φ b]? = some (.cells c t (0, 0)) ∧ n * sz ≤ c.size
 lvl : ∀ (b l n sz : Nat), E.H[b]? = some (Bz.C1 l n sz) → l ≤ E.lk.length
 dm : E.m ≤ E.lk.length
 inj : ∀ b b', live E.H[b]? → live E.H[b']? → E.φ b = E.φ b' → b = b'
 maps : ∀ b BP, E.H[b]? = some (.mp BP) → E.w.heap[E.φ b]? = some (.map (GB BP) BP.length) ∧ ∀ x ∈ BP, Bb x.1 = true ∧ Bb x.2 = true
 Bj : ∀ g ∈ E.Bj, g < E.w.heap.size ∧ ∀ b, live E.H[b]? → E.φ b ≠ g
structure GV (E E' : Ab) : Prop where
 lk : E'.lk = E.lk
 os : E'.w.os = E.w.os
 tape : E'.w.tape = E.w.tape
 output : E'.w.output = E.w.output
 size : E.w.heap.size ≤ E'.w.heap.size
 len : E.n ≤ E'.n
 mm : E'.m = E.m
 cell : ∀ g i u, E.w.cell? ⟨g, i, none⟩ = some u → ¬ E.U (some E.lk.length) g i → E'.w.cell? ⟨g, i, none⟩ = some u
 block : ∀ g, g < E.w.heap.size → (∀ i, ¬ E.U (some E.lk.length) g i) → E'.w.heap[g]? = E.w.heap[g]?
 mono : ∀ lv g i, Q5 E.lk.length lv → E'.U lv g i → E.U lv g i ∨ E.w.heap.size ≤ g
 CV : ∀ b, b < E.n → K5 E.H b → E'.φ b = E.φ b ∧ K5 E'.H b
 cells : ∀ b, b < E.n → K6 E.H b → K6 E'.H b
 C1 : ∀ (b l n' sz' : Nat), b < E.n → E'.H[b]? = some (Bz.C1 l n' sz') → ∃ n, E.H[b]? = some (.C1 l n sz') ∧ n ≤ n' ∧
  (n = n' → E'.φ b = E.φ b ∧ ∀ c t, E.w.heap[E.φ b]? = some (.cells c t (0, 0)) → ∃ c', E'.w.heap[E.φ b]? = some (.cells c' t (0, 0)) ∧ c'.size = c.size)
 fresh : ∀ b, live E'.H[b]? → (E'.φ b = E.φ b ∧ live E.H[b]?) ∨ E.w.heap.size ≤ E'.φ b
 Bj : ∀ g, g ∈ E.Bj → g ∈ E'.Bj
 Ia : ∀ g, g ∈ E'.Bj → g ∈ E.Bj ∨ E.w.heap.size ≤ g
 Hh : ∀ g, g ∈ E.Bj → g < E.w.heap.size → E'.w.heap[g]? = E.w.heap[g]?
theorem FQ {lk : Lk} {b : Nat} (n : Nat) (h : AX lk b = true) : AX (lk.take n) b = true := by
 unfold AX at *
 rw [cj] at *
 exact fun x hx => h x (mj hx)
theorem NS {lk : Lk} {b n m : Nat} (hnm : n ≤ m) (h : AX (lk.take m) b = true) : AX (lk.take n) b = true := by
 unfold AX at *
 rw [cj] at *
 intro x hx
 refine h x ?_
 rw [show lk.take n = (lk.take m).take n by rw [List.take_take, Nat.min_eq_left hnm]] at hx
 exact mj hx
theorem Ab.Rt {E : Ab} {lv lv' g i : Nat} (hl : lv ≤ lv') (h : E.U (some lv') g i) : E.U (some lv) g i := by
 rcases h with h | h
 ·exact .inl h
 obtain ⟨b, h1, h2, h3⟩ := h
 refine .inr ⟨b, h1, NS hl h2, ?_⟩
 split at h3
 ·trivial
 ·trivial
 ·rcases h3 with h3 | h3
  ·exact .inl (Nat.lt_of_le_of_lt hl h3)
  ·exact .inr h3
 ·exact h3.elim
theorem CW.sub {E : Ab} (h : CW E) {lv g i : Nat} (hl : E.lk.length ≤ lv) (hu : E.U (some lv) g i) : E.U none g i := by
 rcases hu with hu | hu
 ·exact .inl hu
 obtain ⟨b, h1, h2, h3⟩ := hu
 refine .inr ⟨b, h1, ?_⟩
 split at h3
 ·trivial
 ·trivial
 ·rename_i he
  rcases h3 with h3 | h3
  ·have := h.lvl _ _ _ _ he; omega
  ·exact h3
 ·exact h3.elim
theorem Gx {w : et} {a : Addr} {v : cb} (h : w.cell? a = some v) : a.block < w.heap.size := block_lt_of_cell h
theorem GV.refl (E : Ab) : GV E E where
 lk := rfl
 os := rfl
 tape := rfl
 output := rfl
 size := al _
 len := al _
 mm := rfl
 cell := fun _ _ _ h _ => h
 block := fun _ _ _ => rfl
 mono := fun _ _ _ _ h => .inl h
 CV := fun _ _ h => ⟨rfl, h⟩
 cells := fun _ _ h => h
 C1 := fun _ _ n _ _ h => ⟨n, h, al _, fun _ => ⟨rfl, fun c _ hc => ⟨c, hc, rfl⟩⟩⟩
 fresh := fun _ h => .inl ⟨rfl, h⟩
 Bj := fun _ h => h
 Ia := fun _ h => .inl h
 Hh := fun _ _ _ => rfl
theorem GV.trans {A B C : Ab} (h : GV A B) (k : GV B C) : GV A C where
 lk := k.lk.trans h.lk
 os := k.os.trans h.os
 tape := k.tape.trans h.tape
 output := k.output.trans h.output
 size := cu h.size k.size
 len := cu h.len k.len
 mm := k.mm.trans h.mm
 cell := by
  intro g i u hc hu
  refine k.cell g i u (h.cell g i u hc hu) ?_
  rw [h.lk]
  intro hB
  rcases h.mono (some _) _ _ (al _) hB with h' | h'
  ·exact hu h'
  ·exact absurd (Gx hc) (dw.2 h')
 block := by
  intro g hg hu
  rw [k.block g (cw hg h.size), h.block g hg hu]
  intro i
  rw [h.lk]
  intro hB
  rcases h.mono (some _) _ _ (al _) hB with h' | h'
  ·exact hu i h'
  ·exact absurd hg (dw.2 h')
 mono := by
  intro lv g i hl hC
  rcases k.mono _ _ _ (by rw [h.lk]; exact hl) hC with h' | h'
  ·exact h.mono _ _ _ hl h'
  ·exact .inr (cu h.size h')
 CV := by
  intro b hb hn
  obtain ⟨h1, h2⟩ := h.CV b hb hn
  obtain ⟨k1, k2⟩ := k.CV b (cw hb h.len) h2
  exact ⟨k1.trans h1, k2⟩
 cells := fun b hb hn => k.cells b (cw hb h.len) (h.cells b hb hn)
 C1 := by
  intro b l n' sz' hb hC
  obtain ⟨m, hm, hle, hk⟩ := k.C1 b l n' sz' (cw hb h.len) hC
  obtain ⟨n, hn, hle', hk'⟩ := h.C1 b l m sz' hb hm
  refine ⟨n, hn, cu hle' hle, fun e => ?_⟩
  have e1 : n = m := by omega
  have e2 : m = n' := by omega
  obtain ⟨p1, p2⟩ := hk' e1
  obtain ⟨q1, q2⟩ := hk e2
  refine ⟨q1.trans p1, fun c t hc => ?_⟩
  obtain ⟨c1, hc1, hs1⟩ := p2 c t hc
  rw [p1] at q2
  obtain ⟨c2, hc2, hs2⟩ := q2 c1 t hc1
  exact ⟨c2, hc2, hs2.trans hs1⟩
 fresh := by
  intro b hC
  rcases k.fresh b hC with ⟨h1, h2⟩ | h1
  ·rcases h.fresh b h2 with ⟨h3, h4⟩ | h3
   ·exact .inl ⟨h1.trans h3, h4⟩
   ·rw [← h1] at h3; exact .inr h3
  ·exact .inr (cu h.size h1)
 Bj := fun g hg => k.Bj g (h.Bj g hg)
 Ia := by
  intro g hg
  rcases k.Ia g hg with h1 | h1
  ·exact h.Ia g h1
  ·exact .inr (cu h.size h1)
 Hh := fun g hg hl => (k.Hh g (h.Bj g hg) (cw hl h.size)).trans (h.Hh g hg hl)
structure Cn (E E' : Ab) : Prop where
 len : E.n ≤ E'.n
 lvl : E.m ≤ E'.m
 cell : ∀ lv g i u, Q5 E.m lv → (lv = none → E.Rv g) → E.w.cell? ⟨g, i, none⟩ = some u → ¬ E.U lv g i → E'.w.cell? ⟨g, i, none⟩ = some u ∧ ¬ E'.U lv g i
 CV : ∀ b, b < E.n → K5 E.H b → E'.φ b = E.φ b ∧ K5 E'.H b
 cells : ∀ b, b < E.n → K6 E.H b → K6 E'.H b
 C1 : ∀ (b l n' sz' : Nat), b < E.n → E'.H[b]? = some (Bz.C1 l n' sz') → ∃ l0 n, E.H[b]? = some (.C1 l0 n sz') ∧ n ≤ n' ∧
  (n = n' → E'.φ b = E.φ b ∧ ∀ c t, E.w.heap[E.φ b]? = some (.cells c t (0, 0)) → ∃ c', E'.w.heap[E.φ b]? = some (.cells c' t (0, 0)) ∧ c'.size = c.size)
 fresh : ∀ b g i u, E.w.cell? ⟨g, i, none⟩ = some u → ¬ E.U none g i → E'.n ≤ b → live E'.H[b]? → E'.φ b = g → ∃ b', E.n ≤ b' ∧ live E.H[b']? ∧ E.φ b' = g
theorem Q5.up {m m' : Nat} {lv : Option Nat} (h : Q5 m lv) (hm : m ≤ m') : Q5 m' lv := by
 cases lv with
 | none => trivial
 | some l => exact cu h hm
theorem GV.keeps {E E' : Ab} (h : GV E E') (hh : CW E) : Cn E E' where
 len := h.len
 lvl := by rw [h.mm]; exact al _
 CV := h.CV
 cells := h.cells
 C1 := fun b l n' sz' hb hB => let ⟨n, h1, h2, h3⟩ := h.C1 b l n' sz' hb hB; ⟨l, n, h1, h2, h3⟩
 cell := by
  intro lv g i u hlv _ h1 h3
  refine ⟨h.cell g i u h1 (fun hu => h3 ?_), fun hu => ?_⟩
  ·cases lv with
   | none => exact hh.sub (al _) hu
   | some lv => exact Ab.Rt (cu hlv hh.dm) hu
  ·rcases h.mono _ _ _ (hlv.up hh.dm) hu with h' | h'
   ·exact h3 h'
   ·exact absurd (Gx h1) (dw.2 h')
 fresh := by
  intro b g i u h1 _ hb hl he
  rcases h.fresh b hl with ⟨h2, h3⟩ | h2
  ·exact ⟨b, cu h.len hb, h3, by rw [← h2]; exact he⟩
  ·exact absurd (Gx h1) (dw.2 (by rw [← he]; exact h2))
theorem Cn.EH (E : Ab) (L : List Nat) (hd : E.m ≤ E.lk.length) : Cn E { E with lk := E.lk ++ [L], m := E.m + 1 } where
 len := al _
 lvl := Nat.le_succ _
 CV := fun _ _ h => ⟨rfl, h⟩
 cells := fun _ _ h => h
 C1 := fun _ l n _ _ h => ⟨l, n, h, al _, fun _ => ⟨rfl, fun c _ hc => ⟨c, hc, rfl⟩⟩⟩
 cell := by
  intro lv g i u hlv _ h1 h3
  refine ⟨h1, fun hu => h3 ?_⟩
  cases lv with
  | none => exact hu
  | some lv =>
   have hle : lv ≤ E.lk.length := cu hlv hd
   rcases hu with hu | hu
   ·exact .inl hu
   obtain ⟨b, p1, p2, p3⟩ := hu
   refine .inr ⟨b, p1, ?_, p3⟩
   have : (E.lk ++ [L]).take lv = E.lk.take lv := List.take_append_of_le_length hle
   rw [← this]
   exact p2
 fresh := fun b _ _ _ _ _ hb hl he => ⟨b, hb, hl, he⟩
theorem Cn.Rv {E E' : Ab} (h : Cn E E') {g i : Nat} {u : cb} (hc : E.w.cell? ⟨g, i, none⟩ = some u) (hu : ¬ E.U none g i) (ha : E.Rv g) : E'.Rv g := by
 intro b hb hl he
 obtain ⟨b', h1, h2, h3⟩ := h.fresh b g i u hc hu hb hl he
 exact ha b' h1 h2 h3
theorem Ca.first {E : Ab} {lv : Option Nat} {g o : Nat} {cs : List V} (h : Ca E lv g o cs) (hl : 0 < cs.length) : ∃ u, E.w.cell? ⟨g, o, none⟩ = some u ∧ ¬ E.U lv g o := by
 cases cs with
 | nil => simp at hl
 | cons c cs =>
  simp only [Ca] at h
  obtain ⟨⟨u, h1, _⟩, h2, _⟩ := h
  exact ⟨u, h1, h2⟩
mutual
theorem Cn.rep {E E' : Ab} (h : Cn E E') : ∀ (v : V) (u : cb), AB E v u → AB E' v u
 | .int .., _, r => by simpa only [AB] using r
 | .bool _, _, r => by simpa only [AB] using r
 | .str _, _, r => by simpa only [AB] using r
 | .IJ, _, r => by simpa only [AB] using r
 | .FP, _, r => by simpa only [AB] using r
 | .ptr b off, _, r => by
  simp only [AB] at r ⊢
  obtain ⟨h1, h2, h3⟩ := r
  obtain ⟨p1, p2⟩ := h.CV b h1 h3
  exact ⟨cw h1 h.len, by rw [p1]; exact h2, p2⟩
 | .Ft b, _, r => by
  simp only [AB] at r ⊢
  obtain ⟨h1, h2, h3⟩ := r
  obtain ⟨p1, p2⟩ := h.CV b h1 h3
  exact ⟨cw h1 h.len, by rw [p1]; exact h2, p2⟩
 | .lp lv cs off, _, r => by
  simp only [AB] at r ⊢
  obtain ⟨hl, g, o, h1, h2⟩ := r
  exact ⟨cu hl h.lvl, g, o, h1, h.aC (some lv) g hl o cs (fun e => by cases e) h2⟩
 | .lit lv len cs, _, r => by
  simp only [AB] at r ⊢
  obtain ⟨hl, A, cap, h1, h2, h3⟩ := r
  refine ⟨cu hl h.lvl, A, cap, h1, h2, ?_⟩
  rcases h3 with h3 | ⟨g, o, h3, h4⟩
  ·exact .inl h3
  ·exact .inr ⟨g, o, h3, h.aC (some lv) g hl o cs (fun e => by cases e) h4⟩
 | .tl len cs, _, r => by
  simp only [AB] at r ⊢
  obtain ⟨A, h1, h3⟩ := r
  refine ⟨A, h1, ?_⟩
  rcases h3 with h3 | ⟨g, o, h3, h4⟩
  ·exact .inl h3
  ·exact .inr ⟨g, o, h3, h.aC (some 0) g (dq _) o cs (fun e => by cases e) h4⟩
 | .snap b len cs, _, r => by
  simp only [AB] at r ⊢
  obtain ⟨hb, ⟨A, cap, h1, h2, ⟨g, o, h3, ha, h4⟩, h5⟩, h6⟩ := r
  refine ⟨cw hb h.len, ⟨A, cap, h1, h2, ⟨g, o, h3, fun hl => (h4.first hl).elim fun u hu => h.Rv hu.1 hu.2 (ha hl), h.aC none g trivial o cs (fun _ => ha) h4⟩, fun l n sz hn => ?_⟩, h.cells b hb h6⟩
  obtain ⟨l0, m, hm, hle, hk⟩ := h.C1 b l n sz hb hn
  obtain ⟨q1, q2⟩ := h5 l0 m sz hm
  refine ⟨cu q1 hle, fun e => ?_⟩
  obtain ⟨p1, p2⟩ := hk (by omega)
  obtain ⟨q3, c, t, q4, q5⟩ := q2 (by omega)
  obtain ⟨c', hc', hs⟩ := p2 c t q4
  exact ⟨by rw [p1]; exact q3, c', t, by rw [p1]; exact hc', by rw [hs]; exact q5⟩
 | .sl b off len, _, r => by
  simp only [AB] at r ⊢
  obtain ⟨h1, h2, h3⟩ := r
  obtain ⟨p1, p2⟩ := h.CV b h1 h3
  exact ⟨cw h1 h.len, by rw [p1]; exact h2, p2⟩
 | .agg cs, _, r => by
  simp only [AB] at r ⊢
  obtain ⟨vs, h1, h2⟩ := r
  exact ⟨vs, h1, h.Ih cs _ h2⟩
 | .GS cs, _, r => by
  simp only [AB] at r ⊢
  obtain ⟨vs, h1, h2⟩ := r
  exact ⟨vs, h1, h.Ih cs _ h2⟩
 | .fn f cs, _, r => by
  simp only [AB] at r ⊢
  obtain ⟨vs, h1, h2⟩ := r
  exact ⟨vs, h1, h.Ih cs _ h2⟩
theorem Cn.aC {E E' : Ab} (h : Cn E E') (lv : Option Nat) (g : Nat) (hlv : Q5 E.m lv) : ∀ (o : Nat) (cs : List V), (lv = none → 0 < cs.length → E.Rv g) → Ca E lv g o cs → Ca E' lv g o cs
 | _, [], _, _ => by simp only [Ca]
 | o, c :: cs, ha, r => by
  simp only [Ca] at r ⊢
  obtain ⟨⟨u, h1, h2⟩, h3, h4⟩ := r
  obtain ⟨k1, k2⟩ := h.cell lv g o u hlv (fun e => ha e (by simp)) h1 h3
  exact ⟨⟨u, k1, h.rep c u h2⟩, k2, h.aC lv g hlv (o + 1) cs (fun e _ => ha e (by simp)) h4⟩
theorem Cn.Ih {E E' : Ab} (h : Cn E E') : ∀ (cs : List V) (vs : List cb), AU E cs vs → AU E' cs vs
 | [], _, r => by simpa only [AU] using r
 | c :: cs, _, r => by
  simp only [AU] at r ⊢
  obtain ⟨u, us, h1, h2, h3⟩ := r
  exact ⟨u, us, h1, h.rep c u h2, h.Ih cs us h3⟩
end
def Ab.shrink (E : Ab) (n m : Nat) : Ab := { E with n := n, m := m }
theorem Cn.grow (E : Ab) {n m : Nat} (hn : n ≤ E.n) (hm : m ≤ E.m) : Cn (E.shrink n m) E where
 len := hn
 lvl := hm
 CV := fun _ _ h => ⟨rfl, h⟩
 cells := fun _ _ h => h
 C1 := fun _ l k _ _ h => ⟨l, k, h, al _, fun _ => ⟨rfl, fun c _ hc => ⟨c, hc, rfl⟩⟩⟩
 cell := fun _ _ _ _ _ _ h k => ⟨h, k⟩
 fresh := fun b _ _ _ _ _ hb hl he => ⟨b, cu hn hb, hl, he⟩
theorem GV.shrink {E E' : Ab} (h0 : GV E E') (hh : CW E) {n m : Nat} (hn : n ≤ E.n) (hm : m ≤ E.m) : Cn (E.shrink n m) (E'.shrink n m) where
 len := al _
 lvl := al _
 CV := fun b hb => h0.CV b (cw hb hn)
 cells := fun b hb => h0.cells b (cw hb hn)
 C1 := fun b l n' sz' hb => (h0.keeps hh).C1 b l n' sz' (cw hb hn)
 cell := fun lv g i u hlv _ h1 h3 => by
  have hl : Q5 E.m lv := Q5.up hlv hm
  refine ⟨h0.cell g i u h1 (fun hu => h3 ?_), fun hu => ?_⟩
  ·cases lv with
   | none => exact hh.sub (al _) hu
   | some lv => exact Ab.Rt (E := E) (cu hl hh.dm) hu
  ·rcases h0.mono _ _ _ (hl.up hh.dm) hu with h' | h'
   ·exact h3 h'
   ·exact absurd (Gx h1) (dw.2 h')
 fresh := by
  intro b g i u h1 _ hb hl he
  rcases h0.fresh b hl with ⟨h2, h3⟩ | h2
  ·exact ⟨b, hb, h3, by show E.φ b = g; rw [← h2]; exact he⟩
  ·exact absurd (Gx h1) (dw.2 (by rw [← he]; exact h2))
theorem GV.rep {E E' : Ab} (h : GV E E') (hh : CW E) (v : V) (u : cb) (r : AB E v u) : AB E' v u := (h.keeps hh).rep v u r
theorem GV.Ih {E E' : Ab} (h : GV E E') (hh : CW E) (cs : List V) (vs : List cb) (r : AU E cs vs) : AU E' cs vs := (h.keeps hh).Ih cs vs r
theorem QL (E : Ab) (x : cb) (v : V) (h : Du x = some v) : AB E v x := by
 cases x with
 | int k n => simp only [Du, ab] at h; subst h; simp only [AB]
 | bool b => simp only [Du, ab] at h; subst h; simp only [AB]
 | string s => simp only [Du, ab] at h; subst h; simp only [AB]
 | pointer p => cases p with
  | none => simp only [Du, ab] at h; subst h; simp only [AB]
  | some a => simp [Du] at h
 | slice p n m =>
  simp only [Du] at h
  split at h <;> simp_all
  subst h
  simp only [AB]
  exact ⟨none, rfl, .inl trivial⟩
 | nilFunc => simp only [Du, ab] at h; subst h; simp only [AB]
 | _ => simp [Du] at h
theorem No (E : Ab) : ∀ (xs : List cb) (vs : List V), MD xs = some vs → AU E vs xs
 | [], vs, h => by simp only [MD, ab] at h; subst h; simp only [AU]
 | x :: xs, vs, h => by
  simp only [MD, af, ag] at h
  obtain ⟨v, hv, ws, hw, rfl⟩ := h
  simp only [AU]
  exact ⟨x, xs, rfl, QL E x v hv, No E xs ws hw⟩
theorem I7 (E : Ab) (x : cb) (v : V) (h : Ea x = some v) : AB E v x := by
 cases x with
 | agg cs =>
  simp only [Ea, ag] at h
  obtain ⟨vs, hv, rfl⟩ := h
  simp only [AB]
  exact ⟨cs, rfl, No E _ _ hv⟩
 | _ => exact QL E _ v (by simpa only [Ea] using h)
structure Cy (c : Cx) (E : Ab) (S : St) (a : Act) : Prop where
 H : E.H = S.H
 lk : E.lk = c.lk
 n : E.n = S.H.length
 m : E.m = c.lk.length
 tmps : ∀ i, AB E (S.T i) (a.tmps.getD i undef)
 size : a.tmps.size = c.ntmps
 heap : CW E
 base : c.base ≤ S.H.length
 EH : ∀ l ∈ c.lk, ∀ x ∈ l, x < c.base
 deep : 0 < c.lk.length
theorem BD {c : Cx} {E : Ab} {S : St} {a : Act} (hs : Cy c E S a) (x : au) (v : V) (h : ev S.T x = some v) : AB E v (a.eval x) := by
 cases x with
 | tmp t => simp only [ev, ab] at h; subst h; exact hs.tmps t
 | const c => exact I7 E c v h
 | global g => simp [ev] at h
 | func f =>
  simp only [ev, ab] at h; subst h
  simp only [AB, Act.eval]
  exact ⟨#[], rfl, by simp only [AU]⟩
theorem TE {c : Cx} {E : Ab} {S : St} {a : Act} (hs : Cy c E S a) : ∀ (xs : List au) (vs : List V), LO S.T xs = some vs → AU E vs (xs.map a.eval)
 | [], vs, h => by simp only [LO, ab] at h; subst h; simp only [AU, ft]
 | x :: xs, vs, h => by
  simp only [LO, af, ag] at h
  obtain ⟨v, hv, ws, hw, rfl⟩ := h
  simp only [AU, dj]
  exact ⟨_, _, rfl, BD hs x v hv, TE hs xs ws hw⟩
def Dg (c : Cx) (E : Ab) (a : Act) (o : ch) (v : V) : Prop :=
 ∃ u, (execOp a.eval o).run c.P E.w = .ok (.value u) E.w ∧ AB E v u
section
variable {c : Cx} {E : Ab} {S : St} {a : Act} {o : ch}
theorem VH (hs : Cy c E S a) {x : au} {v : V} (ho : o.op = .move x) (h : ev S.T x = some v) : Dg c E a o v :=
 ⟨a.eval x, by simp [execOp, ho], BD hs x v h⟩
theorem Sq (hs : Cy c E S a) {x : au} {v : V} (ho : o.op = .assign x) (h : ev S.T x = some v) : Dg c E a o v :=
 ⟨a.eval x, by simp [execOp, ho], BD hs x v h⟩
theorem Pn (hs : Cy c E S a) {k x y : au} {b : Bool} {v : V} (ho : o.op = .pick k x y) (hk : ev S.T k = some (.bool b)) (h : ev S.T (if b then x else y) = some v) : Dg c E a o v := by
 have hb := BD hs k _ hk
 simp only [AB] at hb
 refine ⟨_, ?_, BD hs _ v h⟩
 simp only [execOp, ho, hb, asBool]
 cases b <;> simp
theorem L8 (hs : Cy c E S a) {x : au} {b off : Nat} (ho : o.op = .nilCheck x) (h : ev S.T x = some (.ptr b off)) : Dg c E a o (.ptr b off) := by
 have hr := BD hs x _ h
 have hr' := hr
 simp only [AB] at hr'
 refine ⟨a.eval x, ?_, hr⟩
 simp [execOp, ho, hr'.2.1]
theorem Lv (hs : Cy c E S a) {x : au} {lv off : Nat} {cs : List V} (ho : o.op = .nilCheck x) (h : ev S.T x = some (.lp lv cs off)) : Dg c E a o (.lp lv cs off) := by
 have hr := BD hs x _ h
 have hr' := hr
 simp only [AB] at hr'
 obtain ⟨_, g, o', h1, _⟩ := hr'
 refine ⟨a.eval x, ?_, hr⟩
 simp [execOp, ho, h1]
theorem VI (hs : Cy c E S a) {op : UnOp} {t : ao} {x : au} {u v : V} (ho : o.op = .unOp op t x) (hx : ev S.T x = some u) (h : pN op u = some v) : Dg c E a o v := by
 have hr := BD hs x _ hx
 unfold pN at h
 split at h <;> simp only [ab, reduceCtorEq] at h
 ·subst h
  simp only [AB] at hr
  exact ⟨_, by simp only [execOp, ho, hr, Op.unary, Sem.run_bind, Sem.run_pure, Result.andThen_ok]; rfl, by simp only [AB]⟩
 ·subst h
  simp only [AB] at hr
  exact ⟨_, by simp only [execOp, ho, hr, Op.unary, Op.intArith, Sem.run_bind, Sem.run_pure, Result.andThen_ok]; rfl, by simp only [AB]⟩
theorem Xh {P : bm} {w : et} {op : BinOp} {t : ao} {k : fz} {a b : Int} {v : V} (h : We op k a b = some v) :
  ∃ u, (binOp op t (.int k a) (.int k b)).run P w = .ok u w ∧ ∀ E, AB E v u := by
 unfold We at h
 split at h
 case h_6 => simp only [ab] at h; subst h; exact ⟨_, by simp only [binOp_xor, Op.intBits, Sem.run_pure]; rfl, fun E => by simp only [AB]⟩
 case h_4 =>
  split at h <;> simp only [ab, reduceCtorEq] at h
  rename_i hb
  subst h; exact ⟨_, by simp only [binOp_quo, Op.intDiv, hb, if_false, Sem.run_pure]; rfl, fun E => by simp only [AB]⟩
 case h_5 =>
  split at h <;> simp only [ab, reduceCtorEq] at h
  rename_i hb
  subst h; exact ⟨_, by simp only [binOp_rem, Op.intDiv, hb, if_false, Sem.run_pure]; rfl, fun E => by simp only [AB]⟩
 all_goals (try simp only [ab, reduceCtorEq] at h)
 all_goals (subst h; exact ⟨_, by simp only [binOp_add, binOp_sub, binOp_mul, binOp_eql, binOp_neq, binOp_lss, binOp_leq, binOp_gtr, binOp_geq, Op.intArith, Sem.run_pure]; rfl, fun E => by simp only [AB]⟩)
theorem Vs {P : bm} {w : et} {t : ao} (a b : Bool) (ht : P.underlying t = some .bool) : (binOp .eql t (.bool a) (.bool b)).run P w = .ok (.bool (a == b)) w := by
 simp only [binOp, Op.equal, Op.maxDepth, Sem.run_bind, run_equalIn_bool' w 9999 t a b ht, Result.andThen_ok, Sem.run_pure]
theorem UM {P : bm} {w : et} {t : ao} (a b : Bool) (ht : P.underlying t = some .bool) : (binOp .neq t (.bool a) (.bool b)).run P w = .ok (.bool (!(a == b))) w := by
 simp only [binOp, Op.equal, Op.maxDepth, Sem.run_bind, run_equalIn_bool' w 9999 t a b ht, Result.andThen_ok, Sem.run_pure]
theorem BX {E : Ab} : ∀ (xs : List V) (us : List cb), AU E xs us → xs.length = us.length ∧ ∀ (i : Nat) v, xs[i]? = some v → ∃ u, us[i]? = some u ∧ AB E v u
 | [], us, h => by simp only [AU] at h; subst h; exact ⟨rfl, fun i v h => by simp at h⟩
 | x :: xs, us, h => by
  simp only [AU] at h
  obtain ⟨u, us', rfl, h1, h2⟩ := h
  obtain ⟨hl, hg⟩ := BX xs us' h2
  refine ⟨by simp [hl], fun i v hi => ?_⟩
  cases i with
  | zero => simp only [fb, ab] at hi; subst hi; exact ⟨u, rfl, h1⟩
  | succ i => simpa using hg i v (by simpa using hi)
theorem H8 {P : bm} {w : et} {t : ao} (h : Cz P t = some false) : (isAgg t).run P w = .ok false w := by
 unfold Cz at h
 unfold isAgg
 split at h
 ·simp at h
 ·simp at h
 ·rename_i d h1 h2 hd
  simp only [Sem.run_bind, run_underlying hd, Result.andThen_ok]
  cases d <;> first | (exact absurd rfl (h1 _)) | (exact absurd rfl (h2 _ _)) | simp only [Sem.run_pure]
 ·simp at h
theorem Kj {P : bm} {w : et} {t : ao} (h : Cz P t = some true) : (isAgg t).run P w = .ok true w := by
 unfold Cz at h
 unfold isAgg
 split at h
 ·rename_i d hd; simp only [Sem.run_bind, run_underlying hd, Result.andThen_ok, Sem.run_pure]
 ·rename_i hd; simp only [Sem.run_bind, run_underlying hd, Result.andThen_ok, Sem.run_pure]
 ·simp at h
 ·simp at h
theorem Ep {P : bm} {w : et} {t : ao} {n : Nat} (h : B8 P t = some n) : (sizeOf t).run P w = .ok n w := by
 unfold B8 at h
 simp only [ag] at h
 obtain ⟨i, hi, rfl⟩ := h
 simp [sizeOf, typeInfo, hi]
theorem NU {P : bm} {t : ao} {k : Sc} (h : FC P t = some k) : Cz P t = some false := by
 unfold FC at h
 unfold Cz
 split at h <;> simp_all
theorem Vu {P : bm} {w : et} {E : Ab} {t : ao} {k : Sc} (hk : FC P t = some k) (x y : V) (u v : cb) (hx : AB E x u) (hy : AB E y v) (b : Bool) (h : FY k x y = some b) (d : Nat) :
  (Op.equalIn (d + 1) t u v).run P w = .ok b w := by
 unfold FY at h
 unfold FC at hk
 split at h
 ·split at h <;> simp only [ab, reduceCtorEq] at h
  rename_i hkk
  subst hkk h
  simp only [AB] at hx hy
  subst hx hy
  split at hk <;> simp only [ab, reduceCtorEq] at hk
  rename_i ht
  exact run_equalIn_int w d t _ _ _ _ ht
 ·simp only [ab] at h
  subst h
  simp only [AB] at hx hy
  subst hx hy
  split at hk <;> simp only [ab, reduceCtorEq] at hk
  rename_i ht
  exact run_equalIn_bool' w d t _ _ ht
 ·simp only [ab] at h
  subst h
  simp only [AB] at hx hy
  subst hx hy
  split at hk <;> simp only [ab, reduceCtorEq] at hk
  rename_i ht
  exact run_equalIn_string w d t _ _ ht
 ·simp at h
theorem JH {P : bm} {w : et} {E : Ab} (d : Nat) (us vs : Array cb) : ∀ (fs : List Field) (n : Nat) (ks : List Sc) (xs ys : List V) (b : Bool),
  Eh P n fs = some ks → AU E xs (us.toList.drop n) → AU E ys (vs.toList.drop n) → DD ks xs ys = some b → (Op.eqFields (d + 1) us vs fs).run P w = .ok b w
 | [], n, ks, xs, ys, b, hf, hx, hy, h => by
  simp only [Eh, ab] at hf
  subst hf
  simp only [DD, ab] at h
  subst h
  simp only [Op.eqFields, Sem.run_pure]
 | f :: fs, n, ks, xs, ys, b, hf, hx, hy, h => by
  simp only [Eh] at hf
  split at hf <;> simp only [af, ag, reduceCtorEq] at hf
  rename_i hc
  obtain ⟨hn, ho, hz⟩ := hc
  obtain ⟨k, hk, ks', hks, rfl⟩ := hf
  cases xs with
  | nil => simp [DD] at h
  | cons x xs =>
   cases ys with
   | nil => simp [DD] at h
   | cons y ys =>
    simp only [DD, af] at h
    obtain ⟨b1, hb1, h⟩ := h
    simp only [AU] at hx hy
    obtain ⟨u, us', hu, hxu, hxs⟩ := hx
    obtain ⟨v, vs', hv, hyv, hys⟩ := hy
    have hu0 : us[n]? = some u := by
     have := congrArg (fun l => l[0]?) hu
     simpa using this
    have hv0 : vs[n]? = some v := by
     have := congrArg (fun l => l[0]?) hv
     simpa using this
    have hus : us.toList.drop (n + 1) = us' := by
     have := congrArg ow hu
     simpa using this
    have hvs : vs.toList.drop (n + 1) = vs' := by
     have := congrArg ow hv
     simpa using this
    have hag := H8 (P := P) (w := w) (NU hk)
    simp only [Op.eqFields, hn, ne_eq, not_false_eq_true, if_true, Sem.run_bind, part, hag, Result.andThen_ok, bd, if_false, ho, hu0, hv0, Sem.run_pure, Vu hk x y u v hxu hyv b1 hb1 d]
    cases b1 with
    | false => simp at h; subst h; simp
    | true =>
     simp only [if_true] at h
     have ih := JH (P := P) (w := w) d us vs fs (n + 1) ks' xs ys b hks (by rw [hus]; exact hxs) (by rw [hvs]; exact hys) h
     simpa using ih
theorem Tq (hs : Cy c E S a) {op : BinOp} {t t2 : ao} {x y : au} {p q v : V} (ho : o.op = .binOp op t x y t2) (hx : ev S.T x = some p) (hy : ev S.T y = some q)
  (h : Qe c.P op t p q = some v) : Dg c E a o v := by
 have hrx := BD hs x _ hx
 have hry := BD hs y _ hy
 unfold Qe at h
 split at h
 ·split at h
  case isFalse => simp at h
  rename_i hk
  subst hk
  simp only [AB] at hrx hry
  obtain ⟨u, hu, hr⟩ := Xh (P := c.P) (w := E.w) (t := t) h
  exact ⟨u, by simp only [execOp, ho, hrx, hry, eqGuard_at_int, Sem.run_bind, Sem.run_pure, Result.andThen_ok, hu], hr E⟩
 ·simp only [AB] at hrx hry
  split at h <;> simp only [ab, reduceCtorEq] at h
  ·rename_i ht
   subst h
   exact ⟨_, by simp only [execOp, ho, hrx, hry, eqGuard_at_bool, Sem.run_bind, Sem.run_pure, Result.andThen_ok, Vs _ _ ht]; rfl, by simp only [AB]⟩
  ·rename_i ht
   subst h
   exact ⟨_, by simp only [execOp, ho, hrx, hry, eqGuard_at_bool, Sem.run_bind, Sem.run_pure, Result.andThen_ok, UM _ _ ht]; rfl, by simp only [AB]⟩
 ·simp only [AB] at hrx hry
  split at h
  ·simp only [ab] at h
   subst h
   exact ⟨_, by simp only [execOp, ho, hrx, hry, eqGuard_at_string, Sem.run_bind, Sem.run_pure, Result.andThen_ok, binOp, Op.stringOp]; rfl, by simp only [AB]⟩
  ·simp only [ab] at h
   subst h
   exact ⟨_, by simp only [execOp, ho, hrx, hry, eqGuard_at_string, Sem.run_bind, Sem.run_pure, Result.andThen_ok, binOp, Op.stringOp]; rfl, by simp only [AB]⟩
  ·split at h <;> simp only [ab, reduceCtorEq] at h
   rename_i hsz
   subst h
   have hn0 : ∀ n : Nat, n ≤ 1099511627776 → ¬ ((n : Int) > IntKind.i64.max) := fun n h => by rw [IntKind.max_i64]; omega
   have hn := hn0 _ hsz
   exact ⟨_, by simp only [execOp, ho, hrx, hry, eqGuard_at_string, Sem.run_bind, Sem.run_pure, Result.andThen_ok, binOp, Op.stringOp, hn, if_false]; rfl, by simp only [AB]⟩
  ·simp at h
 ·simp only [AB] at hrx hry
  obtain ⟨us, hu, hxs⟩ := hrx
  obtain ⟨vs, hv, hys⟩ := hry
  simp only [af] at h
  obtain ⟨ks, hks, h⟩ := h
  unfold JP at hks
  split at hks
  case h_2 => simp at hks
  rename_i fs hu'
  split at hks
  case isFalse => simp at hks
  rename_i hg
  simp only [ar, eb] at hg
  obtain ⟨hg1, hg2⟩ := hg
  have hfo : c.P.fieldsOf t = fs := by simp only [Program.fieldsOf, hu']
  have hu2 : c.P.underlying t = some (.struct (c.P.fieldsOf t)) := by rw [hfo]; exact hu'
  have key : ∀ xs ys b, AU E xs us.toList → AU E ys vs.toList → DD ks xs ys = some b → (Op.equalIn 10000 t (.agg us) (.agg vs)).run c.P E.w = .ok b E.w := by
   intro xs ys b hxs hys hb
   rw [run_equalIn_struct E.w 9999 t us vs hu2 hg1, hfo]
   exact JH 9998 us vs fs.toList 0 ks _ _ b hks (by simpa using hxs) (by simpa using hys) hb
  split at h
  ·simp only [ag] at h
   obtain ⟨b, hb, rfl⟩ := h
   exact ⟨_, by simp only [execOp, ho, hu, hv, run_eqGuard_agg E.w _ _ _ _ _ _ hg2, Sem.run_bind, Result.andThen_ok, run_eql_struct, key _ _ b hxs hys hb, Sem.run_pure]; rfl, by simp only [AB]⟩
  ·simp only [ag] at h
   obtain ⟨b, hb, rfl⟩ := h
   exact ⟨_, by simp only [execOp, ho, hu, hv, run_eqGuard_agg E.w _ _ _ _ _ _ hg2, Sem.run_bind, Result.andThen_ok, run_neq_struct, key _ _ b hxs hys hb, Sem.run_pure]; rfl, by simp only [AB]⟩
  ·simp at h
 ·simp at h
end
section
variable {c : Cx} {E : Ab} {S : St} {a : Act} {o : ch}
theorem Ql (hs : Cy c E S a) {src dst : ao} {x : au} {k0 k k' : fz} {n : Int} (ho : o.op = .convert src dst x) (h1 : c.P.underlying src = some (.int k0)) (h2 : c.P.underlying dst = some (.int k)) (hx : ev S.T x = some (.int k' n)) : Dg c E a o (.int k (k.wrap n)) := by
 have hr := BD hs x _ hx
 simp only [AB] at hr
 exact ⟨_, by simp only [execOp, ho, hr, convert, Sem.run_bind, run_underlying h1, run_underlying h2, Result.andThen_ok, Conv.intToInt, Sem.run_pure]; rfl, by simp only [AB]⟩
theorem Ra {E : Ab} {lv : Option Nat} {g : Nat} : ∀ (cs : List V) (o : Nat), Ca E lv g o cs → ∀ (i : Nat) v, cs[i]? = some v → ∃ u, E.w.cell? ⟨g, o + i, none⟩ = some u ∧ AB E v u ∧ ¬ E.U lv g (o + i)
 | [], o, _, i, v, h => by simp at h
 | x :: cs, o, hr, i, v, h => by
  simp only [Ca] at hr
  obtain ⟨⟨u, h1, h2⟩, h3, h4⟩ := hr
  cases i with
  | zero => simp only [fb, ab] at h; subst h; exact ⟨u, h1, h2, h3⟩
  | succ i =>
   have := Ra cs (o + 1) h4 i v (by simpa using h)
   rw [show o + 1 + i = o + (i + 1) by omega] at this
   exact this
theorem R4 : ∀ {cs : List V} {acc s : ByteArray}, MV acc cs = some s → ∃ ns : List Int, cs = ns.map (V.int .u8) ∧ s = ns.foldl (fun r n => r.push (UInt8.ofNat n.toNat)) acc
 | [], acc, s, h => by
  simp only [MV, ab] at h
  exact ⟨[], rfl, h.symm⟩
 | c :: cs, acc, s, h => by
  unfold MV at h
  split at h
  ·rename_i e; cases e
  ·rename_i n cs' e
   cases e
   obtain ⟨ns, h1, h2⟩ := R4 h
   exact ⟨n :: ns, by rw [h1]; rfl, h2⟩
  ·cases h
theorem KZ (hs : Cy c E S a) {src dst e : ao} {x : au} {cs : List V} {s : ByteArray} (ho : o.op = .convert src dst x) (h1 : c.P.underlying src = some (.slice e)) (h2 : c.P.underlying dst = some .string) (he : c.P.underlying e = some (.int .u8)) (hx : ev S.T x = some (.tl cs.length cs)) (hb : MV .empty cs = some s) : Dg c E a o (.str s) := by
 have hr := BD hs x _ hx
 simp only [AB] at hr
 obtain ⟨A, hv, hA⟩ := hr
 obtain ⟨ns, rfl, rfl⟩ := R4 hb
 refine ⟨.string (ns.foldl (fun r n => r.push (UInt8.ofNat n.toNat)) ByteArray.empty), ?_, by simp only [AB]⟩
 simp only [execOp, ho, hv, Sem.run_bind, run_convert_bytes_string E.w src dst e A _ _ h1 he h2]
 cases A with
 | none =>
  rcases hA with h0 | ⟨g, o', hg, _⟩
  ·have : ns = [] := cp (by simpa using h0)
   subst this
   rfl
  ·cases hg
 | some A =>
  have hl : (loadCells A (ns.map (V.int .u8)).length).run c.P E.w = .ok (ns.map (Value.int .u8)).toArray E.w := by
   have := run_loadCells_list (P := c.P) (w := E.w) A (ns.map (Value.int .u8)) (fun j v hj => by
    rcases hA with h0 | ⟨g, o', hg, hc⟩
    ·have : ns = [] := cp (by simpa using h0)
     subst this
     simp at hj
    ·cases hg
     simp only [dz, ag] at hj
     obtain ⟨n, hn, rfl⟩ := hj
     obtain ⟨u, q1, q2, _⟩ := Ra _ _ hc j (.int .u8 n) (by simp [dz, hn])
     simp only [AB] at q2
     subst q2
     exact (show (Addr.add ⟨g, o', none⟩ j) = ⟨g, o' + j, none⟩ by simp [Addr.add]) ▸ q1)
   simpa using this
  rw [run_bytesToString E.w A _ _ ns hl]
  rfl
theorem Pm (hs : Cy c E S a) {f : eg} {caps : Array au} {vs : List V} (ho : o.op = .makeFunc (.func f) #[] caps) (h : LO S.T caps.toList = some vs) : Dg c E a o (.fn f vs) := by
 have hr := TE hs _ _ h
 refine ⟨.func (.func f) #[] (caps.map a.eval), by simp [execOp, ho, Instr.makeFunc], ?_⟩
 simp only [AB]
 exact ⟨_, rfl, by simpa using hr⟩
theorem Qm (hs : Cy c E S a) {x : au} {i : Nat} {vs : List V} {v : V} (ho : o.op = .extract x i) (hx : ev S.T x = some (.GS vs)) (h : vs[i]? = some v) : Dg c E a o v := by
 have hr := BD hs x _ hx
 simp only [AB] at hr
 obtain ⟨us, hu, hr⟩ := hr
 obtain ⟨u, h1, h2⟩ := (BX _ _ hr).2 i v h
 exact ⟨u, by simp [execOp, ho, hu, Instr.extract, show us[i]? = some u by simpa using h1], h2⟩
theorem Kf {P : bm} {s : ao} {f off : Nat} (h : AR P s f = some off) :
  ∃ fs g n, P.underlying s = some (.struct fs) ∧ fs[f]? = some g ∧ B8 P g.type = some (n + 1) ∧ g.offset = off := by
 unfold AR at h
 split at h
 ·split at h
  ·split at h
   ·rename_i hfs _ _ hg _ _ hn
    simp only [ab] at h
    exact ⟨_, _, _, hfs, hg, hn, h⟩
   ·simp at h
  ·simp at h
 ·simp at h
theorem Nq {P : bm} {w : et} {s : ao} {f off g o : Nat} (h : AR P s f = some off) :
  (Instr.fieldAt s (.pointer (some ⟨g, o, none⟩)) f).run P w = .ok (.pointer (some ⟨g, o + off, none⟩)) w := by
 obtain ⟨fs, fd, n, h1, h2, h3, rfl⟩ := Kf h
 simp only [Instr.fieldAt, Sem.run_bind, run_underlying h1, Result.andThen_ok, h2, Instr.sureAddr, Sem.run_pure, fieldPlace, Ep h3, Nat.succ_ne_zero, if_false, Addr.add_lit]
theorem Ka (hs : Cy c E S a) {s : ao} {x : au} {f off b i : Nat} (ho : o.op = .fieldAddr s x f) (h : AR c.P s f = some off) (hx : ev S.T x = some (.ptr b i)) : Dg c E a o (.ptr b (i + off)) := by
 have hr := BD hs x _ hx
 simp only [AB] at hr
 refine ⟨_, by simp only [execOp, ho, hr.2.1, Nq h, Sem.run_bind, Result.andThen_ok, Sem.run_pure]; rfl, ?_⟩
 simp only [AB]
 exact ⟨hr.1, trivial, hr.2.2⟩
theorem L7 (hs : Cy c E S a) {s : ao} {x : au} {f off lv i : Nat} {cs : List V} (ho : o.op = .fieldAddr s x f) (h : AR c.P s f = some off) (hx : ev S.T x = some (.lp lv cs i)) : Dg c E a o (.lp lv cs (i + off)) := by
 have hr := BD hs x _ hx
 simp only [AB] at hr
 obtain ⟨hl, g, q, h1, h2⟩ := hr
 refine ⟨_, by simp only [execOp, ho, h1, Nq h, Sem.run_bind, Result.andThen_ok, Sem.run_pure]; rfl, ?_⟩
 simp only [AB]
 exact ⟨hl, g, q, by rw [gj], h2⟩
theorem Cc {E : Ab} {lv : Option Nat} {g : Nat} : ∀ (cs : List V) (o : Nat), Ca E lv g o cs → ∀ (i : Nat) v, cs[i]? = some v → ∃ u, E.w.cell? ⟨g, o + i, none⟩ = some u ∧ AB E v u ∧ ¬ E.U lv g (o + i)
 | [], o, _, i, v, h => by simp at h
 | x :: cs, o, hr, i, v, h => by
  simp only [Ca] at hr
  obtain ⟨⟨u, h1, h2⟩, h3, h4⟩ := hr
  cases i with
  | zero => simp only [fb, ab] at h; subst h; exact ⟨u, h1, h2, h3⟩
  | succ i =>
   have := Cc cs (o + 1) h4 i v (by simpa using h)
   rw [show o + 1 + i = o + (i + 1) by omega] at this
   exact this
theorem Fk {E : Ab} {lv : Option Nat} {g : Nat} : ∀ (cs : List V) (o : Nat), (∀ (i : Nat) v, cs[i]? = some v → ∃ u, E.w.cell? ⟨g, o + i, none⟩ = some u ∧ AB E v u ∧ ¬ E.U lv g (o + i)) → Ca E lv g o cs
 | [], o, _ => by simp only [Ca]
 | x :: cs, o, h => by
  simp only [Ca]
  obtain ⟨u, h1, h2, h3⟩ := h 0 x rfl
  refine ⟨⟨u, h1, h2⟩, h3, Fk cs (o + 1) fun i v hi => ?_⟩
  have := h (i + 1) v (by simpa using hi)
  rwa [show o + (i + 1) = o + 1 + i by omega] at this
theorem EO {E : Ab} : ∀ (cs : List V) (us : List cb), cs.length = us.length → (∀ (i : Nat) v u, cs[i]? = some v → us[i]? = some u → AB E v u) → AU E cs us
 | [], us, hl, _ => by
  simp only [AU]
  cases us with
  | nil => rfl
  | cons => simp at hl
 | x :: cs, us, hl, h => by
  cases us with
  | nil => simp at hl
  | cons u us =>
   simp only [AU]
   exact ⟨u, us, rfl, h 0 x u rfl rfl, EO cs us (by simpa using hl) fun i v w hi hj => h (i + 1) v w (by simpa using hi) (by simpa using hj)⟩
theorem MJ {P : bm} {E : Ab} {t : ao} {cs : List V} {g o off : Nat} {v : V} (hc : ∀ (i : Nat) v, cs[i]? = some v → ∃ u, E.w.cell? ⟨g, o + i, none⟩ = some u ∧ AB E v u)
  (h : BF P t cs off = some v) : ∃ u, (loadVar t ⟨g, o + off, none⟩).run P E.w = .ok u E.w ∧ AB E v u := by
 unfold BF at h
 split at h
 ·rename_i ha
  simp only [af] at h
  obtain ⟨n, hn, h⟩ := h
  split at h
  case isFalse => simp at h
  simp only [ab] at h
  rename_i hl
  subst h
  have hex : ∀ i, i < n → ∃ u, E.w.cell? ⟨g, o + off + i, none⟩ = some u ∧ ∀ v, cs[off + i]? = some v → AB E v u := by
   intro i hi
   obtain ⟨u, h1, h2⟩ := hc (off + i) cs[off + i] (ae (by omega))
   refine ⟨u, by rw [gj]; exact h1, fun v hv => ?_⟩
   rw [ae (by omega)] at hv
   simp only [ab] at hv
   subst hv
   exact h2
  have hcells := run_loadCells (P := P) E.w ⟨g, o + off, none⟩ n (fun j => (E.w.cell? ⟨g, o + off + j, none⟩).getD undef) (fun j hj => by
   obtain ⟨u, h1, _⟩ := hex j hj
   rw [Addr.add_lit, h1]; rfl)
  refine ⟨.agg ((bt n).map fun j => (E.w.cell? ⟨g, o + off + j, none⟩).getD undef).toArray, ?_, ?_⟩
  ·simp only [loadVar, Sem.run_bind, Kj ha, Result.andThen_ok, if_true, Ep hn, hcells, Sem.run_pure]
  ·simp only [AB]
   refine ⟨_, rfl, EO _ _ (by simp; omega) fun i v u hi hj => ?_⟩
   have hin : i < n := by
    rcases bz i n with h | h
    ·exact h
    ·rw [ba (by rw [dn]; omega)] at hi; cases hi
   simp only [di, hin, if_true, eo] at hi
   simp only [dz, fe hin, aj, ab] at hj
   obtain ⟨u', h1, h2⟩ := hex i hin
   rw [h1] at hj
   simp only [ec] at hj
   subst hj
   exact h2 v hi
 ·rename_i ha
  obtain ⟨u, h1, h2⟩ := hc off v h
  refine ⟨u, ?_, h2⟩
  simp only [loadVar, Sem.run_bind, H8 ha, Result.andThen_ok, bd, if_false, run_load, h1]
 ·simp at h
theorem TS {E : Ab} (hh : CW E) {b sz : Nat} {cs : List V} (hb : E.H[b]? = some (.cells sz cs)) (i : Nat) (v : V) (hv : cs[i]? = some v) : ∃ u, E.w.cell? ⟨E.φ b, 0 + i, none⟩ = some u ∧ AB E v u := by
 obtain ⟨cc, t, h1, h2, h3⟩ := hh.cells b sz cs hb
 obtain ⟨u, h4, h5⟩ := h3 i v hv
 exact ⟨u, by rw [cell_of_row _ _ _ _ _ _ h1, gh]; exact h4, h5⟩
theorem Xk {P : bm} {E : Ab} (hh : CW E) {t : ao} {p v : V} {u : cb} (hp : AB E p u) (h : FL P t E.H p = some v) :
  ∃ x, (Instr.loadAt t u).run P E.w = .ok x E.w ∧ AB E v x := by
 unfold FL at h
 split at h
 ·split at h
  case h_2 => simp at h
  rename_i b off _ sz cs hb
  simp only [AB] at hp
  obtain ⟨_, hp, _⟩ := hp
  obtain ⟨x, h1, h2⟩ := MJ (P := P) (o := 0) (TS hh hb) h
  refine ⟨x, ?_, h2⟩
  rw [gh] at h1
  simp only [Instr.loadAt, hp, Instr.sureAddr, Sem.run_bind, Sem.run_pure, Result.andThen_ok, h1]
 ·simp only [AB] at hp
  obtain ⟨_, g, o, hp, hr⟩ := hp
  obtain ⟨x, h1, h2⟩ := MJ (P := P) (o := o) (fun i v hi => by
   obtain ⟨u, h1, h2, _⟩ := Cc _ _ hr i v hi
   exact ⟨u, h1, h2⟩) h
  refine ⟨x, ?_, h2⟩
  simp only [Instr.loadAt, hp, Instr.sureAddr, Sem.run_bind, Sem.run_pure, Result.andThen_ok, h1]
 ·simp at h
theorem VG (hs : Cy c E S a) {t : ao} {x : au} {p v : V} (ho : o.op = .load t x) (hx : ev S.T x = some p) (h : FL c.P t S.H p = some v) : Dg c E a o v := by
 have hr := BD hs x _ hx
 rw [← hs.H] at h
 obtain ⟨u, h1, h2⟩ := Xk (P := c.P) hs.heap hr h
 exact ⟨u, by simp only [execOp, ho, h1, Sem.run_bind, Result.andThen_ok, Sem.run_pure], h2⟩
theorem Ts (hs : Cy c E S a) {t : ao} {x : au} {f off : Nat} {fs : Array Field} {g : Field} {cs : List V} {v : V} (ho : o.op = .field t x f) (h : AR c.P t f = some off) (hf : c.P.underlying t = some (.struct fs)) (hg : fs[f]? = some g)
  (hx : ev S.T x = some (.agg cs)) (hv : BF c.P g.type cs off = some v) : Dg c E a o v := by
 have hr := BD hs x _ hx
 simp only [AB] at hr
 obtain ⟨us, hu, hr⟩ := hr
 obtain ⟨fs', g', n, h1, h2, h3, h4⟩ := Kf h
 rw [hf] at h1
 simp only [ab, TypeDesc.struct.injEq] at h1
 subst h1
 rw [hg] at h2
 simp only [ab] at h2
 subst h2 h4
 obtain ⟨hl, hget⟩ := BX _ _ hr
 unfold BF at hv
 split at hv
 ·rename_i ha
  simp only [af] at hv
  obtain ⟨m, hm, hv⟩ := hv
  split at hv
  case isFalse => simp at hv
  simp only [ab] at hv
  subst hv
  refine ⟨.agg (us.extract g.offset (g.offset + m)), ?_, ?_⟩
  ·simp only [execOp, ho, hu, Instr.field, asAgg, part, Sem.run_bind, run_underlying hf, Result.andThen_ok, hg, Sem.run_pure, Kj ha, if_true, Ep hm]
  ·simp only [AB]
   refine ⟨_, rfl, EO _ _ ?_ fun i v u hi hj => ?_⟩
   ·simp [hl]
   ·have hj' : us.toList[g.offset + i]? = some u := by
     simp only [Array.toList_extract, List.extract_eq_take_drop, di] at hj
     split at hj
     ·simpa using hj
     ·cases hj
    have hi' : cs[g.offset + i]? = some v := by
     rw [di] at hi
     split at hi
     ·simpa using hi
     ·cases hi
    obtain ⟨u', k1, k2⟩ := hget _ v hi'
    rw [hj'] at k1
    simp only [ab] at k1
    subst k1
    exact k2
 ·rename_i ha
  obtain ⟨u, k1, k2⟩ := hget _ v hv
  refine ⟨u, ?_, k2⟩
  simp only [execOp, ho, hu, Instr.field, asAgg, part, Sem.run_bind, run_underlying hf, Result.andThen_ok, hg, Sem.run_pure, H8 ha, bd, if_false, show us[g.offset]? = some u by simpa using k1]
 ·simp at hv
theorem CN {P : bm} {t e : ao} (h : B6 P t = some e) : P.underlying t = some (.slice e) := by
 unfold B6 at h
 split at h <;> simp only [ab, reduceCtorEq] at h
 subst h; assumption
theorem Nr {P : bm} {w : et} {t e : ao} {sz len cap g o : Nat} {k : fz} {n : Int} (ht : B6 P t = some e) (hz : B8 P e = some sz) (h0 : 0 ≤ n) (h1 : n < len) :
  (Instr.indexAt t (.slice (some ⟨g, o, none⟩) len cap) (.int k n)).run P w = .ok (.pointer (some ⟨g, o + n.toNat * sz, none⟩)) w := by
 simp only [Instr.indexAt, asIntOf, Sem.run_bind, Sem.run_pure, Result.andThen_ok, run_underlying (CN ht), h0, h1, and_self, if_true, Ep hz, Addr.add_lit]
theorem Pl (hs : Cy c E S a) {t e : ao} {x i : au} {sz b off len : Nat} {k : fz} {n : Int} (ho : o.op = .indexAddr t x i) (ht : B6 c.P t = some e) (hz : B8 c.P e = some sz)
  (hx : ev S.T x = some (.sl b off len)) (hi : ev S.T i = some (.int k n)) (h0 : 0 ≤ n) (h1 : n < len) : Dg c E a o (.ptr b (off + n.toNat * sz)) := by
 have hr := BD hs x _ hx
 have hri := BD hs i _ hi
 simp only [AB] at hr hri
 obtain ⟨hb, ⟨cap, hv, _⟩, hn⟩ := hr
 refine ⟨_, by simp only [execOp, ho, hv, hri, Nr ht hz h0 h1, Sem.run_bind, Result.andThen_ok, Sem.run_pure]; rfl, ?_⟩
 simp only [AB]
 exact ⟨hb, trivial, hn⟩
theorem Gp {x i : au} {t e : ao} {sz lv len : Nat} {cs : List V} {k : fz} {n : Int} {A : Option Addr} {cap : Nat} (ho : o.op = .indexAddr t x i) (ht : B6 c.P t = some e) (hz : B8 c.P e = some sz)
  (hlv : lv ≤ E.m) (hx : a.eval x = .slice A len cap) (hA : ∃ g q, A = some ⟨g, q, none⟩ ∧ Ca E (some lv) g q cs) (hi : a.eval i = .int k n) (h0 : 0 ≤ n) (h1 : n < len) : Dg c E a o (.lp lv cs (n.toNat * sz)) := by
 obtain ⟨g, q, rfl, hr⟩ := hA
 refine ⟨_, by simp only [execOp, ho, hx, hi, Nr ht hz h0 h1, Sem.run_bind, Result.andThen_ok, Sem.run_pure]; rfl, ?_⟩
 simp only [AB]
 exact ⟨hlv, g, q, rfl, hr⟩
theorem Ws {E : Ab} {v : V} {u : cb} {n : Nat} (hr : AB E v u) (h : Ct v = some n) : ∃ A cap, u = .slice A n cap ∧ n ≤ cap := by
 unfold Ct at h
 split at h <;> simp only [ab, reduceCtorEq] at h <;> subst h <;> simp only [AB] at hr
 ·obtain ⟨_, A, cap, h1, h2, _⟩ := hr; exact ⟨A, cap, h1, h2⟩
 ·obtain ⟨A, h1, _⟩ := hr; exact ⟨A, _, h1, al _⟩
 ·obtain ⟨_, ⟨A, cap, h1, h2, _⟩, _⟩ := hr; exact ⟨A, cap, h1, h2⟩
 ·obtain ⟨_, ⟨cap, h1, h2⟩, _⟩ := hr; exact ⟨_, cap, h1, h2⟩
theorem Xc (hs : Cy c E S a) {x : au} {t : ao} {e : ao} {v : V} {n : Nat} {args : Array au} {ats : Array ao} (ho : o.op = .call { callee := .builtin .len, args := args, argTypes := ats }) (ha : args.toList = [x]) (hat : ats[0]? = some t)
    (ht : c.P.underlying t = some (.slice e)) (hx : ev S.T x = some v) (hn : Ct v = some n) : Dg c E a o (.int .i64 n) := by
  obtain ⟨A, cap, hu, _⟩ := Ws (BD hs x _ hx) hn
  have hargs : args = #[x] := by apply jc; simpa using ha
  subst hargs
  refine ⟨_, by simp only [execOp, ho, resolve, Sem.run_bind, Sem.run_pure, Result.andThen_ok, invoke, builtin, Builtin.len_, hat, jd, dj, ft, hu, run_underlying ht, ib, fb]; rfl, ?_⟩
  simp only [AB]; rfl
theorem VF (hs : Cy c E S a) {x : au} {t : ao} {s : ByteArray} {args : Array au} {ats : Array ao} (ho : o.op = .call { callee := .builtin .len, args := args, argTypes := ats }) (ha : args.toList = [x]) (hat : ats[0]? = some t)
    (ht : c.P.underlying t = some .string) (hx : ev S.T x = some (.str s)) : Dg c E a o (.int .i64 s.size) := by
  have hu := BD hs x _ hx
  simp only [AB] at hu
  have hargs : args = #[x] := by apply jc; simpa using ha
  subst hargs
  refine ⟨_, by simp only [execOp, ho, resolve, Sem.run_bind, Sem.run_pure, Result.andThen_ok, invoke, builtin, Builtin.len_, hat, jd, dj, ft, hu, run_underlying ht, ib, fb]; rfl, ?_⟩
  simp only [AB]; rfl
theorem Xe (hs : Cy c E S a) {x y : au} {k k' : fz} {p q : Int} {args : Array au} {ats : Array ao} (ho : o.op = .call { callee := .builtin .min, args := args, argTypes := ats }) (ha : args.toList = [x, y])
    (hx : ev S.T x = some (.int k p)) (hy : ev S.T y = some (.int k' q)) : Dg c E a o (.int k (if q < p then q else p)) := by
  have hu := BD hs x _ hx
  have hv := BD hs y _ hy
  simp only [AB] at hu hv
  have hargs : args = #[x, y] := by apply jc; simpa using ha
  subst hargs
  refine ⟨_, by simp only [execOp, ho, resolve, Sem.run_bind, Sem.run_pure, Result.andThen_ok, invoke, builtin, Builtin.min_, Builtin.min2, jd, dj, ft, hu, hv, nj, nv]; rfl, ?_⟩
  simp only [AB]
theorem Xd (hs : Cy c E S a) {x y : au} {k k' : fz} {p q : Int} {args : Array au} {ats : Array ao} (ho : o.op = .call { callee := .builtin .max, args := args, argTypes := ats }) (ha : args.toList = [x, y])
    (hx : ev S.T x = some (.int k p)) (hy : ev S.T y = some (.int k' q)) : Dg c E a o (.int k (if q > p then q else p)) := by
  have hu := BD hs x _ hx
  have hv := BD hs y _ hy
  simp only [AB] at hu hv
  have hargs : args = #[x, y] := by apply jc; simpa using ha
  subst hargs
  refine ⟨_, by simp only [execOp, ho, resolve, Sem.run_bind, Sem.run_pure, Result.andThen_ok, invoke, builtin, Builtin.max_, Builtin.max2, jd, dj, ft, hu, hv, nj, nv]; rfl, ?_⟩
  simp only [AB]
theorem Ss (hs : Cy c E S a) {x i : au} {t : ao} {s : ByteArray} {k : fz} {n : Int} {b : UInt8} (ho : o.op = .index t x i) (ht : c.P.underlying t = some .string) (hx : ev S.T x = some (.str s)) (hi : ev S.T i = some (.int k n))
  (h0 : 0 ≤ n) (hb : s[n.toNat]? = some b) : Dg c E a o (.int .u8 b.toNat) := by
 have hu := BD hs x _ hx
 have hv := BD hs i _ hi
 simp only [AB] at hu hv
 refine ⟨_, by simp only [execOp, ho, hu, hv, Instr.index, asIntOf, Sem.run_bind, Sem.run_pure, Result.andThen_ok, run_underlying ht, h0, if_true, hb]; rfl, ?_⟩
 simp only [AB]
theorem Y4 {E : Ab} {lv : Option Nat} {g : Nat} (cs : List V) (o i n : Nat) (h : Ca E lv g o cs) : Ca E lv g (o + i) ((cs.drop i).take n) := by
 refine Fk _ _ fun j v hj => ?_
 rw [di] at hj
 split at hj
 ·rw [eo] at hj
  have := Cc _ _ h _ v hj
  rw [gj]
  exact this
 ·cases hj
theorem Vt (hs : Cy c E S a) {len cap l h : Nat} (lo hi : Option au) (hlo : D2 S.T 0 lo = some l) (hhi : D2 S.T len hi = some h) (hlc : len ≤ cap) (hlh : l ≤ h) (hhl : h ≤ len) :
  (Instr.sliceBounds true len cap (lo.map a.eval) (hi.map a.eval) none).run c.P E.w = .ok (l, h, cap) E.w := by
 have h1 : ∀ (x : au) (y n : Nat) (z : BoundsCode) m, D2 S.T m (some x) = some n → n ≤ y → (Instr.sliceBound (a.eval x) y z).run c.P E.w = .ok n E.w := by
  intro x y n z m hx hn
  simp only [D2] at hx
  split at hx
  ·rename_i k i hk
   split at hx
   case isFalse => cases hx
   rename_i hi0
   simp only [ab] at hx
   subst hx
   have hr := BD hs x _ hk
   simp only [AB] at hr
   simp only [Instr.sliceBound, hr, asIntOf, Sem.run_bind, Sem.run_pure, Result.andThen_ok]
   rw [if_pos ⟨hi0, by omega⟩]
   rfl
  ·cases hx
 cases hi with
 | none =>
  simp only [D2, ab] at hhi
  subst hhi
  cases lo with
  | none =>
   simp only [D2, ab] at hlo
   subst hlo
   simp [Instr.sliceBounds]
  | some x =>
   have := h1 x len l .sliceB 0 hlo hlh
   simp [Instr.sliceBounds, this]
 | some y =>
  have hy := h1 y cap h .sliceAcap len hhi (by omega)
  cases lo with
  | none =>
   simp only [D2, ab] at hlo
   subst hlo
   simp [Instr.sliceBounds, hy]
  | some x =>
   have := h1 x h l .sliceB 0 hlo hlh
   simp [Instr.sliceBounds, hy, this]
theorem Ns (hs : Cy c E S a) {t e : ao} {A : Option Addr} {len cap l h sz : Nat} (lo hi : Option au) (ht : B6 c.P t = some e) (hz : B8 c.P e = some sz) (hlo : D2 S.T 0 lo = some l) (hhi : D2 S.T len hi = some h) (hlc : len ≤ cap) (hlh : l ≤ h) (hhl : h ≤ len) :
  (Instr.sliceAt t (.slice A len cap) (lo.map a.eval) (hi.map a.eval) none).run c.P E.w = .ok (.slice (if cap = l then A else A.map (·.add (l * sz))) (h - l) (cap - l)) E.w := by
 have hu := CN ht
 simp only [Instr.sliceAt, Instr.slice, Sem.run_bind, run_underlying hu, Result.andThen_ok, Vt hs lo hi hlo hhi hlc hlh hhl, Ep hz, Sem.run_pure]
theorem Gq (hs : Cy c E S a) {t e : ao} {x : au} {lo hi : Option au} {lv len l h sz cap : Nat} {cs : List V} {A : Option Addr} (ho : o.op = .slice t x lo hi none) (ht : B6 c.P t = some e) (hz : B8 c.P e = some sz)
  (hlv : lv ≤ E.m) (hx : a.eval x = .slice A len cap) (hlc : len ≤ cap) (hA : len = 0 ∨ ∃ g q, A = some ⟨g, q, none⟩ ∧ Ca E (some lv) g q cs)
  (hlo : D2 S.T 0 lo = some l) (hhi : D2 S.T len hi = some h) (hlh : l ≤ h) (hhl : h ≤ len) : Dg c E a o (.lit lv (h - l) ((cs.drop (l * sz)).take ((h - l) * sz))) := by
 refine ⟨_, by simp only [execOp, ho, hx, Ns hs lo hi ht hz hlo hhi hlc hlh hhl, Sem.run_bind, Result.andThen_ok, Sem.run_pure, iq]; rfl, ?_⟩
 simp only [AB]
 refine ⟨hlv, _, _, rfl, by omega, ?_⟩
 by_cases h0 : h - l = 0
 ·exact .inl h0
 ·right
  rcases hA with hA | ⟨g, q, rfl, hr⟩
  ·omega
  ·refine ⟨g, q + l * sz, ?_, Y4 cs q _ _ hr⟩
   rw [if_neg (by omega)]
   simp only [aj, Addr.add_lit]
theorem Po (hs : Cy c E S a) {t e : ao} {x : au} {lo hi : Option au} {b off len l h sz : Nat} (ho : o.op = .slice t x lo hi none) (ht : B6 c.P t = some e) (hz : B8 c.P e = some sz)
  (hx : ev S.T x = some (.sl b off len)) (hlo : D2 S.T 0 lo = some l) (hhi : D2 S.T len hi = some h) (hlh : l ≤ h) (hhl : h ≤ len) : Dg c E a o (if l = h then .lit 0 0 [] else .sl b (off + l * sz) (h - l)) := by
 have hr := BD hs x _ hx
 simp only [AB] at hr
 obtain ⟨hb, ⟨cap, hv, hlc⟩, hn⟩ := hr
 refine ⟨_, by simp only [execOp, ho, hv, Ns hs lo hi ht hz hlo hhi hlc hlh hhl, Sem.run_bind, Result.andThen_ok, Sem.run_pure, iq]; rfl, ?_⟩
 split
 ·simp only [AB]
  exact ⟨dq _, _, _, by rw [show h - l = 0 by omega], by omega, .inl trivial⟩
 ·simp only [AB]
  refine ⟨hb, ⟨cap - l, ?_, by omega⟩, hn⟩
  rw [if_neg (by omega)]
  simp only [aj, Addr.add_lit]
theorem Sv (hs : Cy c E S a) {t e : ao} {x y z : au} {v : V} {n : Nat} {k k' : fz} (ho : o.op = .slice t x none (some y) (some z)) (ht : B6 c.P t = some e) {sz : Nat} (hz : B8 c.P e = some sz)
  (hx : ev S.T x = some v) (hn : Ct v = some n) (hy : ev S.T y = some (.int k 0)) (hzz : ev S.T z = some (.int k' 0)) : Dg c E a o (.tl 0 []) := by
 obtain ⟨A, cap, hu, _⟩ := Ws (BD hs x _ hx) hn
 have h1 := BD hs y _ hy
 have h2 := BD hs z _ hzz
 simp only [AB] at h1 h2
 have hu' := CN ht
 refine ⟨.slice A 0 0, ?_, by simp only [AB]; exact ⟨A, rfl, .inl trivial⟩⟩
 simp [execOp, ho, hu, h1, h2, Instr.sliceAt, Instr.slice, run_underlying hu', Instr.sliceBounds, Instr.sliceBound, asIntOf, Ep hz]
end
def Ab.heap (E : Ab) (H : A6) : Ab := { E with H := H }
@[simp] theorem Ab.GO (E : Ab) (H : A6) : (E.heap H).H = H := rfl
@[simp] theorem Ab.ZQ (E : Ab) (H : A6) : (E.heap H).w = E.w := rfl
@[simp] theorem Ab.ZP (E : Ab) (H : A6) : (E.heap H).φ = E.φ := rfl
@[simp] theorem Ab.qL (E : Ab) (H : A6) : (E.heap H).n = E.n := rfl
@[simp] theorem Ab.qK (E : Ab) (H : A6) : (E.heap H).m = E.m := rfl
@[simp] theorem Ab.nV (E : Ab) (H : A6) : (E.heap H).Bj = E.Bj := rfl
@[simp] theorem Ab.pY (E : Ab) (H : A6) : (E.heap H).lk = E.lk := rfl
@[simp] theorem Ab.KO (E : Ab) (H H' : A6) : (E.heap H).heap H' = E.heap H' := rfl
theorem Ai (H : A6) (b c : Nat) (x : Bz) : (H.set b x)[c]? = if b = c ∧ b < H.length then some x else H[c]? := by
 rw [km]
 by_cases h : b = c
 ·subst h
  by_cases h2 : b < H.length
  ·simp [h2]
  ·simp [h2]
 ·simp [h]
theorem GV.kill (E : Ab) (b : Nat) : GV E (E.heap (E.H.set b .dead)) where
 lk := rfl
 os := rfl
 tape := rfl
 output := rfl
 size := al _
 len := al _
 mm := rfl
 cell := fun _ _ _ h _ => h
 block := fun _ _ _ => rfl
 mono := by
  intro lv g i _ hu
  refine .inl ?_
  rcases hu with hu | hu
  ·exact .inl hu
  refine .inr ?_
  cases lv with
  | some lv =>
   obtain ⟨b', h1, h2, h3⟩ := hu
   refine ⟨b', h1, h2, ?_⟩
   simp only [Ab.GO, Ai] at h3
   by_cases hb : b = b' ∧ b < E.H.length
   ·rw [if_pos hb] at h3; exact h3.elim
   ·rw [if_neg hb] at h3; exact h3
  | none =>
   obtain ⟨b', h1, h3⟩ := hu
   refine ⟨b', h1, ?_⟩
   simp only [Ab.GO, Ai] at h3
   by_cases hb : b = b' ∧ b < E.H.length
   ·rw [if_pos hb] at h3; exact h3.elim
   ·rw [if_neg hb] at h3; exact h3
 CV := by
  intro b' hb' hn
  refine ⟨rfl, fun l n sz => ?_⟩
  simp only [Ab.GO, Ai]
  split
  ·simp
  ·exact hn l n sz
 cells := by
  intro b' hb' hn sz cs
  simp only [Ab.GO, Ai]
  split
  ·simp
  ·exact hn sz cs
 C1 := by
  intro b' l n' sz' hb' h
  simp only [Ab.GO, Ai] at h
  split at h
  ·cases h
  ·exact ⟨n', h, al _, fun _ => ⟨rfl, fun c t hc => ⟨c, hc, rfl⟩⟩⟩
 fresh := by
  intro b' h
  refine .inl ⟨rfl, ?_⟩
  simp only [Ab.GO, Ai] at h
  split at h
  ·exact h.elim
  ·exact h
 Bj := fun _ h => h
 Ia := fun _ h => .inl h
 Hh := fun _ _ _ => rfl
theorem CW.kill {E : Ab} (h : CW E) (b : Nat) : CW (E.heap (E.H.set b .dead)) where
 cells := by
  intro b' sz cs hb
  simp only [Ab.GO, Ai] at hb
  split at hb
  ·cases hb
  ·obtain ⟨c, t, h1, h2, h3⟩ := h.cells b' sz cs hb
   exact ⟨c, t, h1, h2, fun i v hv => let ⟨u, h4, h5⟩ := h3 i v hv; ⟨u, h4, (GV.kill E b).rep h v u h5⟩⟩
 C1 := by
  intro b' l n sz hb
  simp only [Ab.GO, Ai] at hb
  split at hb
  ·cases hb
  ·exact h.C1 b' l n sz hb
 lvl := by
  intro b' l n sz hb
  simp only [Ab.GO, Ai] at hb
  split at hb
  ·cases hb
  ·exact h.lvl b' l n sz hb
 dm := h.dm
 maps := by
  intro b' BP hb
  simp only [Ab.GO, Ai] at hb
  split at hb
  ·cases hb
  ·exact h.maps b' BP hb
 inj := by
  intro b1 b2 h1 h2 he
  simp only [Ab.GO, Ai] at h1 h2
  refine h.inj b1 b2 ?_ ?_ he
  ·split at h1
   ·exact h1.elim
   ·exact h1
  ·split at h2
   ·exact h2.elim
   ·exact h2
 Bj := fun g hg => ⟨(h.Bj g hg).1, fun b' hl => (h.Bj g hg).2 b' (by
  simp only [Ab.GO, Ai] at hl
  split at hl
  ·exact hl.elim
  ·exact hl)⟩
theorem Ru {E : Ab} {lv : Option Nat} {g i : Nat} (h : E.U lv g i) : g ∈ E.Bj ∨ ∃ b, E.φ b = g ∧ live E.H[b]? := by
 rcases h with h | h
 ·exact .inl h
 refine .inr ?_
 cases lv with
 | some lv =>
  obtain ⟨b, h1, h2, h3⟩ := h
  refine ⟨b, h1, ?_⟩
  split at h3
  ·rename_i he; rw [he]; trivial
  ·rename_i he; rw [he]; trivial
  ·rename_i he; rw [he]; trivial
  ·exact h3.elim
 | none =>
  obtain ⟨b, h1, h3⟩ := h
  refine ⟨b, h1, ?_⟩
  split at h3
  ·rename_i he; rw [he]; trivial
  ·rename_i he; rw [he]; trivial
  ·rename_i he; rw [he]; trivial
  ·exact h3.elim
theorem QD {E : Ab} (hh : CW E) {b : Nat} (hl : live E.H[b]?) {E' : Ab} {k : Nat} (hmono : ∀ lv g i, Q5 k lv → E'.U lv g i → (E.heap (E.H.set b .dead)).U lv g i ∨ E.w.heap.size ≤ g) (hs : E.φ b < E.w.heap.size) (lv : Option Nat) (hlv : Q5 k lv) (i : Nat) : ¬ E'.U lv (E.φ b) i := by
 intro hu
 rcases hmono _ _ _ hlv hu with h | h
 ·rcases Ru h with h | ⟨b', h1, hl'⟩
  ·exact (hh.Bj _ h).2 b hl rfl
  simp only [Ab.GO, Ab.ZP, Ai] at h1 hl'
  split at hl'
  ·exact hl'.elim
  ·rename_i hne
   have := hh.inj b' b hl' hl h1
   subst this
   refine hne ⟨rfl, ?_⟩
   rcases bz b' E.H.length with h | h
   ·exact h
   ·rw [ba h] at hl; exact hl.elim
 ·exact absurd hs (dw.2 h)
theorem Dn {E : Ab} {cs : List V} {g o : Nat} (h : ∀ (i : Nat) v, cs[i]? = some v → ∃ u, E.w.cell? ⟨g, o + i, none⟩ = some u ∧ AB E v u) :
  AU E cs ((bt cs.length).map fun i => (E.w.cell? ⟨g, o + i, none⟩).getD undef) := by
 refine EO _ _ (by simp) fun i v u hi hj => ?_
 obtain ⟨u', h1, h2⟩ := h i v hi
 have hl : i < cs.length := by
  rcases bz i cs.length with h | h
  ·exact h
  ·rw [ba h] at hi; cases hi
 simp only [dz, fe hl, aj, ab, h1, ec] at hj
 subst hj
 exact h2
theorem HU {E : Ab} {lv : Option Nat} {g o : Nat} {cs : List V} {us : List cb} (h : AU E cs us) (hc : ∀ (i : Nat) u, us[i]? = some u → E.w.cell? ⟨g, o + i, none⟩ = some u) (hu : ∀ i, i < cs.length → ¬ E.U lv g (o + i)) : Ca E lv g o cs := by
 refine Fk _ _ fun i v hi => ?_
 obtain ⟨hl, hg⟩ := BX _ _ h
 obtain ⟨u, h1, h2⟩ := hg i v hi
 have hil : i < cs.length := by
  rcases bz i cs.length with h | h
  ·exact h
  ·rw [ba h] at hi; cases hi
 exact ⟨u, hc i u h1, h2, hu i hil⟩
mutual
theorem MW {E : Ab} {d n : Nat} : ∀ (v : V) (u : cb), clean (d + 1) v = true → AB E v u → AB (E.shrink n d) v u
 | .int .., _, _, r => by simpa only [AB] using r
 | .bool _, _, _, r => by simpa only [AB] using r
 | .str _, _, _, r => by simpa only [AB] using r
 | .IJ, _, _, r => by simpa only [AB] using r
 | .FP, _, _, r => by simpa only [AB] using r
 | .ptr .., _, h, _ => by simp [clean] at h
 | .lp .., _, h, _ => by simp [clean] at h
 | .tl .., _, h, _ => by simp [clean] at h
 | .snap .., _, h, _ => by simp [clean] at h
 | .sl .., _, h, _ => by simp [clean] at h
 | .fn .., _, h, _ => by simp [clean] at h
 | .lit lv len cs, _, h, r => by
  simp only [AB] at r ⊢
  simp only [clean, ar, df, beq_iff_eq, decide_eq_true_eq] at h
  obtain ⟨hl, A, cap, h1, h2, h3⟩ := r
  refine ⟨by show lv ≤ d; omega, A, cap, h1, h2, ?_⟩
  rcases h3 with h3 | ⟨g, o, h3, h4⟩
  ·exact .inl h3
  ·exact .inr ⟨g, o, h3, Oe (some lv) g o cs h.2 h4⟩
 | .agg cs, _, h, r => by
  simp only [AB] at r ⊢
  simp only [clean] at h
  obtain ⟨vs, h1, h2⟩ := r
  exact ⟨vs, h1, Jd cs _ h h2⟩
 | .GS cs, _, h, r => by
  simp only [AB] at r ⊢
  simp only [clean] at h
  obtain ⟨vs, h1, h2⟩ := r
  exact ⟨vs, h1, Jd cs _ h h2⟩
theorem Oe {E : Ab} {d n : Nat} (lv : Option Nat) (g : Nat) : ∀ (o : Nat) (cs : List V), clean.cleanL (d + 1) cs = true → Ca E lv g o cs → Ca (E.shrink n d) lv g o cs
 | _, [], _, _ => by simp only [Ca]
 | o, c :: cs, h, r => by
  simp only [Ca] at r ⊢
  simp only [clean.cleanL, ar] at h
  obtain ⟨⟨u, h1, h2⟩, h3, h4⟩ := r
  exact ⟨⟨u, h1, MW c u h.1 h2⟩, h3, Oe lv g (o + 1) cs h.2 h4⟩
theorem Jd {E : Ab} {d n : Nat} : ∀ (cs : List V) (vs : List cb), clean.cleanL (d + 1) cs = true → AU E cs vs → AU (E.shrink n d) cs vs
 | [], _, _, r => by simpa only [AU] using r
 | c :: cs, _, h, r => by
  simp only [AU] at r ⊢
  simp only [clean.cleanL, ar] at h
  obtain ⟨u, us, h1, h2, h3⟩ := r
  exact ⟨u, us, h1, MW c u h.1 h2, Jd cs us h.2 h3⟩
end
mutual
theorem HJ {E : Ab} {d : Nat} : ∀ (v : V) (u : cb), Bc (d + 1) v = true → AB E v u → AB (E.shrink E.n d) v u
 | .int .., _, _, r => by simpa only [AB] using r
 | .bool _, _, _, r => by simpa only [AB] using r
 | .str _, _, _, r => by simpa only [AB] using r
 | .IJ, _, _, r => by simpa only [AB] using r
 | .FP, _, _, r => by simpa only [AB] using r
 | .ptr .., _, _, r => by simp only [AB] at r ⊢; exact r
 | .Ft .., _, _, r => by simp only [AB] at r ⊢; exact r
 | .sl .., _, _, r => by simp only [AB] at r ⊢; exact r
 | .lp .., _, h, _ => by simp [Bc] at h
 | .tl len cs, _, h, r => by
  simp only [AB] at r ⊢
  simp only [Bc] at h
  obtain ⟨A, h1, h3⟩ := r
  refine ⟨A, h1, ?_⟩
  rcases h3 with h3 | ⟨g, o, h3, h4⟩
  ·exact .inl h3
  ·exact .inr ⟨g, o, h3, Hp (some 0) g o cs h h4⟩
 | .snap b len cs, _, h, r => by
  simp only [AB] at r ⊢
  simp only [Bc] at h
  obtain ⟨hb, ⟨A, cap, h1, h2, ⟨g, o, h3, ha, h4⟩, h5⟩, h6⟩ := r
  exact ⟨hb, ⟨A, cap, h1, h2, ⟨g, o, h3, ha, Hp none g o cs h h4⟩, h5⟩, h6⟩
 | .lit lv len cs, _, h, r => by
  simp only [AB] at r ⊢
  simp only [Bc, ar, df, beq_iff_eq, decide_eq_true_eq] at h
  obtain ⟨hl, A, cap, h1, h2, h3⟩ := r
  refine ⟨by show lv ≤ d; omega, A, cap, h1, h2, ?_⟩
  rcases h3 with h3 | ⟨g, o, h3, h4⟩
  ·exact .inl h3
  ·exact .inr ⟨g, o, h3, Hp (some lv) g o cs h.2 h4⟩
 | .agg cs, _, h, r => by
  simp only [AB] at r ⊢
  simp only [Bc] at h
  obtain ⟨vs, h1, h2⟩ := r
  exact ⟨vs, h1, Gy cs _ h h2⟩
 | .GS cs, _, h, r => by
  simp only [AB] at r ⊢
  simp only [Bc] at h
  obtain ⟨vs, h1, h2⟩ := r
  exact ⟨vs, h1, Gy cs _ h h2⟩
 | .fn f cs, _, h, r => by
  simp only [AB] at r ⊢
  simp only [Bc] at h
  obtain ⟨vs, h1, h2⟩ := r
  exact ⟨vs, h1, Gy cs _ h h2⟩
theorem Hp {E : Ab} {d : Nat} (lv : Option Nat) (g : Nat) : ∀ (o : Nat) (cs : List V), Bc.cleanGL (d + 1) cs = true → Ca E lv g o cs → Ca (E.shrink E.n d) lv g o cs
 | _, [], _, _ => by simp only [Ca]
 | o, c :: cs, h, r => by
  simp only [Ca] at r ⊢
  simp only [Bc.cleanGL, ar] at h
  obtain ⟨⟨u, h1, h2⟩, h3, h4⟩ := r
  exact ⟨⟨u, h1, HJ c u h.1 h2⟩, h3, Hp lv g (o + 1) cs h.2 h4⟩
theorem Gy {E : Ab} {d : Nat} : ∀ (cs : List V) (vs : List cb), Bc.cleanGL (d + 1) cs = true → AU E cs vs → AU (E.shrink E.n d) cs vs
 | [], _, _, r => by simpa only [AU] using r
 | c :: cs, _, h, r => by
  simp only [AU] at r ⊢
  simp only [Bc.cleanGL, ar] at h
  obtain ⟨u, us, h1, h2, h3⟩ := r
  exact ⟨u, us, h1, HJ c u h.1 h2, Gy cs us h.2 h3⟩
end
def YM (E : Ab) (v : V) (H' : A6) (v' : V) : Prop :=
 GV E (E.heap H') ∧ CW (E.heap H') ∧ ∀ u, AB E v u → AB ((E.heap H').shrink 0 0) v' u
theorem RF {f : A6 → V → Option (V × A6)} (hf : ∀ E v v' H', f E.H v = some (v', H') → CW E → YM E v H' v') :
  ∀ (vs : List V) (E : Ab) (vs' : List V) (H' : A6), BC.giveL f E.H vs = some (vs', H') → CW E →
   GV E (E.heap H') ∧ CW (E.heap H') ∧ (∀ us, AU E vs us → AU ((E.heap H').shrink 0 0) vs' us) ∧ vs'.length = vs.length
 | [], E, vs', H', h, hh => by
  simp only [BC.giveL, ab, ah] at h
  obtain ⟨rfl, rfl⟩ := h
  exact ⟨GV.refl E, hh, fun us hu => by simpa only [AU] using hu, rfl⟩
 | v :: vs, E, vs', H', h, hh => by
  simp only [BC.giveL, af, ag, Prod.exists] at h
  obtain ⟨v1, H1, h1, vs2, H2, h2, h3⟩ := h
  simp only [ah] at h3
  obtain ⟨rfl, rfl⟩ := h3
  obtain ⟨e1, r1, p1⟩ := hf E v v1 H1 h1 hh
  obtain ⟨e2, r2, p2, l2⟩ := RF hf vs (E.heap H1) vs2 H2 h2 r1
  simp only [Ab.KO] at e2 r2 p2
  refine ⟨e1.trans e2, r2, fun us hu => ?_, by simp [l2]⟩
  simp only [AU] at hu ⊢
  obtain ⟨u, us', rfl, hu1, hu2⟩ := hu
  exact ⟨u, us', rfl, (e2.shrink r1 (n := 0) (m := 0) (dq _) (dq _)).rep _ _ (p1 u hu1), p2 us' (e1.Ih hh _ _ hu2)⟩
theorem J6 (lo : Nat) : ∀ (k : Nat) (E : Ab) (v v' : V) (H' : A6), BC lo k E.H v = some (v', H') → CW E → YM E v H' v'
 | 0, E, v, v', H', h, _ => by simp [BC] at h
 | k + 1, E, v, v', H', h, hh => by
  have same : (v', H') = (v, E.H) → (∀ u, AB E v u → AB (E.shrink 0 0) v u) → YM E v H' v' := by
   intro e hr
   simp only [ah] at e
   obtain ⟨rfl, rfl⟩ := e
   exact ⟨GV.refl E, hh, hr⟩
  have ihf := fun (E : Ab) (v v' : V) (H' : A6) (h : BC lo k E.H v = some (v', H')) hh => J6 lo k E v v' H' h hh
  have ih := RF ihf
  cases v with
  | int _ _ => simp only [BC, ab] at h; exact same h.symm fun u r => by simpa only [AB] using r
  | bool _ => simp only [BC, ab] at h; exact same h.symm fun u r => by simpa only [AB] using r
  | str _ => simp only [BC, ab] at h; exact same h.symm fun u r => by simpa only [AB] using r
  | IJ => simp only [BC, ab] at h; exact same h.symm fun u r => by simpa only [AB] using r
  | FP => simp only [BC, ab] at h; exact same h.symm fun u r => by simpa only [AB] using r
  | ptr _ _ => simp [BC] at h
  | Ft _ => simp [BC] at h
  | lp _ _ _ => simp [BC] at h
  | fn _ _ => simp [BC] at h
  | GS _ => simp [BC] at h
  | lit lv n cs =>
   simp only [BC] at h
   split at h
   ·rename_i hc
    simp only [ab] at h
    exact same h.symm fun u r => MW _ u hc r
   ·cases h
  | tl n cs =>
   simp only [BC, ag, Prod.exists, ah] at h
   obtain ⟨cs', H1, h1, rfl, rfl⟩ := h
   obtain ⟨e, r, p, l⟩ := ih cs E cs' H1 h1 hh
   refine ⟨e, r, fun u hu => ?_⟩
   simp only [AB] at hu ⊢
   obtain ⟨A, rfl, hA⟩ := hu
   refine ⟨al _, A, n, rfl, al _, ?_⟩
   rcases hA with hA | ⟨g, o, hA, hr⟩
   ·exact .inl hA
   ·refine .inr ⟨g, o, hA, ?_⟩
    have hg := Cc _ _ hr
    have hvs := Dn (E := E) (cs := cs) (g := g) (o := o) fun i v hi => let ⟨u, a1, a2, _⟩ := hg i v hi; ⟨u, a1, a2⟩
    refine HU (p _ hvs) (fun i u hi => ?_) (fun i hi => ?_)
    ·have hil : i < cs.length := by
      rcases bz i cs.length with h | h
      ·exact h
      ·rw [ba (by simp; omega)] at hi; cases hi
     simp only [dz, fe hil, aj, ab] at hi
     obtain ⟨u', a1, _, _⟩ := hg i _ (ae hil)
     rw [a1] at hi
     subst hi
     exact a1
    ·obtain ⟨u', a1, _, a3⟩ := hg i _ (ae (by omega))
     exact ((e.keeps hh).cell (some 0) g (o + i) u' (dq _) (fun e => by cases e) a1 a3).2
  | snap b n cs =>
   simp only [BC] at h
   split at h
   case h_2 => cases h
   rename_i l m sz hb
   split at h
   ·cases h
   rename_i hcond
   simp only [not_or, Decidable.not_not] at hcond
   obtain ⟨_, rfl⟩ := hcond
   simp only [ag, Prod.exists, ah] at h
   obtain ⟨cs', H1, h1, rfl, rfl⟩ := h
   have hk := GV.kill E b
   obtain ⟨e, r, p, l⟩ := ih cs (E.heap (E.H.set b .dead)) cs' H1 h1 (hh.kill b)
   simp only [Ab.KO] at e r p
   refine ⟨hk.trans e, r, fun u hu => ?_⟩
   simp only [AB] at hu ⊢
   obtain ⟨_, ⟨A, cap, rfl, hc, ⟨g, o, hA, _, hr⟩, hcur⟩, _⟩ := hu
   obtain ⟨hA', c0, t0, hrow, _⟩ := (hcur _ _ _ hb).2 rfl
   rw [hA] at hA'
   simp only [ab, Addr.mk.injEq, and_true] at hA'
   obtain ⟨rfl, rfl⟩ := hA'
   refine ⟨al _, A, cap, rfl, hc, .inr ⟨E.φ b, 0, hA, ?_⟩⟩
   have hg := Cc _ _ hr
   have hex : ∀ (i : Nat) v, cs[i]? = some v → ∃ u, E.w.cell? ⟨E.φ b, 0 + i, none⟩ = some u ∧ AB (E.heap (E.H.set b .dead)) v u := fun i v hi => let ⟨u, a1, a2, _⟩ := hg i v hi; ⟨u, a1, hk.rep hh _ _ a2⟩
   have hvs := Dn (E := E.heap (E.H.set b .dead)) hex
   refine HU (p _ hvs) (fun i u hi => ?_) (fun i hi => ?_)
   ·have hil : i < cs.length := by
     rcases bz i cs.length with h | h
     ·exact h
     ·rw [ba (by simp only [ee, iw]; exact h)] at hi; cases hi
    simp only [dz, fe hil, aj, ab] at hi
    obtain ⟨u', a1, _⟩ := hex i _ (ae hil)
    simp only [Ab.ZQ] at hi ⊢
    rw [a1] at hi
    simp only [ec] at hi
    subst hi
    exact a1
   ·show ¬ (E.heap H1).U (some 0) (E.φ b) _
    refine QD (E' := E.heap H1) hh (b := b) (by rw [hb]; trivial) e.mono ?_ _ (dq _) _
    exact az.1 hrow |>.1
  | sl b off n =>
   simp only [BC] at h
   split at h
   case h_2 => cases h
   rename_i sz cs hb
   split at h
   ·cases h
   rename_i hlen
   simp only [ag, Prod.exists, ah] at h
   obtain ⟨cs', H1, h1, rfl, rfl⟩ := h
   have hk := GV.kill E b
   obtain ⟨e, r, p, l⟩ := ih _ (E.heap (E.H.set b .dead)) cs' H1 h1 (hh.kill b)
   simp only [Ab.KO] at e r p
   refine ⟨hk.trans e, r, fun u hu => ?_⟩
   simp only [AB] at hu ⊢
   obtain ⟨_, ⟨cap, rfl, hc⟩, _⟩ := hu
   refine ⟨al _, _, cap, rfl, hc, .inr ⟨E.φ b, off, rfl, ?_⟩⟩
   obtain ⟨cc, t, q1, q2, q3⟩ := hh.cells b sz cs hb
   have hex : ∀ (i : Nat) v, ((cs.drop off).take (n * sz))[i]? = some v → ∃ u, E.w.cell? ⟨E.φ b, off + i, none⟩ = some u ∧ AB (E.heap (E.H.set b .dead)) v u := by
    intro i v hi
    rw [di] at hi
    split at hi
    ·rw [eo] at hi
     obtain ⟨u, k1, k2⟩ := q3 _ v hi
     exact ⟨u, by rw [cell_of_row _ _ _ _ _ _ q1]; exact k1, hk.rep hh _ _ k2⟩
    ·cases hi
   have hvs := Dn (E := E.heap (E.H.set b .dead)) hex
   refine HU (p _ hvs) (fun i u hi => ?_) (fun i hi => ?_)
   ·have hil : i < ((cs.drop off).take (n * sz)).length := by
     rcases bz i ((cs.drop off).take (n * sz)).length with h | h
     ·exact h
     ·rw [ba (by simp only [ee, iw]; exact h)] at hi; cases hi
    simp only [dz, fe hil, aj, ab] at hi
    obtain ⟨u', a1, _⟩ := hex i _ (ae hil)
    simp only [Ab.ZQ] at hi ⊢
    rw [a1] at hi
    simp only [ec] at hi
    subst hi
    exact a1
   ·show ¬ (E.heap H1).U (some 0) (E.φ b) _
    refine QD (E' := E.heap H1) hh (b := b) (by rw [hb]; trivial) e.mono ?_ _ (dq _) _
    exact az.1 q1 |>.1
  | agg cs =>
   simp only [BC, ag, Prod.exists, ah] at h
   obtain ⟨cs', H1, h1, rfl, rfl⟩ := h
   obtain ⟨e, r, p, l⟩ := ih cs E cs' H1 h1 hh
   refine ⟨e, r, fun u hu => ?_⟩
   simp only [AB] at hu ⊢
   obtain ⟨vs, hv, hr⟩ := hu
   exact ⟨vs, hv, p _ hr⟩
theorem JQ {f : A6 → V → Option (V × A6)} (hf : ∀ H v v' H', f H v = some (v', H') → H'.length = H.length ∧ ∀ (b sz : Nat) (cs : List V), H'[b]? = some (Bz.cells sz cs) → H[b]? = some (Bz.cells sz cs)) :
  ∀ (vs : List V) (H : A6) (vs' : List V) (H' : A6), BC.giveL f H vs = some (vs', H') → H'.length = H.length ∧ ∀ (b sz : Nat) (cs : List V), H'[b]? = some (Bz.cells sz cs) → H[b]? = some (Bz.cells sz cs)
 | [], H, vs', H', h => by
  simp only [BC.giveL, ab, ah] at h
  obtain ⟨_, rfl⟩ := h
  exact ⟨rfl, fun _ _ _ h => h⟩
 | v :: vs, H, vs', H', h => by
  simp only [BC.giveL, af, ag, Prod.exists, ah] at h
  obtain ⟨v1, H1, h1, vs2, H2, h2, _, rfl⟩ := h
  obtain ⟨l1, c1⟩ := hf H v v1 H1 h1
  obtain ⟨l2, c2⟩ := JQ hf vs H1 vs2 H2 h2
  exact ⟨l2.trans l1, fun b sz cs h => c1 b sz cs (c2 b sz cs h)⟩
theorem Pz (H : A6) (b : Nat) : (H.set b .dead).length = H.length ∧ ∀ (x sz : Nat) (cs : List V), (H.set b .dead)[x]? = some (Bz.cells sz cs) → H[x]? = some (Bz.cells sz cs) := by
 refine ⟨by simp, fun x sz cs h => ?_⟩
 rw [Ai] at h
 split at h
 ·cases h
 ·exact h
theorem L6 (lo : Nat) : ∀ (k : Nat) (H : A6) (v v' : V) (H' : A6), BC lo k H v = some (v', H') → H'.length = H.length ∧ ∀ (b sz : Nat) (cs : List V), H'[b]? = some (Bz.cells sz cs) → H[b]? = some (Bz.cells sz cs)
 | 0, H, v, v', H', h => by simp [BC] at h
 | k + 1, H, v, v', H', h => by
  have same : (v', H') = (v, H) → H'.length = H.length ∧ ∀ (b sz : Nat) (cs : List V), H'[b]? = some (Bz.cells sz cs) → H[b]? = some (Bz.cells sz cs) := by
   intro e
   simp only [ah] at e
   obtain ⟨_, rfl⟩ := e
   exact ⟨rfl, fun _ _ _ h => h⟩
  have ih := JQ fun (H : A6) (v v' : V) (H' : A6) (h : BC lo k H v = some (v', H')) => L6 lo k H v v' H' h
  cases v with
  | int _ _ => simp only [BC, ab] at h; exact same h.symm
  | bool _ => simp only [BC, ab] at h; exact same h.symm
  | str _ => simp only [BC, ab] at h; exact same h.symm
  | IJ => simp only [BC, ab] at h; exact same h.symm
  | FP => simp only [BC, ab] at h; exact same h.symm
  | ptr _ _ => simp [BC] at h
  | Ft _ => simp [BC] at h
  | lp _ _ _ => simp [BC] at h
  | fn _ _ => simp [BC] at h
  | GS _ => simp [BC] at h
  | lit lv n cs =>
   simp only [BC] at h
   split at h
   ·simp only [ab] at h; exact same h.symm
   ·cases h
  | tl n cs =>
   simp only [BC, ag, Prod.exists, ah] at h
   obtain ⟨cs', H1, h1, _, rfl⟩ := h
   exact ih cs H cs' H1 h1
  | snap b n cs =>
   simp only [BC] at h
   split at h
   case h_2 => cases h
   split at h
   ·cases h
   simp only [ag, Prod.exists, ah] at h
   obtain ⟨cs', H1, h1, _, rfl⟩ := h
   obtain ⟨l1, c1⟩ := ih cs _ cs' H1 h1
   obtain ⟨l2, c2⟩ := Pz H b
   exact ⟨l1.trans l2, fun x sz cs h => c2 x sz cs (c1 x sz cs h)⟩
  | sl b off n =>
   simp only [BC] at h
   split at h
   case h_2 => cases h
   split at h
   ·cases h
   simp only [ag, Prod.exists, ah] at h
   obtain ⟨cs', H1, h1, _, rfl⟩ := h
   obtain ⟨l1, c1⟩ := ih _ _ cs' H1 h1
   obtain ⟨l2, c2⟩ := Pz H b
   exact ⟨l1.trans l2, fun x sz cs h => c2 x sz cs (c1 x sz cs h)⟩
  | agg cs =>
   simp only [BC, ag, Prod.exists, ah] at h
   obtain ⟨cs', H1, h1, _, rfl⟩ := h
   exact ih cs H cs' H1 h1
theorem Hz (lo k : Nat) (H : A6) (v v' : V) (H' : A6) (h : BC lo k H v = some (v', H')) : H'.length = H.length := (L6 lo k H v v' H' h).1
theorem Pk (lo k : Nat) (H : A6) (v v' : V) (H' : A6) (h : BC lo k H v = some (v', H')) (b sz : Nat) (cs : List V) (hb : H'[b]? = some (.cells sz cs)) : H[b]? = some (.cells sz cs) := (L6 lo k H v v' H' h).2 b sz cs hb
theorem Ca.up {E : Ab} {lv lv' g o : Nat} {cs : List V} (hl : lv ≤ lv') (h : Ca E (some lv) g o cs) : Ca E (some lv') g o cs :=
 Fk _ _ fun i v hi => let ⟨u, a1, a2, a3⟩ := Cc _ _ h i v hi; ⟨u, a1, a2, fun hu => a3 (Ab.Rt hl hu)⟩
theorem Ca.all {E : Ab} (hh : CW E) {lv g o : Nat} {cs : List V} (hl : E.lk.length ≤ lv) (h : Ca E none g o cs) : Ca E (some lv) g o cs :=
 Fk _ _ fun i v hi => let ⟨u, a1, a2, a3⟩ := Cc _ _ h i v hi; ⟨u, a1, a2, fun hu => a3 (hh.sub hl hu)⟩
def Ab.lock (E : Ab) (L : List Nat) : Ab := { E with lk := E.lk ++ [L], m := E.m + 1 }
@[simp] theorem Ab.FH (E : Ab) (L : List Nat) : (E.lock L).H = E.H := rfl
@[simp] theorem Ab.qR (E : Ab) (L : List Nat) : (E.lock L).w = E.w := rfl
@[simp] theorem Ab.M7 (E : Ab) (L : List Nat) : (E.lock L).φ = E.φ := rfl
@[simp] theorem Ab.Sz (E : Ab) (L : List Nat) : (E.lock L).lk = E.lk ++ [L] := rfl
theorem CW.lock {E : Ab} (h : CW E) (L : List Nat) : CW (E.lock L) where
 cells := fun b sz cs hb => let ⟨c, t, h1, h2, h3⟩ := h.cells b sz cs hb; ⟨c, t, h1, h2, fun i v hv => let ⟨u, h4, h5⟩ := h3 i v hv; ⟨u, h4, (Cn.EH E L h.dm).rep v u h5⟩⟩
 C1 := h.C1
 lvl := fun b l n sz hb => by have := h.lvl b l n sz hb; simp only [Ab.Sz, an, cn]; omega
 dm := by have := h.dm; simp only [Ab.Sz, an, cn]; show E.m + 1 ≤ _; omega
 inj := h.inj
 maps := h.maps
 Bj := h.Bj
theorem MB {E : Ab} (hh : CW E) {b sz : Nat} {cs : List V} (hb : E.H[b]? = some (.cells sz cs)) {L : List Nat} (hL : b ∈ L) (i : Nat) : ¬ (E.lock L).U (some (E.lk.length + 1)) (E.φ b) i := by
 intro hu
 have hu' := hu
 rcases hu' with hu' | ⟨b', h1, h2, h3⟩
 ·exact (hh.Bj _ hu').2 b (by rw [hb]; trivial) rfl
 rcases Ru hu with hu2 | ⟨b2, k1, k2⟩
 ·exact (hh.Bj _ hu2).2 b (by rw [hb]; trivial) rfl
 have e1 := hh.inj b2 b k2 (by rw [hb]; trivial) k1
 subst e1
 have hl : live E.H[b']? := by
  simp only [Ab.FH] at h3
  split at h3
  ·rename_i heq; rw [heq]; trivial
  ·rename_i heq; rw [heq]; trivial
  ·rename_i heq; rw [heq]; trivial
  ·exact h3.elim
 have := hh.inj b' b2 hl k2 h1
 subst this
 simp only [Ab.Sz] at h2
 rw [fy (by simp)] at h2
 unfold AX at h2
 rw [cj] at h2
 have := h2 L (by simp)
 simp [hL] at this
theorem H7 {E E' : Ab} {cs : List V} {g o : Nat} (hex : ∀ (i : Nat) v, cs[i]? = some v → ∃ u, E.w.cell? ⟨g, o + i, none⟩ = some u ∧ AB E v u) {cs' : List V}
  (hp : ∀ us, AU E cs us → AU E' cs' us) (hl : cs'.length = cs.length) (hw : E'.w = E.w) {lv : Option Nat} (hu : ∀ i, i < cs.length → ¬ E'.U lv g (o + i)) : Ca E' lv g o cs' := by
 refine HU (hp _ (Dn hex)) (fun i u hi => ?_) (fun i hi => hu i (by omega))
 have hil : i < cs.length := by
  rcases bz i cs.length with h | h
  ·exact h
  ·rw [ba (by simp only [ee, iw]; exact h)] at hi; cases hi
 simp only [dz, fe hil, aj, ab] at hi
 obtain ⟨u', a1, _⟩ := hex i _ (ae hil)
 rw [a1] at hi
 simp only [ec] at hi
 subst hi
 rw [hw]
 exact a1
theorem RQ {E : Ab} {f : V → Option (V × List Nat)} {L : List Nat} (hf : ∀ v v' M, f v = some (v', M) → (∀ x ∈ M, x ∈ L) → ∀ u, AB E v u → AB (E.lock L) v' u) :
  ∀ (vs vs' : List V) (M : List Nat), Ax.lendL f vs = some (vs', M) → (∀ x ∈ M, x ∈ L) → (∀ us, AU E vs us → AU (E.lock L) vs' us) ∧ vs'.length = vs.length
 | [], vs', M, h, _ => by
  simp only [Ax.lendL, ab, ah] at h
  obtain ⟨rfl, rfl⟩ := h
  exact ⟨fun us hu => by simpa only [AU] using hu, rfl⟩
 | v :: vs, vs', M, h, hM => by
  simp only [Ax.lendL, af, ag, Prod.exists, ah] at h
  obtain ⟨v1, M1, h1, vs2, M2, h2, rfl, rfl⟩ := h
  obtain ⟨p, l⟩ := RQ hf vs vs2 M2 h2 (fun x hx => hM x (by simp [hx]))
  refine ⟨fun us hu => ?_, by simp [l]⟩
  simp only [AU] at hu ⊢
  obtain ⟨u, us', rfl, hu1, hu2⟩ := hu
  exact ⟨u, us', rfl, hf v v1 M1 h1 (fun x hx => hM x (by simp [hx])) u hu1, p us' hu2⟩
theorem Q1 {E : Ab} (hm : E.lk.length = E.m) (hh : CW E) {L : List Nat} : ∀ (k : Nat) (v v' : V) (M : List Nat), Ax (E.lk.length + 1) E.H k v = some (v', M) → (∀ x ∈ M, x ∈ L) → ∀ u, AB E v u → AB (E.lock L) v' u
 | 0, v, v', M, h, _ => by simp [Ax] at h
 | k + 1, v, v', M, h, hM => by
  intro u hu
  have hup : AB (E.lock L) v u := (Cn.EH E L hh.dm).rep v u hu
  have ih := RQ (E := E) (L := L) (f := Ax (E.lk.length + 1) E.H k) fun v v' M h hM => Q1 hm hh k v v' M h hM
  cases v with
  | int _ _ => simp only [Ax, ab, ah] at h; obtain ⟨rfl, rfl⟩ := h; exact hup
  | bool _ => simp only [Ax, ab, ah] at h; obtain ⟨rfl, rfl⟩ := h; exact hup
  | str _ => simp only [Ax, ab, ah] at h; obtain ⟨rfl, rfl⟩ := h; exact hup
  | IJ => simp only [Ax, ab, ah] at h; obtain ⟨rfl, rfl⟩ := h; exact hup
  | FP => simp only [Ax, ab, ah] at h; obtain ⟨rfl, rfl⟩ := h; exact hup
  | ptr _ _ => simp only [Ax, ab, ah] at h; obtain ⟨rfl, rfl⟩ := h; exact hup
  | Ft _ => simp only [Ax, ab, ah] at h; obtain ⟨rfl, rfl⟩ := h; exact hup
  | lp _ _ _ => simp only [Ax, ab, ah] at h; obtain ⟨rfl, rfl⟩ := h; exact hup
  | lit _ _ _ => simp only [Ax, ab, ah] at h; obtain ⟨rfl, rfl⟩ := h; exact hup
  | fn _ _ => simp only [Ax, ab, ah] at h; obtain ⟨rfl, rfl⟩ := h; exact hup
  | GS _ => simp [Ax] at h
  | tl n cs =>
   simp only [Ax, ag, Prod.exists, ah] at h
   obtain ⟨cs', M1, h1, rfl, rfl⟩ := h
   obtain ⟨p, l⟩ := ih cs cs' M1 h1 hM
   simp only [AB] at hu ⊢
   obtain ⟨A, rfl, hA⟩ := hu
   refine ⟨by show _ ≤ E.m + 1; omega, A, n, rfl, al _, ?_⟩
   rcases hA with hA | ⟨g, o, hA, hr⟩
   ·exact .inl hA
   ·refine .inr ⟨g, o, hA, Ca.up (dq _) <| H7 (fun i v hi => let ⟨u, a1, a2, _⟩ := Cc _ _ hr i v hi; ⟨u, a1, a2⟩) p l rfl fun i hi => ?_⟩
    obtain ⟨u', a1, _, a3⟩ := Cc _ _ hr i _ (ae hi)
    exact ((Cn.EH E L hh.dm).cell (some 0) g (o + i) u' (dq _) (fun e => by cases e) a1 a3).2
  | snap b n cs =>
   simp only [Ax, ag, Prod.exists, ah] at h
   obtain ⟨cs', M1, h1, rfl, rfl⟩ := h
   obtain ⟨p, l⟩ := ih cs cs' M1 h1 hM
   simp only [AB] at hu ⊢
   obtain ⟨_, ⟨A, cap, rfl, hc, ⟨g, o, hA, haw, hr⟩, _⟩, _⟩ := hu
   refine ⟨by show _ ≤ E.m + 1; omega, A, cap, rfl, hc, .inr ⟨g, o, hA, Ca.all (hh.lock L) (by simp) (H7 (fun i v hi => let ⟨u, a1, a2, _⟩ := Cc _ _ hr i v hi; ⟨u, a1, a2⟩) p l rfl fun i hi => ?_)⟩⟩
   obtain ⟨u', a1, _, a3⟩ := Cc _ _ hr i _ (ae hi)
   exact ((Cn.EH E L hh.dm).cell none g (o + i) u' trivial (fun _ => haw (by omega)) a1 a3).2
  | sl b off n =>
   simp only [Ax] at h
   split at h
   case h_2 => cases h
   rename_i sz cs hb
   split at h
   ·cases h
   simp only [ag, Prod.exists, ah] at h
   obtain ⟨cs', M1, h1, rfl, rfl⟩ := h
   obtain ⟨p, l⟩ := ih _ cs' M1 h1 (fun x hx => hM x (by simp [hx]))
   simp only [AB] at hu ⊢
   obtain ⟨_, ⟨cap, rfl, hc⟩, _⟩ := hu
   refine ⟨by show _ ≤ E.m + 1; omega, _, cap, rfl, hc, .inr ⟨E.φ b, off, rfl, ?_⟩⟩
   obtain ⟨cc, t, q1, q2, q3⟩ := hh.cells b sz cs hb
   refine H7 (fun i v hi => ?_) p l rfl fun i hi => MB hh hb (hM b (by simp)) _
   rw [di] at hi
   split at hi
   ·rw [eo] at hi
    obtain ⟨u, k1, k2⟩ := q3 _ v hi
    exact ⟨u, by rw [cell_of_row _ _ _ _ _ _ q1]; exact k1, k2⟩
   ·cases hi
  | agg cs =>
   simp only [Ax, ag, Prod.exists, ah] at h
   obtain ⟨cs', M1, h1, rfl, rfl⟩ := h
   obtain ⟨p, l⟩ := ih cs cs' M1 h1 hM
   simp only [AB] at hu ⊢
   obtain ⟨vs, hv, hr⟩ := hu
   exact ⟨vs, hv, p _ hr⟩
theorem Ii {E : Ab} {x : V} {u : cb} (h : AB E x u) (ht : ∀ vs, x ≠ .GS vs) : AU E x.cellsOf u.cells.toList := by
 cases x with
 | agg cs => simp only [AB] at h; obtain ⟨vs, rfl, hr⟩ := h; exact hr
 | GS vs => exact absurd rfl (ht vs)
 | _ =>
  have h' := h
  simp only [V.cellsOf, AU]
  refine ⟨u, [], ?_, h, rfl⟩
  simp only [AB] at h'
  first
   | (subst h'; rfl)
   | (obtain ⟨_, h1, _⟩ := h'; subst h1; rfl)
   | (obtain ⟨_, ⟨_, h1, _⟩, _⟩ := h'; subst h1; rfl)
   | (obtain ⟨_, _, _, h1, _⟩ := h'; subst h1; rfl)
   | (obtain ⟨_, ⟨_, _, h1, _⟩, _⟩ := h'; subst h1; rfl)
theorem Np {E : Ab} {x : V} {u : cb} (h : AB E x u) (hc : x.Bm = true) : u.oneCell' = true := by
 cases x with
 | agg cs => simp [V.Bm] at hc
 | GS vs => simp [V.Bm] at hc
 | _ =>
  have h' := h
  simp only [AB] at h'
  first
   | (subst h'; rfl)
   | (obtain ⟨_, h1, _⟩ := h'; subst h1; rfl)
   | (obtain ⟨_, ⟨_, h1, _⟩, _⟩ := h'; subst h1; rfl)
   | (obtain ⟨_, _, _, h1, _⟩ := h'; subst h1; rfl)
   | (obtain ⟨_, ⟨_, _, h1, _⟩, _⟩ := h'; subst h1; rfl)
structure GJ (E E' : Ab) (c : Array cb) (t : ao) (AW : Bz) : Prop where
 heap : E'.w.heap = E.w.heap.push (.cells c t (0, 0))
 os : E'.w.os = E.w.os
 tape : E'.w.tape = E.w.tape
 output : E'.w.output = E.w.output
 CV : ∀ b, E'.φ b = if b = E.H.length then E.w.heap.size else E.φ b
 H : E'.H = E.H ++ [AW]
 lk : E'.lk = E.lk
 n : E'.n = E.n + 1
 m : E'.m = E.m
 Bj : E'.Bj = E.Bj
 n0 : E.n = E.H.length
theorem GJ.Bv {E E' : Ab} {c : Array cb} {t : ao} {AW : Bz} (h : GJ E E' c t AW) (b : Nat) : E'.H[b]? = if b = E.H.length then some AW else E.H[b]? := by
 rw [h.H]
 by_cases hb : b = E.H.length
 ·subst hb; simp
 ·rw [if_neg hb]
  rcases bz b E.H.length with hl | hl
  ·rw [aw hl]
  ·rw [ba (by simp; omega), ba hl]
theorem GJ.Cj {E E' : Ab} {c : Array cb} {t : ao} {AW : Bz} (h : GJ E E' c t AW) (g : Nat) : E'.w.heap[g]? = if g = E.w.heap.size then some (.cells c t (0, 0)) else E.w.heap[g]? := by
 rw [h.heap, ig]
theorem GJ.D8 {E E' : Ab} {c : Array cb} {t : ao} {AW : Bz} (h : GJ E E' c t AW) : GV E E' where
 lk := h.lk
 os := h.os
 tape := h.tape
 output := h.output
 size := by rw [h.heap]; simp
 len := by rw [h.n]; omega
 mm := h.m
 cell := by
  intro g i u hc _
  have hg := Gx hc
  simp only [World.cell?, h.Cj g] at hc ⊢
  rw [if_neg (by simp at hg; omega)]
  exact hc
 block := by
  intro g hg _
  rw [h.Cj g, if_neg (by omega)]
 mono := by
  intro lv g i _ hu
  rcases hu with hu | hu
  ·exact .inl (.inl (by rw [h.Bj] at hu; exact hu))
  cases lv with
  | some lv =>
   obtain ⟨b, h1, h2, h3⟩ := hu
   rw [h.lk] at h2
   rw [h.Bv b] at h3
   rw [h.CV b] at h1
   by_cases hb : b = E.H.length
   ·rw [if_pos hb] at h1; right; omega
   ·rw [if_neg hb] at h1 h3
    exact .inl (.inr ⟨b, h1, h2, h3⟩)
  | none =>
   obtain ⟨b, h1, h3⟩ := hu
   rw [h.Bv b] at h3
   rw [h.CV b] at h1
   by_cases hb : b = E.H.length
   ·rw [if_pos hb] at h1; right; omega
   ·rw [if_neg hb] at h1 h3
    exact .inl (.inr ⟨b, h1, h3⟩)
 CV := by
  intro b hb hn
  have : b ≠ E.H.length := by have := h.n0; omega
  refine ⟨by rw [h.CV b, if_neg this], fun l n sz => ?_⟩
  rw [h.Bv b, if_neg this]
  exact hn l n sz
 cells := by
  intro b hb hn sz cs
  have : b ≠ E.H.length := by have := h.n0; omega
  rw [h.Bv b, if_neg this]
  exact hn sz cs
 C1 := by
  intro b l n' sz' hb hB
  have hne : b ≠ E.H.length := by have := h.n0; omega
  rw [h.Bv b, if_neg hne] at hB
  refine ⟨n', hB, al _, fun _ => ⟨by rw [h.CV b, if_neg hne], fun c' t' hc => ⟨c', ?_, rfl⟩⟩⟩
  rw [h.Cj]
  split
  ·rename_i he
   have := az.1 hc |>.1
   omega
  ·exact hc
 fresh := by
  intro b hl
  rw [h.Bv b] at hl
  rw [h.CV b]
  by_cases hb : b = E.H.length
  ·rw [if_pos hb]; exact .inr (al _)
  ·rw [if_neg hb] at hl ⊢; exact .inl ⟨rfl, hl⟩
 Bj := fun g hg => by rw [h.Bj]; exact hg
 Ia := fun g hg => .inl (by rw [h.Bj] at hg; exact hg)
 Hh := fun g _ hl => by rw [h.Cj g, if_neg (by omega)]
theorem GJ.rel {E E' : Ab} {c : Array cb} {t : ao} {AW : Bz} (h : GJ E E' c t AW) (hh : CW E)
  (hc : ∀ sz cs, AW = .cells sz cs → cs.length ≤ c.size ∧ ∀ (i : Nat) v, cs[i]? = some v → ∃ u, c[i]? = some u ∧ AB E v u) (hb : ∀ l n sz, AW = .C1 l n sz → n * sz ≤ c.size ∧ l ≤ E.lk.length) (hm : ∀ BP, AW ≠ .mp BP := by intro _ e; cases e) : CW E' where
 cells := by
  intro b sz cs hB
  rw [h.Bv b] at hB
  rw [h.CV b]
  split at hB
  ·rename_i he
   rw [if_pos he, h.Cj, if_pos rfl]
   simp only [ab] at hB
   obtain ⟨h1, h2⟩ := hc sz cs hB
   exact ⟨c, t, rfl, h1, fun i v hv => let ⟨u, h3, h4⟩ := h2 i v hv; ⟨u, h3, h.D8.rep hh v u h4⟩⟩
  ·rename_i he
   obtain ⟨c', t', h1, h2, h3⟩ := hh.cells b sz cs hB
   rw [if_neg he, h.Cj, if_neg (by have := az.1 h1 |>.1; omega)]
   exact ⟨c', t', h1, h2, fun i v hv => let ⟨u, h4, h5⟩ := h3 i v hv; ⟨u, h4, h.D8.rep hh v u h5⟩⟩
 dm := by rw [h.m, h.lk]; exact hh.dm
 lvl := by
  intro b l n sz hB
  rw [h.Bv b] at hB
  rw [h.lk]
  split at hB
  ·simp only [ab] at hB
   exact (hb l n sz hB).2
  ·exact hh.lvl b l n sz hB
 C1 := by
  intro b l n sz hB
  rw [h.Bv b] at hB
  rw [h.CV b]
  split at hB
  ·rename_i he
   rw [if_pos he, h.Cj, if_pos rfl]
   simp only [ab] at hB
   exact ⟨c, t, rfl, (hb l n sz hB).1⟩
  ·rename_i he
   obtain ⟨c', t', h1, h2⟩ := hh.C1 b l n sz hB
   rw [if_neg he, h.Cj, if_neg (by have := az.1 h1 |>.1; omega)]
   exact ⟨c', t', h1, h2⟩
 maps := by
  intro b BP hB
  rw [h.Bv b] at hB
  rw [h.CV b]
  split at hB
  ·simp only [ab] at hB
   exact absurd hB (hm BP)
  ·rename_i he
   obtain ⟨h1, h2⟩ := hh.maps b BP hB
   rw [if_neg he, h.Cj, if_neg (by have := az.1 h1 |>.1; omega)]
   exact ⟨h1, h2⟩
 inj := by
  have hlt : ∀ b, live E.H[b]? → E.φ b < E.w.heap.size := by
   intro b hl
   cases hB : E.H[b]? with
   | none => rw [hB] at hl; exact hl.elim
   | some x =>
    cases x with
    | cells sz cs => obtain ⟨_, _, h1, _⟩ := hh.cells b sz cs hB; exact az.1 h1 |>.1
    | C1 l n sz => obtain ⟨_, _, h1, _⟩ := hh.C1 b l n sz hB; exact az.1 h1 |>.1
    | mp BP => exact az.1 (hh.maps b BP hB).1 |>.1
    | dead => rw [hB] at hl; exact hl.elim
  intro b b' h1 h2 he
  rw [h.Bv] at h1 h2
  rw [h.CV, h.CV] at he
  by_cases hb : b = E.H.length <;> by_cases hb' : b' = E.H.length
  ·omega
  ·rw [if_pos hb, if_neg hb'] at he
   rw [if_neg hb'] at h2
   have := hlt b' h2
   omega
  ·rw [if_neg hb, if_pos hb'] at he
   rw [if_neg hb] at h1
   have := hlt b h1
   omega
  ·rw [if_neg hb, if_neg hb'] at he
   rw [if_neg hb] at h1
   rw [if_neg hb'] at h2
   exact hh.inj b b' h1 h2 he
 Bj := fun g hg => by
  rw [h.Bj] at hg
  obtain ⟨h1, h2⟩ := hh.Bj g hg
  refine ⟨by rw [h.heap, jx]; omega, fun b hl => ?_⟩
  rw [h.Bv] at hl
  rw [h.CV]
  by_cases hb : b = E.H.length
  ·rw [if_pos hb]; omega
  ·rw [if_neg hb] at hl ⊢; exact h2 b hl
theorem FR {E : Ab} (hh : CW E) {b : Nat} (hl : live E.H[b]?) : E.φ b < E.w.heap.size := by
 cases hB : E.H[b]? with
 | none => rw [hB] at hl; exact hl.elim
 | some x =>
  cases x with
  | cells sz cs => obtain ⟨_, _, h1, _⟩ := hh.cells b sz cs hB; exact az.1 h1 |>.1
  | C1 l n sz => obtain ⟨_, _, h1, _⟩ := hh.C1 b l n sz hB; exact az.1 h1 |>.1
  | mp BP => exact az.1 (hh.maps b BP hB).1 |>.1
  | dead => rw [hB] at hl; exact hl.elim
def DO (E : Ab) (base nb d : Nat) : Prop :=
 ∀ b sz cs, b < base → E.H[b]? = some (.cells sz cs) → ∀ c t, E.w.heap[E.φ b]? = some (.cells c t (0, 0)) → ∀ (i : Nat) v u, cs[i]? = some v → c[i]? = some u → AB (E.shrink nb d) v u
theorem DO.up {E : Ab} {base nb nb' d : Nat} (h : DO E base nb d) (hn : nb ≤ nb') : DO E base nb' d :=
 fun b sz cs h1 h2 c t h3 i v u h4 h5 => (Cn.grow (E.shrink nb' d) hn (al _)).rep v u (h b sz cs h1 h2 c t h3 i v u h4 h5)
theorem GJ.DU {E E' : Ab} {c : Array cb} {t : ao} {AW : Bz} (h : GJ E E' c t AW) {base nb d : Nat} (hb : base ≤ E.n) (hnb : nb ≤ E.n) (hd : d ≤ E.m) (hf : DO E base nb d) (hh : CW E) : DO E' base nb d := by
 intro b sz cs hlt hB c' t' hc i v u hv hu
 have hne : b ≠ E.H.length := by have := h.n0; omega
 rw [h.Bv, if_neg hne] at hB
 rw [h.CV, if_neg hne, h.Cj] at hc
 split at hc
 ·rename_i he
  have := FR hh (b := b) (by rw [hB]; trivial)
  omega
 ·exact (h.D8.shrink hh hnb hd).rep v u (hf b sz cs hlt hB c' t' hc i v u hv hu)
structure Hl (E E' : Ab) (b : Nat) (c c' : Array cb) (t : ao) (AW : Bz) : Prop where
 w : E'.w = E.w.setRow (E.φ b) c'
 row : E.w.heap[E.φ b]? = some (.cells c t (0, 0))
 size : c'.size = c.size
 CV : E'.φ = E.φ
 H : E'.H = E.H.set b AW
 lk : E'.lk = E.lk
 n : E'.n = E.n
 m : E'.m = E.m
 Bj : E'.Bj = E.Bj
 n0 : E.n = E.H.length
 free : AX E.lk b = true
 Nl : E.φ b ∉ E.Bj
 kind : (∃ sz cs cs', E.H[b]? = some (.cells sz cs) ∧ AW = .cells sz cs') ∨ (∃ l n n' sz, E.H[b]? = some (.C1 l n sz) ∧ AW = .C1 l n' sz ∧ n < n' ∧ ∀ i, i < n * sz → c'[i]? = c[i]?)
theorem Hl.lt {E E' : Ab} {b : Nat} {c c' : Array cb} {t : ao} {AW : Bz} (h : Hl E E' b c c' t AW) : b < E.H.length := by
 rcases bz b E.H.length with hl | hl
 ·exact hl
 ·rcases h.kind with ⟨_, _, _, hb, _⟩ | ⟨_, _, _, _, hb, _⟩ <;> (rw [ba hl] at hb; cases hb)
theorem Hl.Bv {E E' : Ab} {b : Nat} {c c' : Array cb} {t : ao} {AW : Bz} (h : Hl E E' b c c' t AW) (x : Nat) : E'.H[x]? = if b = x then some AW else E.H[x]? := by
 rw [h.H, Ai]
 simp [h.lt]
theorem Hl.Cj {E E' : Ab} {b : Nat} {c c' : Array cb} {t : ao} {AW : Bz} (h : Hl E E' b c c' t AW) (g : Nat) : E'.w.heap[g]? = if g = E.φ b then some (.cells c' t (0, 0)) else E.w.heap[g]? := by
 rw [h.w]
 by_cases hg : g = E.φ b
 ·subst hg; rw [if_pos rfl]; exact setRow_heap _ _ _ _ _ _ h.row
 ·rw [if_neg hg]; exact setRow_other _ _ _ _ hg
theorem Hl.D8 {E E' : Ab} {b : Nat} {c c' : Array cb} {t : ao} {AW : Bz} (h : Hl E E' b c c' t AW) : GV E E' where
 lk := h.lk
 os := by rw [h.w]; rfl
 tape := by rw [h.w]; rfl
 output := by rw [h.w]; rfl
 size := by rw [h.w]; simp
 len := by rw [h.n]; exact al _
 mm := h.m
 cell := by
  intro g i u hc hu
  simp only [World.cell?, h.Cj g] at hc ⊢
  by_cases hg : g = E.φ b
  ·subst hg
   rw [if_pos rfl]
   rw [h.row] at hc
   simp only [Option.isSome_none, bd, if_false] at hc ⊢
   rcases h.kind with ⟨sz, cs, cs', hb, _⟩ | ⟨l, n, n', sz, hb, _, _, hk⟩
   ·refine absurd (.inr ⟨b, rfl, FQ _ h.free, ?_⟩) hu
    rw [hb]; trivial
   ·rcases bz i (n * sz) with hi | hi
    ·rw [hk i hi]; exact hc
    ·refine absurd (.inr ⟨b, rfl, FQ _ h.free, ?_⟩) hu
     rw [hb]; exact .inr hi
  ·rw [if_neg hg]; exact hc
 block := by
  intro g hg hu
  rw [h.Cj g]
  split
  ·rename_i he
   subst he
   rcases h.kind with ⟨sz, cs, cs', hb, _⟩ | ⟨l, n, n', sz, hb, _, _, hk⟩
   ·refine absurd (.inr ⟨b, rfl, FQ _ h.free, ?_⟩) (hu 0)
    rw [hb]; trivial
   ·refine absurd (.inr ⟨b, rfl, FQ _ h.free, ?_⟩) (hu (n * sz))
    rw [hb]; exact .inr (al _)
  ·rfl
 mono := by
  intro lv g i _ hu
  rcases hu with hu | hu
  ·exact .inl (.inl (by rw [h.Bj] at hu; exact hu))
  cases lv with
  | some lv =>
   obtain ⟨x, h1, h2, h3⟩ := hu
   rw [h.lk] at h2
   rw [h.CV] at h1
   rw [h.Bv x] at h3
   refine .inl (.inr ⟨x, h1, h2, ?_⟩)
   by_cases hb : b = x
   ·subst hb
    rw [if_pos rfl] at h3
    rcases h.kind with ⟨sz, cs, cs', hb, rfl⟩ | ⟨l, n, n', sz, hb, rfl, hn, hk⟩
    ·rw [hb]; trivial
    ·rw [hb]
     rcases h3 with h3 | h3
     ·exact .inl h3
     ·exact .inr (cu (gb _ (jv hn)) h3)
   ·rw [if_neg hb] at h3; exact h3
  | none =>
   obtain ⟨x, h1, h3⟩ := hu
   rw [h.CV] at h1
   rw [h.Bv x] at h3
   refine .inl (.inr ⟨x, h1, ?_⟩)
   by_cases hb : b = x
   ·subst hb
    rw [if_pos rfl] at h3
    rcases h.kind with ⟨sz, cs, cs', hb, rfl⟩ | ⟨l, n, n', sz, hb, rfl, hn, hk⟩
    ·rw [hb]; trivial
    ·rw [hb]
     exact cu (gb _ (jv hn)) h3
   ·rw [if_neg hb] at h3; exact h3
 CV := by
  intro x hx hn
  refine ⟨by rw [h.CV], fun l n sz => ?_⟩
  rw [h.Bv x]
  split
  ·rename_i hb
   subst hb
   rcases h.kind with ⟨sz, cs, cs', hb, rfl⟩ | ⟨l, n, n', sz, hb, rfl, _, hk⟩
   ·simp
   ·exact absurd hb (hn _ _ _)
  ·exact hn l n sz
 cells := by
  intro x hx hn sz cs
  rw [h.Bv x]
  split
  ·rename_i hb
   subst hb
   rcases h.kind with ⟨sz, cs, cs', hb, rfl⟩ | ⟨l, n, n', sz, hb, rfl, _, hk⟩
   ·exact absurd hb (hn _ _)
   ·simp
  ·exact hn sz cs
 C1 := by
  intro x l n' sz' hx hB
  rw [h.Bv x] at hB
  by_cases hb : b = x
  ·subst hb
   rw [if_pos rfl] at hB
   simp only [ab] at hB
   rcases h.kind with ⟨sz, cs, cs', hb, rfl⟩ | ⟨l, n, n2, sz, hb, rfl, hn, hk⟩
   ·cases hB
   ·simp only [Bz.C1.injEq] at hB
    obtain ⟨rfl, rfl, rfl⟩ := hB
    exact ⟨n, hb, jv hn, fun e => absurd e (oh hn)⟩
  ·rw [if_neg hb] at hB
   refine ⟨n', hB, al _, fun _ => ⟨by rw [h.CV], fun c2 t2 hc => ?_⟩⟩
   rw [h.Cj]
   split
   ·rename_i he
    rw [he, h.row] at hc
    simp only [ab, Obj.cells.injEq] at hc
    obtain ⟨rfl, rfl, _⟩ := hc
    exact ⟨c', rfl, h.size⟩
   ·exact ⟨c2, hc, rfl⟩
 fresh := by
  intro x hl
  rw [h.Bv x] at hl
  rw [h.CV]
  refine .inl ⟨rfl, ?_⟩
  by_cases hb : b = x
  ·subst hb
   rcases h.kind with ⟨_, _, _, hb, _⟩ | ⟨_, _, _, _, hb, _⟩ <;> (rw [hb]; trivial)
  ·rw [if_neg hb] at hl; exact hl
 Bj := fun g hg => by rw [h.Bj]; exact hg
 Ia := fun g hg => .inl (by rw [h.Bj] at hg; exact hg)
 Hh := fun g hg _ => by rw [h.Cj g, if_neg (fun e => h.Nl (by rw [← e]; exact hg))]
theorem Hl.rel {E E' : Ab} {b : Nat} {c c' : Array cb} {t : ao} {AW : Bz} (h : Hl E E' b c c' t AW) (hh : CW E)
  (hc : ∀ sz cs, AW = .cells sz cs → cs.length ≤ c'.size ∧ ∀ (i : Nat) v, cs[i]? = some v → ∃ u, c'[i]? = some u ∧ AB E v u) (hb : ∀ l n sz, AW = .C1 l n sz → n * sz ≤ c'.size) : CW E' where
 cells := by
  intro x sz cs hB
  rw [h.Bv x] at hB
  rw [h.CV]
  by_cases hx : b = x
  ·subst hx
   rw [if_pos rfl] at hB
   simp only [ab] at hB
   obtain ⟨h1, h2⟩ := hc sz cs hB
   rw [h.Cj, if_pos rfl]
   exact ⟨c', t, rfl, h1, fun i v hv => let ⟨u, h3, h4⟩ := h2 i v hv; ⟨u, h3, h.D8.rep hh v u h4⟩⟩
  ·rw [if_neg hx] at hB
   obtain ⟨c2, t2, h1, h2, h3⟩ := hh.cells x sz cs hB
   have hne : E.φ x ≠ E.φ b := fun e => hx (hh.inj b x (by rcases h.kind with ⟨_, _, _, hb, _⟩ | ⟨_, _, _, _, hb, _⟩ <;> (rw [hb]; trivial)) (by rw [hB]; trivial) e.symm)
   rw [h.Cj, if_neg hne]
   exact ⟨c2, t2, h1, h2, fun i v hv => let ⟨u, h4, h5⟩ := h3 i v hv; ⟨u, h4, h.D8.rep hh v u h5⟩⟩
 dm := by rw [h.m, h.lk]; exact hh.dm
 lvl := by
  intro x l n sz hB
  rw [h.Bv x] at hB
  rw [h.lk]
  by_cases hx : b = x
  ·subst hx
   rw [if_pos rfl] at hB
   simp only [ab] at hB
   rcases h.kind with ⟨sz, cs, cs', hk, rfl⟩ | ⟨l, n, n2, sz, hk, rfl, hn, _⟩
   ·cases hB
   ·simp only [Bz.C1.injEq] at hB
    obtain ⟨rfl, rfl, rfl⟩ := hB
    exact hh.lvl _ _ _ _ hk
  ·rw [if_neg hx] at hB
   exact hh.lvl x l n sz hB
 C1 := by
  intro x l n sz hB
  rw [h.Bv x] at hB
  rw [h.CV]
  by_cases hx : b = x
  ·subst hx
   rw [if_pos rfl] at hB
   simp only [ab] at hB
   rw [h.Cj, if_pos rfl]
   exact ⟨c', t, rfl, hb l n sz hB⟩
  ·rw [if_neg hx] at hB
   obtain ⟨c2, t2, h1, h2⟩ := hh.C1 x l n sz hB
   have hne : E.φ x ≠ E.φ b := fun e => hx (hh.inj b x (by rcases h.kind with ⟨_, _, _, hb, _⟩ | ⟨_, _, _, _, hb, _⟩ <;> (rw [hb]; trivial)) (by rw [hB]; trivial) e.symm)
   rw [h.Cj, if_neg hne]
   exact ⟨c2, t2, h1, h2⟩
 maps := by
  intro x BP hB
  rw [h.Bv x] at hB
  rw [h.CV]
  by_cases hx : b = x
  ·subst hx
   rw [if_pos rfl] at hB
   simp only [ab] at hB
   rcases h.kind with ⟨sz, cs, cs', hk, rfl⟩ | ⟨l, n, n2, sz, hk, rfl, hn, _⟩
   ·cases hB
   ·cases hB
  ·rw [if_neg hx] at hB
   obtain ⟨h1, h2⟩ := hh.maps x BP hB
   have hne : E.φ x ≠ E.φ b := fun e => hx (hh.inj b x (by rcases h.kind with ⟨_, _, _, hb, _⟩ | ⟨_, _, _, _, hb, _⟩ <;> (rw [hb]; trivial)) (by rw [hB]; trivial) e.symm)
   rw [h.Cj, if_neg hne]
   exact ⟨h1, h2⟩
 inj := by
  have hl : live E.H[b]? := by rcases h.kind with ⟨_, _, _, hb, _⟩ | ⟨_, _, _, _, hb, _⟩ <;> (rw [hb]; trivial)
  intro x y h1 h2 he
  rw [h.Bv] at h1 h2
  rw [h.CV] at he
  refine hh.inj x y ?_ ?_ he
  ·by_cases hx : b = x
   ·subst hx; exact hl
   ·rw [if_neg hx] at h1; exact h1
  ·by_cases hx : b = y
   ·subst hx; exact hl
   ·rw [if_neg hx] at h2; exact h2
 Bj := fun g hg => by
  rw [h.Bj] at hg
  obtain ⟨h1, h2⟩ := hh.Bj g hg
  refine ⟨by rw [h.w]; simpa using h1, fun x hl => ?_⟩
  rw [h.Bv] at hl
  rw [h.CV]
  by_cases hx : b = x
  ·subst hx; exact fun e => h.Nl (e ▸ hg)
  ·rw [if_neg hx] at hl; exact h2 x hl
theorem Hl.DU {E E' : Ab} {b : Nat} {c c' : Array cb} {t : ao} {AW : Bz} (h : Hl E E' b c c' t AW) {base nb d : Nat} (hnb : nb ≤ E.n) (hd : d ≤ E.m) (hf : DO E base nb d) (hh : CW E)
  (hn : ∀ sz cs, AW = .cells sz cs → b < base → ∀ (i : Nat) v u, cs[i]? = some v → c'[i]? = some u → AB (E.shrink nb d) v u) : DO E' base nb d := by
 intro x sz cs hlt hB c2 t2 hc i v u hv hu
 rw [h.Bv] at hB
 rw [h.CV, h.Cj] at hc
 by_cases hx : b = x
 ·subst hx
  rw [if_pos rfl] at hB hc
  simp only [ab, Obj.cells.injEq] at hB hc
  obtain ⟨rfl, _, _⟩ := hc
  exact (h.D8.shrink hh hnb hd).rep v u (hn sz cs hB hlt i v u hv hu)
 ·rw [if_neg hx] at hB
  have hne : E.φ x ≠ E.φ b := fun e => hx (hh.inj b x (by rcases h.kind with ⟨_, _, _, hb, _⟩ | ⟨_, _, _, _, hb, _⟩ <;> (rw [hb]; trivial)) (by rw [hB]; trivial) e.symm)
  rw [if_neg hne] at hc
  exact (h.D8.shrink hh hnb hd).rep v u (hf x sz cs hlt hB c2 t2 hc i v u hv hu)
structure Jb (E E' : Ab) (b l k k' sz : Nat) (c : Array cb) (t : ao) : Prop where
 heap : E'.w.heap = E.w.heap.push (.cells c t (0, 0))
 os : E'.w.os = E.w.os
 tape : E'.w.tape = E.w.tape
 output : E'.w.output = E.w.output
 CV : ∀ x, E'.φ x = if x = b then E.w.heap.size else E.φ x
 H : E'.H = E.H.set b (.C1 l k' sz)
 lk : E'.lk = E.lk
 n : E'.n = E.n
 m : E'.m = E.m
 Bj : E'.Bj = E.Bj
 W5 : E.H[b]? = some (.C1 l k sz)
 lt : k < k'
 size : k' * sz ≤ c.size
theorem Jb.Bv {E E' : Ab} {b l n n' sz : Nat} {c : Array cb} {t : ao} (h : Jb E E' b l n n' sz c t) (x : Nat) : E'.H[x]? = if b = x then some (.C1 l n' sz) else E.H[x]? := by
 have hl : b < E.H.length := by
  rcases bz b E.H.length with hl | hl
  ·exact hl
  ·have := h.W5; rw [ba hl] at this; cases this
 rw [h.H, Ai]
 simp [hl]
theorem Jb.Cj {E E' : Ab} {b l n n' sz : Nat} {c : Array cb} {t : ao} (h : Jb E E' b l n n' sz c t) (g : Nat) : E'.w.heap[g]? = if g = E.w.heap.size then some (.cells c t (0, 0)) else E.w.heap[g]? := by
 rw [h.heap, ig]
theorem Jb.D8 {E E' : Ab} {b l n n' sz : Nat} {c : Array cb} {t : ao} (h : Jb E E' b l n n' sz c t) : GV E E' where
 lk := h.lk
 os := h.os
 tape := h.tape
 output := h.output
 size := by rw [h.heap]; simp
 len := by rw [h.n]; exact al _
 mm := h.m
 cell := by
  intro g i u hc _
  have hg := Gx hc
  simp only [World.cell?, h.Cj g] at hc ⊢
  rw [if_neg (by simp at hg; omega)]
  exact hc
 block := by
  intro g hg _
  rw [h.Cj g, if_neg (by omega)]
 mono := by
  intro lv g i _ hu
  rcases hu with hu | hu
  ·exact .inl (.inl (by rw [h.Bj] at hu; exact hu))
  cases lv with
  | some lv =>
   obtain ⟨x, h1, h2, h3⟩ := hu
   rw [h.lk] at h2
   rw [h.Bv x] at h3
   rw [h.CV x] at h1
   by_cases hb : x = b
   ·rw [if_pos hb] at h1; right; omega
   ·rw [if_neg hb] at h1
    rw [if_neg (fun e => hb e.symm)] at h3
    exact .inl (.inr ⟨x, h1, h2, h3⟩)
  | none =>
   obtain ⟨x, h1, h3⟩ := hu
   rw [h.Bv x] at h3
   rw [h.CV x] at h1
   by_cases hb : x = b
   ·rw [if_pos hb] at h1; right; omega
   ·rw [if_neg hb] at h1
    rw [if_neg (fun e => hb e.symm)] at h3
    exact .inl (.inr ⟨x, h1, h3⟩)
 CV := by
  intro x hx hn
  have hne : x ≠ b := fun e => hn l n sz (by rw [e]; exact h.W5)
  refine ⟨by rw [h.CV x, if_neg hne], fun q k z => ?_⟩
  rw [h.Bv x, if_neg (fun e => hne e.symm)]
  exact hn q k z
 cells := by
  intro x hx hn z cs
  rw [h.Bv x]
  split
  ·simp
  ·exact hn z cs
 C1 := by
  intro x q k z hx hB
  rw [h.Bv x] at hB
  by_cases hb : b = x
  ·subst hb
   rw [if_pos rfl] at hB
   simp only [ab, Bz.C1.injEq] at hB
   obtain ⟨rfl, rfl, rfl⟩ := hB
   exact ⟨n, h.W5, jv h.lt, fun e => absurd e (oh h.lt)⟩
  ·rw [if_neg hb] at hB
   refine ⟨k, hB, al _, fun _ => ⟨by rw [h.CV x, if_neg (fun e => hb e.symm)], fun c' t' hc => ⟨c', ?_, rfl⟩⟩⟩
   rw [h.Cj]
   split
   ·rename_i he
    have := az.1 hc |>.1
    omega
   ·exact hc
 fresh := by
  intro x hl
  rw [h.Bv x] at hl
  rw [h.CV x]
  by_cases hb : x = b
  ·rw [if_pos hb]; exact .inr (al _)
  ·rw [if_neg (fun e => hb e.symm)] at hl
   rw [if_neg hb]; exact .inl ⟨rfl, hl⟩
 Bj := fun g hg => by rw [h.Bj]; exact hg
 Ia := fun g hg => .inl (by rw [h.Bj] at hg; exact hg)
 Hh := fun g _ hl => by rw [h.Cj g, if_neg (by omega)]
theorem Jb.rel {E E' : Ab} {b l n n' sz : Nat} {c : Array cb} {t : ao} (h : Jb E E' b l n n' sz c t) (hh : CW E) : CW E' where
 cells := by
  intro x z cs hB
  rw [h.Bv x] at hB
  by_cases hb : b = x
  ·rw [if_pos hb] at hB; cases hB
  ·rw [if_neg hb] at hB
   obtain ⟨c', t', h1, h2, h3⟩ := hh.cells x z cs hB
   rw [h.CV x, if_neg (fun e => hb e.symm), h.Cj, if_neg (by have := az.1 h1 |>.1; omega)]
   exact ⟨c', t', h1, h2, fun i v hv => let ⟨u, h4, h5⟩ := h3 i v hv; ⟨u, h4, h.D8.rep hh v u h5⟩⟩
 dm := by rw [h.m, h.lk]; exact hh.dm
 lvl := by
  intro x q k z hB
  rw [h.Bv x] at hB
  rw [h.lk]
  by_cases hb : b = x
  ·subst hb
   rw [if_pos rfl] at hB
   simp only [ab, Bz.C1.injEq] at hB
   obtain ⟨rfl, rfl, rfl⟩ := hB
   exact hh.lvl _ _ _ _ h.W5
  ·rw [if_neg hb] at hB
   exact hh.lvl x q k z hB
 C1 := by
  intro x q k z hB
  rw [h.Bv x] at hB
  by_cases hb : b = x
  ·subst hb
   rw [if_pos rfl] at hB
   simp only [ab, Bz.C1.injEq] at hB
   obtain ⟨rfl, rfl, rfl⟩ := hB
   rw [h.CV, if_pos rfl, h.Cj, if_pos rfl]
   exact ⟨c, t, rfl, h.size⟩
  ·rw [if_neg hb] at hB
   obtain ⟨c', t', h1, h2⟩ := hh.C1 x q k z hB
   rw [h.CV x, if_neg (fun e => hb e.symm), h.Cj, if_neg (by have := az.1 h1 |>.1; omega)]
   exact ⟨c', t', h1, h2⟩
 maps := by
  intro x BP hB
  rw [h.Bv x] at hB
  by_cases hb : b = x
  ·rw [if_pos hb] at hB; cases hB
  ·rw [if_neg hb] at hB
   obtain ⟨h1, h2⟩ := hh.maps x BP hB
   rw [h.CV x, if_neg (fun e => hb e.symm), h.Cj, if_neg (by have := az.1 h1 |>.1; omega)]
   exact ⟨h1, h2⟩
 inj := by
  intro x y h1 h2 he
  rw [h.Bv] at h1 h2
  rw [h.CV, h.CV] at he
  by_cases hx : x = b <;> by_cases hy : y = b
  ·omega
  ·rw [if_pos hx, if_neg hy] at he
   rw [if_neg (fun e => hy e.symm)] at h2
   have := FR hh h2
   omega
  ·rw [if_neg hx, if_pos hy] at he
   rw [if_neg (fun e => hx e.symm)] at h1
   have := FR hh h1
   omega
  ·rw [if_neg hx, if_neg hy] at he
   rw [if_neg (fun e => hx e.symm)] at h1
   rw [if_neg (fun e => hy e.symm)] at h2
   exact hh.inj x y h1 h2 he
 Bj := fun g hg => by
  rw [h.Bj] at hg
  obtain ⟨h1, h2⟩ := hh.Bj g hg
  refine ⟨by rw [h.heap, jx]; omega, fun x hl => ?_⟩
  rw [h.Bv] at hl
  rw [h.CV]
  by_cases hx : x = b
  ·rw [if_pos hx]; omega
  ·rw [if_neg (fun e => hx e.symm)] at hl; rw [if_neg hx]; exact h2 x hl
theorem Jb.DU {E E' : Ab} {b l n n' sz : Nat} {c : Array cb} {t : ao} (h : Jb E E' b l n n' sz c t) {base nb d : Nat} (hnb : nb ≤ E.n) (hd : d ≤ E.m) (hf : DO E base nb d) (hh : CW E) : DO E' base nb d := by
 intro x z cs hlt hB c' t' hc i v u hv hu
 rw [h.Bv] at hB
 by_cases hx : b = x
 ·rw [if_pos hx] at hB; cases hB
 ·rw [if_neg hx] at hB
  rw [h.CV, if_neg (fun e => hx e.symm), h.Cj] at hc
  split at hc
  ·rename_i he
   have := FR hh (b := x) (by rw [hB]; trivial)
   omega
  ·exact (h.D8.shrink hh hnb hd).rep v u (hf x z cs hlt hB c' t' hc i v u hv hu)
structure BG (c : Cx) (E E' : Ab) (H' : A6) : Prop where
 H : E'.H = H'
 n : E'.n = H'.length
 m : E'.m = E.m
 D8 : GV E E'
 heap : CW E'
 IX : c.hints.grow c.fn = false → ∀ base nb d, base ≤ c.base → nb ≤ E.n → d ≤ E.m → DO E base nb d → DO E' base nb d
 J4 : c.hints.grow c.fn = true → ∀ base d, base ≤ c.base → d ≤ E.m → DO E base E.n d → DO E' base E'.n d
 kept : ∀ b, b < c.base → AX c.lk b = false → H'[b]? = E.H[b]?
def HE (c : Cx) (E : Ab) (a : Act) (o : ch) (v : V) (H' : A6) : Prop :=
 ∃ E', BG c E E' H' ∧ ((∃ u, (execOp a.eval o).run c.P E.w = .ok (.value u) E'.w ∧ AB E' v u) ∨ ((execOp a.eval o).run c.P E.w = .ok .skip E'.w ∧ AB E' v undef))
theorem BG.refl {c : Cx} {E : Ab} {S : St} {a : Act} (hs : Cy c E S a) : BG c E E S.H where
 H := hs.H
 n := hs.n
 m := rfl
 D8 := GV.refl E
 heap := hs.heap
 IX := fun _ _ _ _ _ _ _ h => h
 J4 := fun _ _ _ _ _ h => h
 kept := fun _ _ _ => by rw [hs.H]
theorem Dg.makes {c : Cx} {E : Ab} {S : St} {a : Act} {o : ch} {v : V} (h : Dg c E a o v) (hs : Cy c E S a) : HE c E a o v S.H :=
 let ⟨u, h1, h2⟩ := h
 ⟨E, BG.refl hs, .inl ⟨u, h1, h2⟩⟩
def Ab.push (E : Ab) (w : et) (AW : Bz) : Ab :=
  { w := w, φ := fun b => if b = E.H.length then E.w.heap.size else E.φ b, H := E.H ++ [AW], lk := E.lk, n := E.n + 1, m := E.m, Bj := E.Bj }
theorem Ab.TB (E : Ab) (w : et) (AW : Bz) {c : Array cb} {t : ao} (h1 : w.heap = E.w.heap.push (.cells c t (0, 0))) (h2 : w.os = E.w.os) (h3 : w.tape = E.w.tape) (h4 : w.output = E.w.output) (h5 : E.n = E.H.length) : GJ E (E.push w AW) c t AW where
 heap := h1
 os := h2
 tape := h3
 output := h4
 CV := fun _ => rfl
 H := rfl
 lk := rfl
 n := rfl
 m := rfl
 Bj := rfl
 n0 := h5
section
variable {c : Cx} {E : Ab} {S : St} {a : Act} {o : ch}
theorem GJ.after (hs : Cy c E S a) {E' : Ab} {cs : Array cb} {t : ao} {AW : Bz} (h : GJ E E' cs t AW) (hr : CW E') : BG c E E' (S.H ++ [AW]) where
 H := by rw [h.H, hs.H]
 n := by rw [h.n, hs.n]; simp
 m := h.m
 D8 := h.D8
 heap := hr
 IX := fun _ base nb d hb hn hd hf => h.DU (by have := hs.base; have := hs.n; omega) hn hd hf hs.heap
 J4 := fun _ base d hb hd hf => (h.DU (by have := hs.base; have := hs.n; omega) (al _) hd hf hs.heap).up h.D8.len
 kept := fun b hb _ => by rw [hs.H, aw (by have := hs.base; omega)]
theorem J7 {P : bm} {t : ao} {n : Nat} (h : B8 P t = some n) : ∃ i, P.info? t = some i ∧ i.size = n := by
 unfold B8 at h
 simpa only [ag] using h
theorem JN {P : bm} {t : ao} {z : List V} (h : BJ P t = some z) : ∃ i x v, P.info? t = some i ∧ i.zero = some x ∧ Ea x = some v ∧ z = v.cellsOf := by
 unfold BJ at h
 simp only [af, ag] at h
 obtain ⟨x, ⟨i, h1, h2⟩, v, h3, rfl⟩ := h
 exact ⟨i, x, v, h1, h2, h3, rfl⟩
theorem QE {x : cb} {v : V} (h : Du x = some v) : (∀ vs, v ≠ .GS vs) ∧ ∀ vs, v ≠ .agg vs := by
 cases x with
 | int _ _ => simp only [Du, ab] at h; subst h; simp
 | bool _ => simp only [Du, ab] at h; subst h; simp
 | string _ => simp only [Du, ab] at h; subst h; simp
 | pointer p => cases p <;> simp only [Du, ab, reduceCtorEq] at h; subst h; simp
 | slice p n m => simp only [Du] at h; split at h <;> simp_all <;> (subst h; simp)
 | nilFunc => simp only [Du, ab] at h; subst h; simp
 | _ => simp [Du] at h
theorem O1 {x : cb} {v : V} (h : Ea x = some v) : ∀ vs, v ≠ .GS vs := by
 cases x with
 | agg cs => simp only [Ea, ag] at h; obtain ⟨_, _, rfl⟩ := h; simp
 | _ => exact (QE (by simpa only [Ea] using h)).1
theorem Gn (E : Ab) {x : cb} {v : V} (h : Ea x = some v) : AU E v.cellsOf x.cells.toList := Ii (I7 E x v h) (O1 h)
theorem U1 (hs : Cy c E S a) {t : ao} {z : List V} {sz : Nat} (ho : o.op = .alloc t) (hz : BJ c.P t = some z) : HE c E a o (.ptr S.H.length 0) (S.H ++ [.cells sz z]) := by
 obtain ⟨i, x, v, h1, h2, h3, rfl⟩ := JN hz
 have hp := Ab.TB E (E.w.alloc (.cells x.cells t)) (.cells sz v.cellsOf) (c := x.cells) (t := t) rfl rfl rfl rfl (by rw [hs.n, hs.H])
 obtain ⟨hl, hg⟩ := BX _ _ (Gn E h3)
 have hr := hp.rel hs.heap (fun sz' cs e => by
  simp only [Bz.cells.injEq] at e
  obtain ⟨rfl, rfl⟩ := e
  exact ⟨by rw [hl]; simp, fun i v hv => by simpa using hg i v hv⟩) (fun l n sz e => by cases e)
 refine ⟨_, hp.after hs hr, .inl ⟨.pointer (some ⟨E.w.heap.size, 0, none⟩), ?_, ?_⟩⟩
 ·simp [execOp, ho, Instr.alloc, zeroValue, typeInfo, h1, h2, newVar, newRow]; rfl
 ·simp only [AB]
  rw [hp.n, hs.n, hp.CV, hs.H]
  refine ⟨by omega, by rw [if_pos rfl], fun l n z => ?_⟩
  rw [hp.Bv, hs.H, if_pos rfl]
  simp
theorem Xm (hs : Cy c E S a) {t : ao} {x : au} {v : V} {sz : Nat} (ho : o.op = .box t x) (hx : ev S.T x = some v) (hc : v.cellsOf.all V.Bm = true) : HE c E a o (.ptr S.H.length 0) (S.H ++ [.cells sz v.cellsOf]) := by
 have hrv := BD hs x v hx
 have ht : ∀ vs, v ≠ .GS vs := by rintro vs rfl; simp [V.cellsOf, V.Bm] at hc
 have hp := Ab.TB E (E.w.alloc (.cells (a.eval x).cells t)) (.cells sz v.cellsOf) (c := (a.eval x).cells) (t := t) rfl rfl rfl rfl (by rw [hs.n, hs.H])
 obtain ⟨hl, hg⟩ := BX _ _ (Ii hrv ht)
 have hr := hp.rel hs.heap (fun sz' cs e => by
  simp only [Bz.cells.injEq] at e
  obtain ⟨rfl, rfl⟩ := e
  exact ⟨by rw [hl]; simp, fun i v hv => by simpa using hg i v hv⟩) (fun l n sz e => by cases e)
 refine ⟨_, hp.after hs hr, .inl ⟨.pointer (some ⟨E.w.heap.size, 0, none⟩), ?_, ?_⟩⟩
 ·simp [execOp, ho, Instr.box, newVar, newRow]; rfl
 ·simp only [AB]
  rw [hp.n, hs.n, hp.CV, hs.H]
  refine ⟨by omega, by rw [if_pos rfl], fun l n z => ?_⟩
  rw [hp.Bv, hs.H, if_pos rfl]
  simp
theorem LI (cs xs : List V) (off : Nat) (h : off + xs.length ≤ cs.length) (i : Nat) : (Bo cs off xs)[i]? = if off ≤ i ∧ i < off + xs.length then xs[i - off]? else cs[i]? := by
 unfold Bo
 rcases bz i off with hi | hi
 ·rw [if_neg (by omega), bf, aw (by simp; omega), ew hi]
 ·rcases bz i (off + xs.length) with hj | hj
  ·rw [if_pos ⟨hi, hj⟩, bf, bu (by simp; omega), aw (by simp; omega)]
   congr 1
   simp; omega
  ·rw [if_neg (by omega), bu (by simp; omega), eo]
   congr 1
   simp; omega
theorem IL (cs xs : List V) (off : Nat) (h : off + xs.length ≤ cs.length) : (Bo cs off xs).length = cs.length := by
 unfold Bo; simp; omega
theorem IP {c : Cx} (hl : ∀ l ∈ c.lk, ∀ x ∈ l, x < c.base) {b : Nat} (h : c.BV b = true) : AX c.lk b = true := by
 unfold Cx.BV at h
 simp only [df, decide_eq_true_eq] at h
 rcases h with h | h
 ·unfold AX
  rw [cj]
  intro l hx
  simp only [eb, List.contains_eq_mem, decide_eq_false_iff_not]
  intro hm
  have := hl l hx b hm
  omega
 ·exact h
theorem Jc (c : Array cb) (us : List cb) (off : Nat) (h : off + us.length ≤ c.size) (i : Nat) :
  (c.toList.take off ++ us ++ c.toList.drop (off + us.length)).toArray[i]? = if off ≤ i ∧ i < off + us.length then us[i - off]? else c[i]? := by
 rw [ib]
 rcases bz i off with hi | hi
 ·rw [if_neg (by omega), bf, aw (by simp; omega), ew hi, eu]
 ·rcases bz i (off + us.length) with hj | hj
  ·rw [if_pos ⟨hi, hj⟩, bf, bu (by simp; omega), aw (by simp; omega)]
   congr 1
   simp; omega
  ·rw [if_neg (by omega), bu (by simp; omega), eo, eu]
   congr 1
   simp; omega
def Ab.write (E : Ab) (b : Nat) (c' : Array cb) (AW : Bz) : Ab := { E with w := E.w.setRow (E.φ b) c', H := E.H.set b AW }
theorem BG.trans {E' : Ab} {H' : A6} {E'' : Ab} {H'' : A6} (h : BG c E E' H') (k : BG c E' E'' H'') : BG c E E'' H'' where
 H := k.H
 n := k.n
 m := k.m.trans h.m
 D8 := h.D8.trans k.D8
 heap := k.heap
 IX := fun hg base nb d hb hn hd hf => k.IX hg base nb d hb (cu hn h.D8.len) (by rw [h.m]; exact hd) (h.IX hg base nb d hb hn hd hf)
 J4 := fun hg base d hb hd hf => k.J4 hg base d hb (by rw [h.m]; exact hd) (h.J4 hg base d hb hd hf)
 kept := fun b hb hl => (k.kept b hb hl).trans (by rw [h.H]; exact h.kept b hb hl)
theorem Ju {lo : Nat} {f : A6 → V → Option (V × A6)} (hf : ∀ H v v' H', f H v = some (v', H') → ∀ b : Nat, b < lo → H'[b]? = H[b]?) :
  ∀ (vs : List V) (H : A6) (vs' : List V) (H' : A6), BC.giveL f H vs = some (vs', H') → ∀ b : Nat, b < lo → H'[b]? = H[b]?
 | [], H, vs', H', h, b, hb => by
  simp only [BC.giveL, ab, ah] at h
  obtain ⟨_, rfl⟩ := h
  rfl
 | v :: vs, H, vs', H', h, b, hb => by
  simp only [BC.giveL, af, ag, Prod.exists, ah] at h
  obtain ⟨v1, H1, h1, vs2, H2, h2, _, rfl⟩ := h
  exact (Ju hf vs H1 vs2 H2 h2 b hb).trans (hf H v v1 H1 h1 b hb)
theorem KN (lo : Nat) : ∀ (k : Nat) (H : A6) (v v' : V) (H' : A6), BC lo k H v = some (v', H') → ∀ b : Nat, b < lo → H'[b]? = H[b]?
 | 0, H, v, v', H', h => by simp [BC] at h
 | k + 1, H, v, v', H', h => by
  have same : (v', H') = (v, H) → ∀ b : Nat, b < lo → H'[b]? = H[b]? := by
   intro e
   simp only [ah] at e
   obtain ⟨_, rfl⟩ := e
   exact fun _ _ => rfl
  have ih := Ju (lo := lo) fun (H : A6) (v v' : V) (H' : A6) (h : BC lo k H v = some (v', H')) => KN lo k H v v' H' h
  have kill : ∀ (x b : Nat), ¬ x < lo → b < lo → (H.set x .dead)[b]? = H[b]? := by
   intro x b h1 h2
   rw [Ai, if_neg (by omega)]
  cases v with
  | int _ _ => simp only [BC, ab] at h; exact same h.symm
  | bool _ => simp only [BC, ab] at h; exact same h.symm
  | str _ => simp only [BC, ab] at h; exact same h.symm
  | IJ => simp only [BC, ab] at h; exact same h.symm
  | FP => simp only [BC, ab] at h; exact same h.symm
  | ptr _ _ => simp [BC] at h
  | Ft _ => simp [BC] at h
  | lp _ _ _ => simp [BC] at h
  | fn _ _ => simp [BC] at h
  | GS _ => simp [BC] at h
  | lit lv n cs =>
   simp only [BC] at h
   split at h
   ·simp only [ab] at h; exact same h.symm
   ·cases h
  | tl n cs =>
   simp only [BC, ag, Prod.exists, ah] at h
   obtain ⟨cs', H1, h1, _, rfl⟩ := h
   exact ih cs H cs' H1 h1
  | snap x n cs =>
   simp only [BC] at h
   split at h
   case h_2 => cases h
   split at h
   ·cases h
   rename_i hx
   simp only [ag, Prod.exists, ah] at h
   obtain ⟨cs', H1, h1, _, rfl⟩ := h
   exact fun b hb => (ih cs _ cs' H1 h1 b hb).trans (kill x b (fun h => hx (.inl h)) hb)
  | sl x off n =>
   simp only [BC] at h
   split at h
   case h_2 => cases h
   split at h
   ·cases h
   rename_i hx
   simp only [ag, Prod.exists, ah] at h
   obtain ⟨cs', H1, h1, _, rfl⟩ := h
   exact fun b hb => (ih _ _ cs' H1 h1 b hb).trans (kill x b (fun h => hx (.inl h)) hb)
  | agg cs =>
   simp only [BC, ag, Prod.exists, ah] at h
   obtain ⟨cs', H1, h1, _, rfl⟩ := h
   exact ih cs H cs' H1 h1
theorem VE (hs : Cy c E S a) {k : Nat} {v v' : V} {H' : A6} (h : BC c.base k S.H v = some (v', H')) : BG c E (E.heap H') H' ∧ (∀ u, AB E v u → AB ((E.heap H').shrink 0 0) v' u) ∧ H'.length = S.H.length := by
 have hg := J6 c.base k E v v' H' (by rw [hs.H]; exact h) hs.heap
 obtain ⟨e, r, p⟩ := hg
 have hlen := Hz c.base k S.H v v' H' h
 have hrf : ∀ base nb d, nb ≤ E.n → d ≤ E.m → DO E base nb d → DO (E.heap H') base nb d := by
  intro base nb d hnb hd hf b sz cs hlt hB c' t hc i x u hv hu
  have hsame := Pk c.base k S.H v v' H' h b sz cs hB
  rw [← hs.H] at hsame
  exact (e.shrink hs.heap hnb hd).rep x u (hf b sz cs hlt hsame c' t hc i x u hv hu)
 refine ⟨⟨rfl, ?_, rfl, e, r, fun _ base nb d _ hn hd hf => hrf base nb d hn hd hf, fun _ base d _ hd hf => hrf base E.n d (al _) hd hf, fun b hb _ => by rw [KN c.base k S.H v v' H' h b hb, hs.H]⟩, p, hlen⟩
 show E.n = _; rw [hs.n, hlen]
theorem Uc {E : Ab} {b sz : Nat} {cs : List V} {c0 : Array cb} {t : ao} (cs' : List V) (c' : Array cb) (hrow : E.w.heap[E.φ b]? = some (.cells c0 t (0, 0))) (hsz : c'.size = c0.size) (hn : E.n = E.H.length)
  (hfree : AX E.lk b = true) (hb : E.H[b]? = some (.cells sz cs)) (hnh : E.φ b ∉ E.Bj) : Hl E (E.write b c' (.cells sz cs')) b c0 c' t (.cells sz cs') where
 w := rfl
 row := hrow
 size := hsz
 CV := rfl
 H := rfl
 lk := rfl
 n := rfl
 m := rfl
 Bj := rfl
 Nl := hnh
 n0 := hn
 free := hfree
 kind := .inl ⟨sz, cs, cs', hb, rfl⟩
theorem LJ (hs : Cy c E S a) {E1 : Ab} {H1 : A6} (ha : BG c E E1 H1) (hw1 : E1.w = E.w) {t : ao} {p x : au} {b off sz : Nat} {cs : List V} {x' : V} (ho : o.op = .store t p x)
  (hp : AB E1 (.ptr b off) (a.eval p)) (hx : AB E1 x' (a.eval x)) (hf : b < c.base → AB (E1.shrink (if c.hints.grow c.fn = true then E1.n else 0) 0) x' (a.eval x)) (hfree : AX E1.lk b = true) (hb : H1[b]? = some (.cells sz cs))
  (hsz : B8 c.P t = some x'.cellsOf.length) (hfit : off + x'.cellsOf.length ≤ cs.length) (hcell : x'.cellsOf.all V.Bm = true) : HE c E a o Ck (H1.set b (.cells sz (Bo cs off x'.cellsOf))) := by
 have hb' : E1.H[b]? = some (.cells sz cs) := by rw [ha.H]; exact hb
 obtain ⟨c0, ty, q1, q2, q3⟩ := ha.heap.cells b sz cs hb'
 have ht : ∀ vs, x' ≠ .GS vs := by rintro vs rfl; simp [V.cellsOf, V.Bm] at hcell
 have hvs := Ii hx ht
 obtain ⟨hl, hg⟩ := BX _ _ hvs
 simp only [AB] at hp
 obtain ⟨_, hp, _⟩ := hp
 have hone : ∀ v ∈ (a.eval x).cells.toList, v.oneCell' = true := by
  intro v hv
  obtain ⟨i, hi⟩ := ml hv
  have hil : i < x'.cellsOf.length := by
   rw [hl]
   exact (ak.1 hi).1
  obtain ⟨u, h1, h2⟩ := hg i _ (ae hil)
  rw [hi] at h1
  simp only [ab] at h1
  subst h1
  rw [cj] at hcell
  exact Np h2 (hcell _ (bg hil))
 have hrun := run_storeCells_at c.P (E1.φ b) off ty (a.eval x).cells.toList 0 c0 E.w (by rw [← hw1]; exact q1) (by rw [← hl]; omega) hone
 simp only [ir] at hrun
 have hsize : (a.eval x).cells.size = x'.cellsOf.length := by rw [hl]; simp
 let c' : Array cb := (c0.toList.take off ++ (a.eval x).cells.toList ++ c0.toList.drop (off + (a.eval x).cells.toList.length)).toArray
 have hc'size : c'.size = c0.size := by
  have : off + (a.eval x).cells.toList.length ≤ c0.size := by rw [← hl]; omega
  simp only [c', jt, an, dn, im, kn] at *
  omega
 have hc'get : ∀ i, c'[i]? = if off ≤ i ∧ i < off + (a.eval x).cells.toList.length then (a.eval x).cells.toList[i - off]? else c0[i]? := fun i => Jc c0 _ off (by rw [← hl]; omega) i
 have hwr := Uc (Bo cs off x'.cellsOf) c' q1 hc'size (by rw [ha.n, ha.H]) hfree hb' (fun e => (ha.heap.Bj _ e).2 b (by rw [hb']; trivial) rfl)
 have hnew : ∀ (i : Nat) v, (Bo cs off x'.cellsOf)[i]? = some v → ∃ u, c'[i]? = some u ∧ AB E1 v u := by
  intro i v hv
  rw [LI cs _ off hfit] at hv
  rw [hc'get, ← hl]
  by_cases hc : off ≤ i ∧ i < off + x'.cellsOf.length
  ·rw [if_pos hc] at hv ⊢
   exact hg _ v hv
  ·rw [if_neg hc] at hv ⊢
   exact q3 i v hv
 have hr := hwr.rel ha.heap (fun sz' cs' e => by
  simp only [Bz.cells.injEq] at e
  obtain ⟨_, rfl⟩ := e
  exact ⟨by rw [IL cs _ off hfit, hc'size]; exact q2, hnew⟩) (fun l n sz e => by cases e)
 have hfor : ∀ base nb d, base ≤ c.base → nb ≤ E1.n → (c.hints.grow c.fn = true → nb = E1.n) → d ≤ E1.m → DO E1 base nb d → DO (E1.write b c' (.cells sz (Bo cs off x'.cellsOf))) base nb d := by
  intro base nb d hbase hnb hgr hd hf1
  refine hwr.DU hnb hd hf1 ha.heap (fun sz' cs' e hlt i v u hv hu => ?_)
  simp only [Bz.cells.injEq] at e
  obtain ⟨_, rfl⟩ := e
  rw [LI cs _ off hfit] at hv
  rw [hc'get, ← hl] at hu
  by_cases hc : off ≤ i ∧ i < off + x'.cellsOf.length
  ·rw [if_pos hc] at hv hu
   obtain ⟨_, hg'⟩ := BX _ _ (Ii (hf (cw hlt hbase)) ht)
   obtain ⟨u', h1, h2⟩ := hg' _ v hv
   rw [hu] at h1
   simp only [ab] at h1
   subst h1
   refine (Cn.grow (E1.shrink nb d) (n := _) (m := 0) ?_ (dq _)).rep _ _ h2
   show (if c.hints.grow c.fn = true then E1.n else 0) ≤ nb
   split
   ·rename_i hgt; rw [hgr hgt]; exact al _
   ·exact dq _
  ·rw [if_neg hc] at hv hu
   exact hf1 b sz cs hlt hb' c0 ty q1 i v u hv hu
 refine ⟨E1.write b c' (.cells sz (Bo cs off x'.cellsOf)), ⟨?_, ?_, ha.m, ha.D8.trans hwr.D8, hr,
  fun hg base nb d hb0 hn hd hf0 => hfor base nb d hb0 (cu hn ha.D8.len) (fun h => by rw [hg] at h; cases h) (by rw [ha.m]; exact hd) (ha.IX hg base nb d hb0 hn hd hf0),
  fun hg base d hb0 hd hf0 => hfor base _ d hb0 (al _) (fun _ => rfl) (by rw [ha.m]; exact hd) (ha.J4 hg base d hb0 hd hf0),
  fun b' hb0 hl0 => ?_⟩, .inr ⟨?_, ?_⟩⟩
 ·show E1.H.set b _ = _; rw [ha.H]
 ·show E1.n = _; rw [ha.n]; simp
 ·rw [Ai, if_neg, ha.kept b' hb0 hl0]
  rintro ⟨rfl, _⟩
  rw [ha.D8.lk, hs.lk] at hfree
  rw [hfree] at hl0
  cases hl0
 ·simp only [execOp, ho, hp, Instr.storeAt, Instr.sureAddr, storeVar, Sem.run_bind, Sem.run_pure, Result.andThen_ok, Ep hsz, hsize, ne_eq, not_true_eq_false, if_false, hrun]
  show Result.ok Next.skip (E.w.setRow (E1.φ b) c') = Result.ok Next.skip (E1.w.setRow (E1.φ b) c')
  rw [hw1]
 ·simp only [Ck, AB]
  exact ⟨#[], rfl, by simp only [AU]⟩
theorem U4 (hs : Cy c E S a) {t : ao} {p x : au} {P X : V} {H' : A6} (ho : o.op = .store t p x) (hp : ev S.T p = some P) (hx : ev S.T x = some X) (h : G7 c t S.H P X = some H') : HE c E a o Ck H' := by
 have hrp := BD hs p _ hp
 have hrx := BD hs x _ hx
 cases P with
 | ptr b off =>
  simp only [G7] at h
  split at h
  case isFalse => cases h
  rename_i hmw
  have hfree := IP hs.EH hmw
  simp only [af, Prod.exists] at h
  obtain ⟨X1, H1, hX, h⟩ := h
  split at h
  case h_2 => cases h
  rename_i sz cs hb
  split at h
  case isFalse => cases h
  rename_i hcond
  simp only [ab] at h
  subst h
  obtain ⟨k1, k2, k3⟩ := hcond
  by_cases hlt : b < c.base
  ·rw [if_pos hlt] at hX
   split at hX
   ·rename_i hgrow
    split at hX
    case isFalse => cases hX
    rename_i hcl
    simp only [ab, ah] at hX
    obtain ⟨rfl, rfl⟩ := hX
    refine LJ hs (BG.refl hs) rfl ho hrp hrx (fun _ => ?_) (by rw [hs.lk]; exact hfree) hb k1 k2 k3
    rw [if_pos hgrow]
    exact HJ (E := E) (d := 0) X _ hcl hrx
   ·rename_i hgrow
    obtain ⟨ha, hr, hlen⟩ := VE hs hX
    refine LJ hs ha rfl ho (ha.D8.rep hs.heap _ _ hrp) ?_ (fun _ => ?_) (by show AX E.lk b = true; rw [hs.lk]; exact hfree) hb k1 k2 k3
    ·exact (Cn.grow (E.heap H1) (dq _) (dq _)).rep _ _ (hr _ hrx)
    ·rw [if_neg hgrow]
     exact hr _ hrx
  ·rw [if_neg hlt] at hX
   simp only [ab, ah] at hX
   obtain ⟨rfl, rfl⟩ := hX
   exact LJ hs (BG.refl hs) rfl ho hrp hrx (fun h => absurd h hlt) (by rw [hs.lk]; exact hfree) hb k1 k2 k3
 | _ => simp [G7] at h
theorem Vy {E : Ab} {cs xs : List V} {arr : Array cb} {us : List cb} {off : Nat} (hc : AU E cs arr.toList) (hx : AU E xs us) (hfit : off + xs.length ≤ cs.length) {arr' : Array cb} (hsz : arr'.size = arr.size)
  (hg : ∀ k, arr'[k]? = if off ≤ k ∧ k < off + us.length then us[k - off]? else arr[k]?) : AU E (Bo cs off xs) arr'.toList := by
 obtain ⟨l1, g1⟩ := BX _ _ hc
 obtain ⟨l2, g2⟩ := BX _ _ hx
 refine EO _ _ ?_ fun i v u hi hj => ?_
 ·rw [IL cs xs off hfit, l1]; simp [hsz]
 ·rw [LI cs xs off hfit] at hi
  rw [eu, hg, ← l2] at hj
  by_cases h : off ≤ i ∧ i < off + xs.length
  ·rw [if_pos h] at hi hj
   obtain ⟨u', h1, h2⟩ := g2 _ v hi
   rw [hj] at h1
   simp only [ab] at h1
   subst h1
   exact h2
  ·rw [if_neg h] at hi hj
   obtain ⟨u', h1, h2⟩ := g1 _ v hi
   rw [eu, hj] at h1
   simp only [ab] at h1
   subst h1
   exact h2
def KX (E : Ab) : List (Nat × V) → List (Nat × cb) → Prop
 | [], us => us = []
 | (i, v) :: ps, us => ∃ u us', us = (i, u) :: us' ∧ AB E v u ∧ KX E ps us'
theorem GV.oP {E E' : Ab} (h : GV E E') (hh : CW E) : ∀ (ps : List (Nat × V)) (us : List (Nat × cb)), KX E ps us → KX E' ps us
 | [], _, r => r
 | (_, v) :: ps, _, r => by
  simp only [KX] at r ⊢
  obtain ⟨u, us', h1, h2, h3⟩ := r
  exact ⟨u, us', h1, h.rep hh v u h2, h.oP hh ps us' h3⟩
theorem TF (hs : Cy c E S a) : ∀ (xs : List (Nat × au)) (ps : List (Nat × V)), S5 S.T xs = some ps → KX E ps (xs.map fun p => (p.1, a.eval p.2))
 | [], ps, h => by simp only [S5, ab] at h; subst h; simp only [KX, ft]
 | (i, x) :: xs, ps, h => by
  simp only [S5, af, ag] at h
  obtain ⟨v, hv, ws, hw, rfl⟩ := h
  simp only [KX, dj]
  exact ⟨_, _, rfl, BD hs x v hv, TF hs xs ws hw⟩
theorem Kz {E : Ab} (place : Nat → Option (Nat × Nat)) : ∀ (ps : List (Nat × V)) (us : List (Nat × cb)) (cs : List V) (arr : Array cb) (cs' : List V),
  Dv place cs ps = some cs' → KX E ps us → AU E cs arr.toList → ∃ arr', Instr.fill place arr us = some arr' ∧ AU E cs' arr'.toList
 | [], us, cs, arr, cs', h, hp, hc => by
  simp only [Dv, ab] at h
  subst h
  simp only [KX] at hp
  subst hp
  exact ⟨arr, rfl, hc⟩
 | (i, v) :: ps, us, cs, arr, cs', h, hp, hc => by
  simp only [KX] at hp
  obtain ⟨u, us', rfl, hu, hus⟩ := hp
  simp only [Dv] at h
  split at h
  ·cases h
  ·rename_i off sz hpl
   split at h
   ·cases h
   ·rename_i hcond
    simp only [not_or, dw, Decidable.not_not, nc] at hcond
    obtain ⟨h1, h2, h3⟩ := hcond
    have ht : ∀ vs, v ≠ .GS vs := by rintro vs rfl; simp [V.cellsOf, V.Bm] at h3
    have hvs := Ii hu ht
    obtain ⟨l1, _⟩ := BX _ _ hc
    obtain ⟨l2, _⟩ := BX _ _ hvs
    have hsz : u.cells.size = sz := by rw [← h1, l2]; simp
    have harr : arr.size = cs.length := by rw [l1]; simp
    have hfold := Go.Great.foldl_set off u.cells.toList 0 arr
    simp only [ir] at hfold
    obtain ⟨f1, f2⟩ := hfold
    have hstep : Instr.fill place arr ((i, u) :: us') = Instr.fill place ((u.cells.toList.zipIdx 0).foldl (fun cs (x : cb × Nat) => cs.setIfInBounds (off + x.2) x.1) arr) us' := by
     simp only [Instr.fill, hpl]
     rw [if_neg (by simp only [hsz, ne_eq, not_true_eq_false, decide_false, Bool.false_or, decide_eq_true_eq]; omega)]
     rw [← Array.foldl_toList, Array.toList_zipIdx]
    rw [hstep]
    refine Kz place ps us' (Bo cs off v.cellsOf) _ cs' h hus (Vy hc hvs (by omega) f1 fun k => ?_)
    rw [f2 k]
    by_cases hk : off ≤ k ∧ k < off + u.cells.toList.length
    ·rw [if_pos hk, if_pos ⟨hk.1, hk.2, by rw [← l2] at hk; omega⟩]
    ·rw [if_neg hk, if_neg (fun e => hk ⟨e.1, e.2.1⟩)]
theorem Ki (place : Nat → Option (Nat × Nat)) : ∀ (ps : List (Nat × V)) (cs cs' : List V), Dv place cs ps = some cs' → cs'.length = cs.length
 | [], cs, cs', h => by simp only [Dv, ab] at h; rw [h]
 | (i, v) :: ps, cs, cs', h => by
  simp only [Dv] at h
  split at h
  ·cases h
  ·split at h
   ·cases h
   ·rename_i hcond
    simp only [not_or, dw, Decidable.not_not, nc] at hcond
    rw [Ki place ps _ cs' h, IL _ _ _ (by omega)]
theorem Tr (hs : Cy c E S a) {t : ao} {parts : Array (Nat × au)} {ps : List (Nat × V)} {z cs : List V} {pl : List (Nat × Nat)} (ho : o.op = .build t parts) (hp : S5 S.T parts.toList = some ps) (hz : BJ c.P t = some z) (hpl : FT c.P t = some pl)
  (h : Dv (fun i => pl[i]?) z ps = some cs) : Dg c E a o (.agg cs) := by
 obtain ⟨i, x, v, h1, h2, h3, rfl⟩ := JN hz
 obtain ⟨arr, k1, k2⟩ := Kz _ ps _ _ x.cells cs h (TF hs _ _ hp) (Gn E h3)
 unfold FT at hpl
 split at hpl
 case h_2 => cases hpl
 rename_i fs hu
 have hb : c.P.built t (parts.map fun (i, x) => (i, a.eval x)).toList = some arr := by
  simp only [Program.built, h1, hu, h2, hpl, Array.toList_map]
  simpa using k1
 refine ⟨.agg arr, by simp only [execOp, ho, run_build E.w t _ arr hb, Sem.run_bind, Result.andThen_ok, Sem.run_pure], ?_⟩
 simp only [AB]
 exact ⟨arr, rfl, k2⟩
theorem Nc {α : Type} (l : List α) : ∀ (n i : Nat), i < n * l.length → (cq n l).flatten[i]? = l[i % l.length]?
 | 0, i, h => by omega
 | n + 1, i, h => by
  rw [kz, ng]
  rcases bz i l.length with hi | hi
  ·rw [aw hi, Nat.mod_eq_of_lt hi]
  ·rw [bu hi, Nc l n (i - l.length) (by rw [iu, oo] at h; omega), Nat.mod_eq_sub_mod hi]
theorem Jt {α : Type} (l : List α) (n : Nat) : (cq n l).flatten.length = n * l.length := by
 induction n with
 | zero => simp
 | succ n ih => rw [kz, ng, an, ih, iu, oo, Nat.add_comm]
theorem Q6 {E : Ab} {z : List V} {x : cb} (hz : AU E z x.cells.toList) (hpos : z.length ≠ 0) (n : Nat) : AU E (cq n z).flatten (madeCells x.cells (n * z.length)).toList := by
 obtain ⟨l, g⟩ := BX _ _ hz
 refine EO _ _ (by rw [Jt]; simp [size_madeCells]) fun i v u hi hj => ?_
 have hil : i < n * z.length := by
  rcases bz i (n * z.length) with h | h
  ·exact h
  ·rw [ba (by rw [Jt]; exact h)] at hi; cases hi
 rw [Nc z n i hil] at hi
 obtain ⟨u', h1, h2⟩ := g _ v hi
 have hx : x.cells.size = z.length := by rw [l]; simp
 have hlt : i % z.length < x.cells.size := by rw [hx]; exact Nat.mod_lt _ (by omega)
 have : (madeCells x.cells (n * z.length))[i]? = some u' := by
  unfold madeCells
  rw [Array.getElem?_map, Array.getElem?_range]
  simp only [hil, if_true, aj, hx, ab]
  rw [getElem!_pos x.cells (i % z.length) hlt]
  rw [eu, gf hlt] at h1
  simpa using h1
 rw [eu, this] at hj
 simp only [ab] at hj
 subst hj
 exact h2
theorem Vb {E : Ab} {v : V} {u : cb} (h : AB E v u) : AB E (Va v) u := by
 unfold Va
 split
 ·simp only [AB] at h ⊢
  obtain ⟨A, h1, _⟩ := h
  exact ⟨dq _, A, 0, h1, al _, .inl trivial⟩
 ·exact h
theorem Xq {E : Ab} (kp : Bool) {v : V} {u : cb} (h : AB E v u) : AB E (I3 kp v) u := by
 unfold I3
 cases kp
 ·exact Vb h
 ·exact h
theorem K4 {E : Ab} {kp : Bool} : ∀ {vs : List V} {us : List cb}, AU E vs us → AU E (vs.map (I3 kp)) us
 | [], us, h => h
 | v :: vs, us, h => by
  simp only [AU, dj] at h ⊢
  obtain ⟨u, us', h1, h2, h3⟩ := h
  exact ⟨u, us', h1, Xq kp h2, K4 h3⟩
theorem VX (hs : Cy c E S a) {t : ao} {n m : au} {N M v : V} {H' : A6} (ho : o.op = .makeSlice t n m) (hn : ev S.T n = some N) (hm : ev S.T m = some M) {kp : Bool} (h : Jz c.P kp t S.H N M = some (v, H')) : HE c E a o v H' := by
 have r1 := BD hs n _ hn
 have r2 := BD hs m _ hm
 unfold Jz at h
 split at h
 case h_2 => cases h
 rename_i k l
 simp only [af] at h
 obtain ⟨e, he, sz, hsz, by_, hby, z, hz, h⟩ := h
 split at h
 case isFalse => cases h
 rename_i hc
 obtain ⟨rfl, h0, hb, hzl, hsz0⟩ := hc
 simp only [ab, ah] at h
 obtain ⟨rfl, rfl⟩ := h
 simp only [AB] at r1 r2
 obtain ⟨i, x, vv, h1, h2, h3, rfl⟩ := JN hz
 obtain ⟨i', hi', hsize⟩ := J7 hsz
 rw [h1] at hi'
 simp only [ab] at hi'
 subst hi'
 have hbytes : i.bytes = by_ := by unfold CH at hby; rw [h1] at hby; simpa using hby
 subst hbytes hsize
 have hb2 : k * (i.bytes : Int) + k ≤ 70368744177664 := by rw [Int.mul_add, Int.mul_one] at hb; exact hb
 have hb3 : 0 ≤ k * (i.bytes : Int) := Int.mul_nonneg h0 (by omega)
 have hrun := run_make (P := c.P) E.w t e i x (CN he) h1 h2 .i64 .i64 k k h0 (Int.le_refl _) (by rw [Int.mul_comm]; omega) (by omega)
 have hp := Ab.TB E (E.w.alloc (.cells (madeCells x.cells (k.toNat * i.size)) e)) (.cells i.size (cq k.toNat (vv.cellsOf.map (I3 kp))).flatten) (c := madeCells x.cells (k.toNat * i.size)) (t := e) rfl rfl rfl rfl (by rw [hs.n, hs.H])
 have hmr := Q6 (E := E) (K4 (kp := kp) (Gn E h3)) (by rw [ee, hzl]; exact hsz0) k.toNat
 rw [ee, hzl] at hmr
 obtain ⟨hl, hg⟩ := BX _ _ hmr
 have hr := hp.rel hs.heap (fun sz' cs e => by
  simp only [Bz.cells.injEq] at e
  obtain ⟨rfl, rfl⟩ := e
  exact ⟨by rw [hl]; simp, fun i v hv => by simpa using hg i v hv⟩) (fun l n sz e => by cases e)
 refine ⟨_, hp.after hs hr, .inl ⟨.slice (some ⟨E.w.heap.size, 0, none⟩) k.toNat k.toNat, ?_, ?_⟩⟩
 ·simp only [execOp, ho, r1, r2, hrun, Sem.run_bind, Result.andThen_ok, Sem.run_pure]; rfl
 ·simp only [AB]
  rw [hp.n, hs.n, hp.CV, hs.H]
  refine ⟨by omega, ⟨k.toNat, by rw [if_pos rfl], al _⟩, fun l n z => ?_⟩
  rw [hp.Bv, hs.H, if_pos rfl]
  simp
end
structure FW (E E' : Ab) (c : Array cb) (t : ao) : Prop where
 heap : E'.w.heap = E.w.heap.push (.cells c t (0, 0))
 os : E'.w.os = E.w.os
 tape : E'.w.tape = E.w.tape
 output : E'.w.output = E.w.output
 CV : E'.φ = E.φ
 H : E'.H = E.H
 lk : E'.lk = E.lk
 nn : E'.n = E.n
 mm : E'.m = E.m
 Bj : ∀ g, g ∈ E'.Bj ↔ g ∈ E.Bj ∨ (g ∈ E'.Bj ∧ g = E.w.heap.size)
theorem FW.Cj {E E' : Ab} {c : Array cb} {t : ao} (h : FW E E' c t) (g : Nat) : E'.w.heap[g]? = if g = E.w.heap.size then some (.cells c t (0, 0)) else E.w.heap[g]? := by
 rw [h.heap, ig]
theorem FW.D8 {E E' : Ab} {c : Array cb} {t : ao} (h : FW E E' c t) : GV E E' where
 lk := h.lk
 os := h.os
 tape := h.tape
 output := h.output
 size := by rw [h.heap]; simp
 len := by rw [h.nn]; exact al _
 mm := h.mm
 cell := by
  intro g i u hc _
  have hg := Gx hc
  simp only [World.cell?, h.Cj g] at hc ⊢
  rw [if_neg (by simp at hg; omega)]
  exact hc
 block := by
  intro g hg _
  rw [h.Cj g, if_neg (by omega)]
 mono := by
  intro lv g i _ hu
  rcases hu with hu | hu
  ·rcases (h.Bj g).1 hu with hu | ⟨_, rfl⟩
   ·exact .inl (.inl hu)
   ·exact .inr (al _)
  cases lv with
  | some lv =>
   obtain ⟨b, h1, h2, h3⟩ := hu
   rw [h.lk] at h2
   rw [h.H] at h3
   rw [h.CV] at h1
   exact .inl (.inr ⟨b, h1, h2, h3⟩)
  | none =>
   obtain ⟨b, h1, h3⟩ := hu
   rw [h.H] at h3
   rw [h.CV] at h1
   exact .inl (.inr ⟨b, h1, h3⟩)
 CV := fun b _ hn => ⟨by rw [h.CV], by rw [h.H]; exact hn⟩
 cells := fun b _ hn => by rw [h.H]; exact hn
 C1 := by
  intro b l n' sz' _ hB
  rw [h.H] at hB
  refine ⟨n', hB, al _, fun _ => ⟨by rw [h.CV], fun c' t' hc => ⟨c', ?_, rfl⟩⟩⟩
  rw [h.Cj]
  split
  ·have := az.1 hc |>.1
   omega
  ·exact hc
 fresh := fun b hl => .inl ⟨by rw [h.CV], by rw [h.H] at hl; exact hl⟩
 Bj := fun g hg => (h.Bj g).2 (.inl hg)
 Ia := fun g hg => (h.Bj g).1 hg |>.imp id fun e => by rw [e.2]; exact al _
 Hh := fun g _ hl => by rw [h.Cj g, if_neg (by omega)]
theorem FW.rel {E E' : Ab} {c : Array cb} {t : ao} (h : FW E E' c t) (hh : CW E) : CW E' where
 cells := by
  intro b sz cs hB
  rw [h.H] at hB
  obtain ⟨c', t', h1, h2, h3⟩ := hh.cells b sz cs hB
  rw [h.CV, h.Cj, if_neg (by have := az.1 h1 |>.1; omega)]
  exact ⟨c', t', h1, h2, fun i v hv => let ⟨u, h4, h5⟩ := h3 i v hv; ⟨u, h4, h.D8.rep hh v u h5⟩⟩
 dm := by rw [h.mm, h.lk]; exact hh.dm
 lvl := by
  intro b l n sz hB
  rw [h.H] at hB
  rw [h.lk]
  exact hh.lvl b l n sz hB
 C1 := by
  intro b l n sz hB
  rw [h.H] at hB
  obtain ⟨c', t', h1, h2⟩ := hh.C1 b l n sz hB
  rw [h.CV, h.Cj, if_neg (by have := az.1 h1 |>.1; omega)]
  exact ⟨c', t', h1, h2⟩
 maps := by
  intro b BP hB
  rw [h.H] at hB
  obtain ⟨h1, h2⟩ := hh.maps b BP hB
  rw [h.CV, h.Cj, if_neg (by have := az.1 h1 |>.1; omega)]
  exact ⟨h1, h2⟩
 inj := by
  intro b b' h1 h2 he
  rw [h.H] at h1 h2
  rw [h.CV] at he
  exact hh.inj b b' h1 h2 he
 Bj := fun g hg => by
  rw [h.heap, jx, h.CV, h.H]
  rcases (h.Bj g).1 hg with hg | ⟨_, rfl⟩
  ·have := (hh.Bj g hg).1
   exact ⟨by omega, (hh.Bj g hg).2⟩
  ·exact ⟨by omega, fun b hl e => by have := FR hh hl; omega⟩
theorem FW.DU {E E' : Ab} {c : Array cb} {t : ao} (h : FW E E' c t) {base nb d : Nat} (hnb : nb ≤ E.n) (hd : d ≤ E.m) (hf : DO E base nb d) (hh : CW E) : DO E' base nb d := by
 intro b sz cs hlt hB c' t' hc i v u hv hu
 rw [h.H] at hB
 rw [h.CV, h.Cj] at hc
 split at hc
 ·have := FR hh (b := b) (by rw [hB]; trivial)
  omega
 ·exact (h.D8.shrink hh hnb hd).rep v u (hf b sz cs hlt hB c' t' hc i v u hv hu)
theorem FW.o5 {E E' : Ab} {c : Array cb} {t : ao} (h : FW E E' c t) (hh : CW E) (hn : E.w.heap.size ∉ E'.Bj) (lv : Option Nat) (i : Nat) : ¬ E'.U lv E.w.heap.size i := by
 intro hu
 rcases Ru hu with hu | ⟨b, h1, hl⟩
 ·exact hn hu
 rw [h.CV] at h1
 rw [h.H] at hl
 have := FR hh hl
 omega
section
variable {c : Cx} {E : Ab} {S : St} {a : Act} {o : ch}
theorem FW.after (hs : Cy c E S a) {E1 E' : Ab} {H1 : A6} {cs : Array cb} {t : ao} (h0 : BG c E E1 H1) (h : FW E1 E' cs t) : BG c E E' H1 where
 H := by rw [h.H, h0.H]
 n := by rw [h.nn, h0.n]
 m := h.mm.trans h0.m
 D8 := h0.D8.trans h.D8
 heap := h.rel h0.heap
 IX := fun hg base nb d hb hn hd hf => h.DU (cu hn h0.D8.len) (by rw [h0.m]; exact hd) (h0.IX hg base nb d hb hn hd hf) h0.heap
 J4 := fun hg base d hb hd hf => (h.DU (al _) (by rw [h0.m]; exact hd) (h0.J4 hg base d hb hd hf) h0.heap).up h.D8.len
 kept := h0.kept
theorem Nd (hs : Cy c E S a) {E1 : Ab} {H1 : A6} (h0 : BG c E E1 H1) {k : Nat} {v v' : V} {H' : A6} (h : BC c.base k H1 v = some (v', H')) :
  BG c E (E1.heap H') H' ∧ GV E1 (E1.heap H') ∧ (∀ u, AB E1 v u → AB ((E1.heap H').shrink 0 0) v' u) ∧ H'.length = H1.length := by
 have hg := J6 c.base k E1 v v' H' (by rw [h0.H]; exact h) h0.heap
 obtain ⟨e, r, p⟩ := hg
 have hlen := Hz c.base k H1 v v' H' h
 have hrf : ∀ base nb d, nb ≤ E1.n → d ≤ E1.m → DO E1 base nb d → DO (E1.heap H') base nb d := by
  intro base nb d hnb hd hf b sz cs hlt hB c' t hc i x u hv hu
  have hsame := Pk c.base k H1 v v' H' h b sz cs hB
  rw [← h0.H] at hsame
  exact (e.shrink h0.heap hnb hd).rep x u (hf b sz cs hlt hsame c' t hc i x u hv hu)
 refine ⟨⟨rfl, ?_, h0.m, h0.D8.trans e, r, fun hg base nb d hb hn hd hf => hrf base nb d (cu hn h0.D8.len) (by rw [h0.m]; exact hd) (h0.IX hg base nb d hb hn hd hf), fun hg base d hb hd hf => hrf base E1.n d (al _) (by rw [h0.m]; exact hd) (h0.J4 hg base d hb hd hf), fun b hb hl => (KN c.base k H1 v v' H' h b hb).trans (h0.kept b hb hl)⟩, e, p, hlen⟩
 show E1.n = _; rw [h0.n, hlen]
theorem Is (hs : Cy c E S a) : ∀ (ps : List (Nat × V)) (E1 : Ab) (H1 : A6) (ps' : List (Nat × V)) (H' : A6), BG c E E1 H1 → E1.w = E.w → CZ c H1 ps = some (ps', H') →
  ∃ E', BG c E E' H' ∧ E'.w = E.w ∧ GV E1 E' ∧ ∀ us, KX E1 ps us → KX E' ps' us
 | [], E1, H1, ps', H', h0, hw, h => by
  simp only [CZ, ab, ah] at h
  obtain ⟨rfl, rfl⟩ := h
  exact ⟨E1, h0, hw, GV.refl _, fun us r => r⟩
 | (i, v) :: ps, E1, H1, ps', H', h0, hw, h => by
  simp only [CZ, af, ag, Prod.exists, ah] at h
  obtain ⟨v1, H2, hv, ps2, H3, h2, rfl, rfl⟩ := h
  have stay : (v1, H2) = (v, H1) → ∃ E', BG c E E' H3 ∧ E'.w = E.w ∧ GV E1 E' ∧ ∀ us, KX E1 ((i, v) :: ps) us → KX E' ((i, v1) :: ps2) us := by
   intro e
   simp only [ah] at e
   obtain ⟨rfl, rfl⟩ := e
   obtain ⟨E', k1, k2, k3, k4⟩ := Is hs ps E1 H2 ps2 H3 h0 hw h2
   refine ⟨E', k1, k2, k3, fun us r => ?_⟩
   simp only [KX] at r ⊢
   obtain ⟨u, us', r1, r2, r3⟩ := r
   exact ⟨u, us', r1, k3.rep h0.heap v1 u r2, k4 us' r3⟩
  unfold Gc at hv
  split at hv
  ·simp only [ab] at hv
   exact stay hv.symm
  split at hv
  ·split at hv
   ·simp only [ab] at hv
    exact stay hv.symm
   ·cases hv
  ·obtain ⟨g1, g2, g3, g4⟩ := Nd hs h0 hv
   obtain ⟨E', k1, k2, k3, k4⟩ := Is hs ps (E1.heap H2) H2 ps2 H3 g1 hw h2
   refine ⟨E', k1, k2, g2.trans k3, fun us r => ?_⟩
   simp only [KX] at r ⊢
   obtain ⟨u, us', r1, r2, r3⟩ := r
   refine ⟨u, us', r1, k3.rep g1.heap _ _ ?_, k4 us' (g2.oP h0.heap _ _ r3)⟩
   exact (Cn.grow (E1.heap H2) (dq _) (dq _)).rep _ _ (g3 u r2)
def Ab.kI (E : Ab) (w : et) : Ab := { E with w := w }
theorem Ab.Y7 (E : Ab) (w : et) {c : Array cb} {t : ao} (h1 : w.heap = E.w.heap.push (.cells c t (0, 0))) (h2 : w.os = E.w.os) (h3 : w.tape = E.w.tape) (h4 : w.output = E.w.output) : FW E (E.kI w) c t where
 heap := h1
 os := h2
 tape := h3
 output := h4
 CV := rfl
 H := rfl
 lk := rfl
 nn := rfl
 mm := rfl
 Bj := fun g => ⟨.inl, fun h => h.elim id (·.1)⟩
theorem MI {E' : Ab} {lv : Option Nat} {g : Nat} {arr : Array cb} {t : ao} {cs : List V} (hw : E'.w.heap[g]? = some (.cells arr t (0, 0))) (hr : AU E' cs (arr.toList.take cs.length)) (hu : ∀ i, i < cs.length → ¬ E'.U lv g i) : Ca E' lv g 0 cs := by
 refine Fk _ _ fun i v hi => ?_
 obtain ⟨_, hg⟩ := BX _ _ hr
 obtain ⟨u, h1, h2⟩ := hg i v hi
 have hil : i < cs.length := by
  rcases bz i cs.length with h | h
  ·exact h
  ·rw [ba h] at hi; cases hi
 refine ⟨u, ?_, h2, by rw [gh]; exact hu i hil⟩
 rw [cell_of_row _ _ _ _ _ _ hw, gh]
 rw [ew hil, eu] at h1
 exact h1
theorem N5 (hs : Cy c E S a) {t e : ao} {n sz : Nat} {parts : Array (Nat × au)} {ps ps' : List (Nat × V)} {H' : A6} {z cs : List V} (ho : o.op = .buildSlice t n parts) (hp : S5 S.T parts.toList = some ps) (hem : CZ c S.H ps = some (ps', H'))
  (he : B6 c.P t = some e) (hsz : B8 c.P e = some sz) (hz : BJ c.P e = some z) (hzl : z.length = sz) (hsz0 : sz ≠ 0) (hsm : n * sz ≤ 1048576) (h : Dv (fun i => some (i * sz, sz)) (cq n z).flatten ps' = some cs) :
  HE c E a o (.tl n cs) H' := by
 obtain ⟨E1, k1, k2, k3, k4⟩ := Is hs ps E S.H ps' H' (BG.refl hs) rfl hem
 have hparts := k4 _ (TF hs _ _ hp)
 obtain ⟨i, x, vv, h1, h2, h3, rfl⟩ := JN hz
 obtain ⟨i', hi', hsize⟩ := J7 hsz
 rw [h1] at hi'
 simp only [ab] at hi'
 subst hi'
 subst hsize
 have hmr := Q6 (E := E1) (Gn E1 h3) (by rw [hzl]; exact hsz0) n
 rw [hzl] at hmr
 obtain ⟨arr, f1, f2⟩ := Kz _ ps' _ _ _ cs h hparts hmr
 have hplen : cs.length = n * i.size := by
  have := Ki _ ps' _ cs h
  rw [this, Jt, hzl]
 obtain ⟨hl, _⟩ := BX _ _ f2
 have hrun : (Instr.buildSlice t n (parts.map fun (i, x) => (i, a.eval x))).run c.P E.w = .ok (.slice (some ⟨E.w.heap.size, 0, none⟩) n n) (E.w.alloc (.cells arr e)) := by
  by_cases hn : n = 0
  ·subst hn
   have : arr = #[] := by
    have h0 : arr.size = 0 := by rw [← kn, ← hl, hplen, nw]
    exact Array.eq_empty_of_size_eq_zero h0
   subst this
   have hfz : Instr.fill (fun i_1 => some (i_1 * i.size, i.size)) #[] (parts.map fun (i, x) => (i, a.eval x)).toList = some #[] := by
    have : madeCells x.cells (0 * i.size) = #[] := by simp [madeCells, mv]
    rw [this] at f1
    rw [← f1]
    congr 1
    simp
   have hfz' : Instr.fill (fun i_1 => some (i_1 * i.size, i.size)) #[] (parts.toList.map fun x => (x.fst, a.eval x.snd)) = some #[] := by simpa using hfz
   simp [Instr.buildSlice, run_underlying (CN he), sizeOf, typeInfo, h1, newRow, mv, hfz']
  ·refine run_buildSlice E.w t e n _ arr i x (CN he) h1 h2 (by omega) (by intro e0; rcases Nat.mul_eq_zero.1 e0 with h | h <;> omega) ?_
   have : (parts.map fun (i, x) => (i, a.eval x)).toList = parts.toList.map fun p => (p.1, a.eval p.2) := by simp
   rw [this]
   exact f1
 have hsil := Ab.Y7 E1 (E.w.alloc (.cells arr e)) (c := arr) (t := e) (by rw [k2]; rfl) (by rw [k2]; rfl) (by rw [k2]; rfl) (by rw [k2]; rfl)
 refine ⟨_, FW.after hs k1 hsil, .inl ⟨.slice (some ⟨E.w.heap.size, 0, none⟩) n n, ?_, ?_⟩⟩
 ·simp only [execOp, ho, Sem.run_bind, hrun, Result.andThen_ok, Sem.run_pure]; rfl
 ·simp only [AB]
  refine ⟨_, rfl, .inr ⟨_, _, rfl, MI (arr := arr) (t := e) ?_ ?_ fun i _ => ?_⟩⟩
  ·rw [hsil.Cj, ← k2, if_pos rfl]
  ·rw [fy (by rw [hl]; exact al _)]
   exact hsil.D8.Ih k1.heap _ _ f2
  ·rw [← k2]; exact hsil.o5 k1.heap (fun e => absurd (k1.heap.Bj _ e).1 (jl _)) (some 0) i
theorem Iq (hh : CW E) {sz n : Nat} {x : V} {u : cb} {xs : List V} (hr : AB E x u) (hn : Ct x = some n) (hx : Gb E.H sz x = some xs) (hl : xs.length = n * sz) :
  ∃ A cap, u = .slice A n cap ∧ ∃ us : List cb, AU E xs us ∧ us.length = n * sz ∧ (n = 0 ∨ ∃ ad : Addr, A = some ad ∧ ∀ (j : Nat) v, us[j]? = some v → E.w.cell? (ad.add j) = some v) := by
 have row : ∀ {lv : Option Nat} {cs : List V} {A : Option Addr} {cap : Nat}, u = .slice A n cap → xs = cs → (n = 0 ∨ ∃ g o, A = some ⟨g, o, none⟩ ∧ Ca E lv g o cs) →
   ∃ A cap, u = .slice A n cap ∧ ∃ us : List cb, AU E xs us ∧ us.length = n * sz ∧ (n = 0 ∨ ∃ ad : Addr, A = some ad ∧ ∀ (j : Nat) v, us[j]? = some v → E.w.cell? (ad.add j) = some v) := by
  intro lv cs A cap hu hxs hA
  subst hxs
  rcases hA with h0 | ⟨g, o, rfl, hrl⟩
  ·subst h0
   have : xs = [] := cp (by simpa using hl)
   subst this
   exact ⟨A, cap, hu, [], by simp only [AU], by simp, .inl rfl⟩
  ·refine ⟨_, cap, hu, (bt xs.length).map fun i => (E.w.cell? ⟨g, o + i, none⟩).getD undef, Dn fun i v hi => let ⟨u, a1, a2, _⟩ := Cc _ _ hrl i v hi; ⟨u, a1, a2⟩, by simp [hl], .inr ⟨_, rfl, fun j v hj => ?_⟩⟩
   have hjl : j < xs.length := by
    rcases bz j xs.length with h | h
    ·exact h
    ·rw [ba (by simp only [ee, iw]; exact h)] at hj; cases hj
   simp only [dz, fe hjl, aj, ab] at hj
   obtain ⟨u', a1, _, _⟩ := Cc _ _ hrl j _ (ae hjl)
   rw [a1] at hj
   simp only [ec] at hj
   subst hj
   rw [Addr.add_lit]
   exact a1
 unfold Gb at hx
 unfold Ct at hn
 cases x with
 | lit lv len cs =>
  simp only [ab] at hx hn
  subst hx hn
  simp only [AB] at hr
  obtain ⟨_, A, cap, hu, _, hA⟩ := hr
  exact row hu rfl hA
 | tl len cs =>
  simp only [ab] at hx hn
  subst hx hn
  simp only [AB] at hr
  obtain ⟨A, hu, hA⟩ := hr
  exact row hu rfl hA
 | snap b len cs =>
  simp only [ab] at hx hn
  subst hx hn
  simp only [AB] at hr
  obtain ⟨_, ⟨A, cap, hu, _, ⟨g, o, hA, _, hA2⟩, _⟩, _⟩ := hr
  exact row hu rfl (.inr ⟨g, o, hA, hA2⟩)
 | sl b off len =>
  simp only [ab] at hn
  subst hn
  dsimp only at hx
  split at hx
  case h_2 => cases hx
  rename_i z cs hb
  split at hx
  case isFalse => cases hx
  rename_i hc
  simp only [ab] at hx
  simp only [AB] at hr
  obtain ⟨_, ⟨cap, hu, _⟩, _⟩ := hr
  obtain ⟨c0, t, q1, q2, q3⟩ := hh.cells b z cs hb
  have hex : ∀ (i : Nat) v, xs[i]? = some v → ∃ u, E.w.cell? ⟨E.φ b, off + i, none⟩ = some u ∧ AB E v u := by
   intro i v hi
   rw [← hx, di] at hi
   split at hi
   ·rw [eo] at hi
    obtain ⟨u, k1, k2⟩ := q3 _ v hi
    exact ⟨u, by rw [cell_of_row _ _ _ _ _ _ q1]; exact k1, k2⟩
   ·cases hi
  refine ⟨_, cap, hu, (bt xs.length).map fun i => (E.w.cell? ⟨E.φ b, off + i, none⟩).getD undef, Dn hex, by simp [hl], .inr ⟨_, rfl, fun j v hj => ?_⟩⟩
  have hjl : j < xs.length := by
   rcases bz j xs.length with h | h
   ·exact h
   ·rw [ba (by simp only [ee, iw]; exact h)] at hj; cases hj
  simp only [dz, fe hjl, aj, ab] at hj
  obtain ⟨u', a1, _⟩ := hex j _ (ae hjl)
  rw [a1] at hj
  simp only [ec] at hj
  subst hj
  rw [Addr.add_lit]
  exact a1
 | _ => simp at hn
theorem NG {P : bm} (w : et) (t ty e ty2 t0 : ao) (i : TypeInfo) (ht : P.underlying t = some (.slice e)) {e2 : ao} (ht2 : P.underlying ty2 = some (.slice e2)) (hi : P.info? e = some i)
  (g sLen sCap : Nat) (cur : Array cb) (hg : w.heap[g]? = some (.cells cur t0 (0, 0)))
  (a : Addr) (m c : Nat) (news : List cb) (hl : news.length = m * i.size) (hnews : ∀ (j : Nat) u, news[j]? = some u → w.cell? (a.add j) = some u) (h1 : ∀ u ∈ news, u.oneCell' = true)
  (hroom : sLen + m ≤ sCap) (hfit : sLen * i.size + news.length ≤ cur.size) :
  (Builtin.append_ #[t, ty2] ty #[.slice (some ⟨g, 0, none⟩) sLen sCap, .slice (some a) m c]).run P w =
   .ok (.slice (some ⟨g, 0, none⟩) (sLen + m) sCap) (w.setRow g (cur.toList.take (sLen * i.size) ++ news ++ cur.toList.drop (sLen * i.size + news.length)).toArray) := by
 have hf := run_firstCells_some (P := P) w i.size m a m c news hl hnews
 have hst := run_storeCells_at P g (sLen * i.size) t0 news 0 cur w hg (by simpa using hfit) h1
 simp only [ir] at hst
 simp [Builtin.append_, run_underlying ht, run_underlying ht2, sizeOf, typeInfo, hi, Builtin.lenOf, hroom, hf, Addr.add_lit, hst]
theorem NF {P : bm} (w : et) (t ty e ty2 : ao) (i : TypeInfo) (ht : P.underlying t = some (.slice e)) {e2 : ao} (ht2 : P.underlying ty2 = some (.slice e2)) (hi : P.info? e = some i)
  (base x : Option Addr) (sLen sCap c : Nat) (hroom : sLen ≤ sCap) :
  (Builtin.append_ #[t, ty2] ty #[.slice base sLen sCap, .slice x 0 c]).run P w = .ok (.slice base sLen sCap) w := by
 cases base <;> cases x <;> simp [Builtin.append_, run_underlying ht, run_underlying ht2, sizeOf, typeInfo, hi, Builtin.lenOf, hroom, Builtin.firstCells, loadCells, loadCellsFrom, storeCells]
theorem Ij {P : bm} (w : et) (t ty e ty2 : ao) (i : TypeInfo) (z : cb) (ht : P.underlying t = some (.slice e)) {e2 : ao} (ht2 : P.underlying ty2 = some (.slice e2)) (hi : P.info? e = some i) (hz : i.zero = some z)
  (b : Option Addr) (sLen sCap : Nat) (olds : List cb) (hlo : olds.length = sLen * i.size) (holds : sLen = 0 ∨ ∃ ad : Addr, b = some ad ∧ ∀ (j : Nat) v, olds[j]? = some v → w.cell? (ad.add j) = some v)
  (a : Addr) (n c : Nat) (news : List cb) (hl : news.length = n * i.size) (hnews : ∀ (j : Nat) v, news[j]? = some v → w.cell? (a.add j) = some v)
  (hg : sCap < sLen + n) (h63 : ((sLen + n : Nat) : Int) ≤ 9223372036854775807) (hfit : Builtin.nextslicecap (sLen + n) sCap * i.bytes ≤ 281474976710656) :
  (Builtin.append_ #[t, ty2] ty #[.slice b sLen sCap, .slice (some a) n c]).run P w =
   .ok (.slice (some ⟨w.heap.size, 0, none⟩) (sLen + n) (grownCap w (sLen + n) sCap e))
    (w.drew.alloc (.cells (olds.toArray ++ news.toArray ++ Builtin.zeroCells z.cells (grownCap w (sLen + n) sCap e - (sLen + n))) e)) := by
 have hn : ¬ (sLen + n ≤ sCap) := by omega
 have h63' : ¬ (9223372036854775807 < ((sLen : Int) + (n : Int))) := by omega
 have h48' : ¬ (281474976710656 < Builtin.nextslicecap (sLen + n) sCap * i.bytes) := by omega
 have hf := run_firstCells_some (P := P) w.drew i.size n a n c news hl (by simpa using hnews)
 have hfo : (Builtin.firstCells i.size sLen (.slice b sLen sCap)).run P w.drew = .ok olds.toArray w.drew := by
  rcases holds with h0 | ⟨ad, rfl, hh⟩
  ·subst h0
   have : olds = [] := cp (by simpa using hlo)
   subst this
   cases b <;> simp [Builtin.firstCells, loadCells, loadCellsFrom]
  ·exact run_firstCells_some (P := P) w.drew i.size sLen ad sLen sCap olds hlo (by simpa using hh)
 simp [Builtin.append_, run_underlying ht, run_underlying ht2, sizeOf, typeInfo, zeroValue, hi, hz, Builtin.lenOf, hn, h63', h48', Question.forced, hf, hfo, newRow, grownCap]
 congr 2
 apply jc
 simp
theorem FA {E : Ab} : ∀ {xs ys : List V} {us vs : List cb}, AU E xs us → AU E ys vs → AU E (xs ++ ys) (us ++ vs)
 | [], ys, us, vs, h, k => by simp only [AU] at h; subst h; simpa using k
 | x :: xs, ys, us, vs, h, k => by
  simp only [AU, List.cons_append] at h ⊢
  obtain ⟨u, us', rfl, h1, h2⟩ := h
  exact ⟨u, us' ++ vs, rfl, h1, FA h2 k⟩
theorem LH {E : Ab} {xs : List V} {us vs : List cb} (h : AU E xs us) (hv : vs.take xs.length = us) : AU E xs (vs.take xs.length) := by rw [hv]; exact h
theorem fC {E : Ab} {xs : List V} {us : List cb} (h : AU E xs us) (hc : xs.all V.Bm = true) : ∀ u ∈ us, u.oneCell' = true := by
 intro u hu
 obtain ⟨i, hi⟩ := ml hu
 obtain ⟨hl, hg⟩ := BX _ _ h
 have hil : i < xs.length := by rw [hl]; exact (ak.1 hi).1
 obtain ⟨u', h1, h2⟩ := hg i _ (ae hil)
 rw [hi] at h1
 simp only [ab] at h1
 subst h1
 rw [cj] at hc
 exact Np h2 (hc _ (bg hil))
theorem YS {E' : Ab} {H' : A6} (h : BG c E E' H') {g : Nat} : E'.Rv g := by
 intro b hb hl
 rw [h.H, ba (by rw [← h.n]; exact hb)] at hl
 exact hl.elim
theorem WB {E' : Ab} {H' : A6} (h : E'.H = H') (hn : E'.n = H'.length) {g : Nat} : E'.Rv g := by
 intro b hb hl
 rw [h, ba (by rw [← hn]; exact hb)] at hl
 exact hl.elim
theorem T3 (hs : Cy c E S a) {st xt : ao} {args : Array au} {ats : Array ao} {s x : au} {sv xv v : V} {H' : A6} (ho : o.op = .call { callee := .builtin .append, args := args, argTypes := ats }) (hargs : args.toList = [s, x]) (hats : ats.toList = [st, xt])
    (hsv : ev S.T s = some sv) (hxv : ev S.T x = some xv) (h : Dz c st xt S.H sv xv = some (v, H')) : HE c E a o v H' := by
  have hrs := BD hs s _ hsv
  have hrx := BD hs x _ hxv
  have ha1 : args = #[s, x] := by apply jc; simpa using hargs
  have ha2 : ats = #[st, xt] := by apply jc; simpa using hats
  subst ha1 ha2
  unfold Dz at h
  simp only [af] at h
  obtain ⟨e, he, sz, hsz, by_, hby, z, hz, h⟩ := h
  split at h
  case isFalse => cases h
  rename_i hc
  obtain ⟨hxt, hsz0, hzl⟩ := hc
  obtain ⟨e2, he2⟩ := Option.isSome_iff_exists.1 hxt
  simp only [af] at h
  obtain ⟨n, hn, xs, hxs, h⟩ := h
  split at h
  case isFalse => cases h
  rename_i hc
  obtain ⟨hxl, hxc⟩ := hc
  obtain ⟨i, zx, zv, h1, h2, h3, rfl⟩ := JN hz
  obtain ⟨i', hi', hsize⟩ := J7 hsz
  rw [h1] at hi'
  simp only [ab] at hi'
  subst hi'
  have hbytes : i.bytes = by_ := by unfold CH at hby; rw [h1] at hby; simpa using hby
  subst hbytes hsize
  have hzcell : zx.cells.size = i.size := by
    have := (BX _ _ (Gn E h3)).1
    rw [hzl] at this
    rw [this]; simp
  rw [← hs.H] at hxs
  obtain ⟨B, capx, hx, us, hus, hul, hB⟩ := Iq hs.heap hrx hn hxs hxl
  have hone := fC hus hxc
  have hexec : ∀ {r w'} (_ : (Builtin.append_ #[st, xt] o.type #[a.eval s, a.eval x]).run c.P E.w = .ok r w'), (execOp a.eval o).run c.P E.w = .ok (.value r) w' := by
    intro r w' hr
    simp only [execOp, ho, resolve, Sem.run_bind, Sem.run_pure, Result.andThen_ok, invoke, builtin, jd, dj, ft, hr]
  have hnone : n = 0 → ∀ {A : Option Addr} {m cap : Nat}, a.eval s = .slice A m cap → m ≤ cap → (execOp a.eval o).run c.P E.w = .ok (.value (a.eval s)) E.w := by
    intro h0 A m cap hA hmc
    subst h0
    refine hexec ?_
    rw [hA, hx]
    exact NF E.w st o.type e xt i (CN he) (CN he2) h1 A B m cap capx hmc
  cases sv with
  | tl m cs =>
    dsimp only at h
    have hrs' := hrs
    simp only [AB] at hrs'
    obtain ⟨A, hA, hAr⟩ := hrs'
    split at h
    · rename_i h0
      simp only [ab, ah] at h
      obtain ⟨rfl, rfl⟩ := h
      exact ⟨E, BG.refl hs, .inl ⟨_, hnone h0 hA (al _), hrs⟩⟩
    · rename_i h0
      split at h
      case isFalse => cases h
      rename_i hc
      obtain ⟨hcl, hbd⟩ := hc
      simp only [ab, ah] at h
      obtain ⟨rfl, rfl⟩ := h
      have hb2 : (m + n) * i.bytes + (m + n) ≤ 70368744177664 := by rw [ot, ou] at hbd; exact hbd
      obtain ⟨A2, cap2, hA2, olds, holds, hol, hoc⟩ := Iq (n := m) hs.heap hrs rfl (sz := i.size) (xs := cs) (by simp [Gb]) hcl
      rw [hA] at hA2
      simp only [Value.slice.injEq] at hA2
      obtain ⟨rfl, _, rfl⟩ := hA2
      rcases hB with hB | ⟨ad, rfl, hB⟩
      · exact absurd hB h0
      have hrun := Ij (P := c.P) E.w st o.type e xt i zx (CN he) (CN he2) h1 h2 A m m olds hol hoc ad n capx us hul hB (by omega) (by omega) (growslice_fits (by omega) (by omega))
      have hp := Ab.TB E (E.w.drew.alloc (.cells (olds.toArray ++ us.toArray ++ Builtin.zeroCells zx.cells (grownCap E.w (m + n) m e - (m + n))) e)) (.C1 c.d (m + n) i.size) (c := _) (t := e) rfl rfl rfl rfl (by rw [hs.n, hs.H])
      have hge := grownCap_ge E.w (m + n) m e
      have hcsz : (olds.toArray ++ us.toArray ++ Builtin.zeroCells zx.cells (grownCap E.w (m + n) m e - (m + n))).size = grownCap E.w (m + n) m e * i.size := by
        simp only [mw, jt, size_zeroCells, hzcell, hol, hul, ← iu]
        congr 1
        omega
      have hr := hp.rel hs.heap (fun sz' cs e => by cases e) (fun q k z e => by
        simp only [Bz.C1.injEq] at e
        obtain ⟨rfl, rfl, rfl⟩ := e
        rw [hcsz]
        exact ⟨gb _ hge, by rw [hs.lk]; exact al _⟩)
      refine ⟨_, hp.after hs hr, .inl ⟨_, hexec (by rw [hA, hx]; exact hrun), ?_⟩⟩
      simp only [AB]
      have hgetH := hp.Bv
      refine ⟨by rw [hp.n, hs.n]; omega, ⟨_, _, rfl, hge, ⟨_, _, rfl, fun _ => YS (hp.after hs hr), MI (by rw [hp.Cj, if_pos rfl]) ?_ fun j hj => ?_⟩, fun q k z hk => ?_⟩, fun z q hk => ?_⟩
      · refine hp.D8.Ih hs.heap _ _ (LH (FA holds hus) ?_)
        simp only [mn, bf]
        rw [← bf, show (cs ++ xs).length = (olds ++ us).length by simp [hol, hul, hcl, hxl]]
        exact ln
      · rintro (hu | ⟨b, p1, p3⟩)
        · exact absurd (hs.heap.Bj _ hu).1 (jl _)
        rw [hp.CV] at p1
        rw [hp.Bv] at p3
        by_cases hb : b = E.H.length
        · rw [if_pos hb] at p3
          simp only at p3
          rw [show (cs ++ xs).length = (m + n) * i.size by simp [hcl, hxl, iu]] at hj
          omega
        · rw [if_neg hb] at p1 p3
          have hl : live E.H[b]? := by
            split at p3
            · rename_i he; rw [he]; trivial
            · rename_i he; rw [he]; trivial
            · rename_i he; rw [he]; trivial
            · exact p3.elim
          have := FR hs.heap hl
          omega
      · rw [← hs.H, hgetH, if_pos rfl] at hk
        simp only [ab, Bz.C1.injEq] at hk
        obtain ⟨_, rfl, rfl⟩ := hk
        refine ⟨al _, fun _ => ⟨by rw [hp.CV, ← hs.H, if_pos rfl], _, _, by rw [hp.CV, ← hs.H, if_pos rfl, hp.Cj, if_pos rfl], hcsz.symm⟩⟩
      · rw [← hs.H, hgetH, if_pos rfl] at hk
        cases hk
  | snap b m cs =>
    dsimp only at h
    have hrs' := hrs
    simp only [AB] at hrs'
    obtain ⟨hbn, ⟨A, cap, hA, hmc, hAr, hcur⟩, hnc⟩ := hrs'
    split at h
    · rename_i h0
      simp only [ab, ah] at h
      obtain ⟨rfl, rfl⟩ := h
      exact ⟨E, BG.refl hs, .inl ⟨_, hnone h0 hA hmc, hrs⟩⟩
    · rename_i h0
      split at h
      case h_2 => cases h
      rename_i l m' sz' hb
      split at h
      case isFalse => cases h
      rename_i hc
      obtain ⟨hcl, hbd, rfl, rfl, hmw⟩ := hc
      simp only [ab, ah] at h
      obtain ⟨rfl, rfl⟩ := h
      have hb2 : (m' + n) * i.bytes + (m' + n) ≤ 70368744177664 := by rw [ot, ou] at hbd; exact hbd
      rw [← hs.H] at hb
      obtain ⟨_, hcur⟩ := hcur l m' i.size hb
      obtain ⟨hA0, c0, t0, hrow, hcsz⟩ := hcur rfl
      obtain ⟨A2, cap2, hA2, olds, holds, hol, hoc⟩ := Iq (n := m') hs.heap hrs rfl (sz := i.size) (xs := cs) (by simp [Gb]) hcl
      rw [hA] at hA2
      simp only [Value.slice.injEq] at hA2
      obtain ⟨rfl, _, rfl⟩ := hA2
      rcases hB with hB | ⟨ad, rfl, hB⟩
      · exact absurd hB h0
      have hpos : 0 < n := Nat.pos_of_ne_zero h0
      have hfree : AX E.lk b = true := by rw [hs.lk]; exact IP hs.EH hmw
      have hblt : b < E.H.length := by rw [hs.H, ← hs.n]; exact hbn
      have hlt : m' < m' + n := Nat.lt_add_of_pos_right hpos
      have hkept : ∀ x, x < c.base → AX c.lk x = false → (S.H.set b (.C1 l (m' + n) i.size))[x]? = E.H[x]? := by
        intro x hx hl
        rw [Ai, if_neg, hs.H]
        rintro ⟨rfl, _⟩
        rw [hs.lk] at hfree
        rw [hfree] at hl
        cases hl
      by_cases hroom : m' + n ≤ cap
      ·
        have hfit : m' * i.size + us.length ≤ c0.size := by rw [hul, ← hcsz, ← iu]; exact gb _ hroom
        have hrun := NG (P := c.P) E.w st o.type e xt t0 i (CN he) (CN he2) h1 (E.φ b) m' cap c0 hrow ad n capx us hul hB hone hroom hfit
        let c' : Array cb := (c0.toList.take (m' * i.size) ++ us ++ c0.toList.drop (m' * i.size + us.length)).toArray
        have hget : ∀ k, c'[k]? = if m' * i.size ≤ k ∧ k < m' * i.size + us.length then us[k - m' * i.size]? else c0[k]? := fun k => Jc c0 us _ hfit k
        have hsz' : c'.size = c0.size := by
          simp only [c', jt, an, dn, im, kn]
          omega
        have hw : Hl E (E.write b c' (.C1 l (m' + n) i.size)) b c0 c' t0 (.C1 l (m' + n) i.size) :=
          { w := rfl, row := hrow, size := hsz', CV := rfl, H := rfl, lk := rfl, n := rfl, m := rfl, Bj := rfl, Nl := fun e => (hs.heap.Bj _ e).2 b (by rw [hb]; trivial) rfl, n0 := by rw [hs.n, hs.H], free := hfree
            kind := .inr ⟨l, m', m' + n, i.size, hb, rfl, hlt, fun k hk => (hget k).trans (if_neg (fun e => absurd e.1 (Nat.not_le.2 hk)))⟩ }
        have hr := hw.rel hs.heap (fun z q e => by cases e) (fun q k z e => by
          simp only [Bz.C1.injEq] at e
          obtain ⟨rfl, rfl, rfl⟩ := e
          rw [hsz', ← hcsz]
          exact gb _ hroom)
        have hfor := fun base nb d hn hd hf => hw.DU (base := base) (nb := nb) (d := d) hn hd hf hs.heap (fun z q e => by cases e)
        refine ⟨E.write b c' (.C1 l (m' + n) i.size), ⟨by show E.H.set b _ = _; rw [hs.H], by show E.n = _; rw [hs.n]; simp, rfl, hw.D8, hr, fun _ base nb d _ hn hd hf => hfor base nb d hn hd hf, fun _ base d _ hd hf => hfor base E.n d (al _) hd hf, hkept⟩, .inl ⟨_, hexec (by rw [hA, hx, hA0]; exact hrun), ?_⟩⟩
        simp only [AB]
        have holdget : olds = c0.toList.take (m' * i.size) := by
          rcases hoc with h0' | ⟨ad', had, hoc⟩
          · subst h0'
            simp only [nw] at hol ⊢
            simp [cp hol]
          · rw [hA0] at had
            simp only [ab] at had
            subst had
            apply List.ext_getElem?
            intro j
            rcases bz j olds.length with hj | hj
            · have h4 := hoc j _ (ae hj)
              rw [Addr.add_lit, cell_of_row _ _ _ _ _ _ hrow, gh] at h4
              rw [ae hj, ← h4, ew (by omega)]
              simp
            · rw [ba hj, ba (by simp; omega)]
        refine ⟨hbn, ⟨_, _, rfl, hroom, ⟨_, _, rfl, fun _ => WB (E' := E.write b c' (.C1 l (m' + n) i.size)) rfl (by show E.n = (E.H.set b _).length; rw [hs.n, hs.H]; simp), MI (by rw [hw.Cj, if_pos rfl]) ?_ fun j hj => ?_⟩, fun q k z hk => ?_⟩, fun z q hk => ?_⟩
        · refine hw.D8.Ih hs.heap _ _ (LH (FA holds hus) ?_)
          show (c0.toList.take (m' * i.size) ++ us ++ c0.toList.drop (m' * i.size + us.length)).take _ = _
          rw [← holdget, show (cs ++ xs).length = (olds ++ us).length by simp [hol, hul, hcl, hxl]]
          exact ln
        · rintro (hu | ⟨y, p1, p3⟩)
          · exact (hs.heap.Bj _ hu).2 b (by rw [hb]; trivial) rfl
          rw [hw.Bv] at p3
          by_cases hy : b = y
          · rw [if_pos hy] at p3
            simp only at p3
            rw [show (cs ++ xs).length = (m' + n) * i.size by simp [hcl, hxl, iu]] at hj
            omega
          · rw [if_neg hy] at p3
            have hl : live E.H[y]? := by
              split at p3
              · rename_i he; rw [he]; trivial
              · rename_i he; rw [he]; trivial
              · rename_i he; rw [he]; trivial
              · exact p3.elim
            exact hy (hs.heap.inj b y (by rw [hb]; trivial) hl p1.symm)
        · rw [hw.Bv, if_pos rfl] at hk
          simp only [ab, Bz.C1.injEq] at hk
          obtain ⟨_, rfl, rfl⟩ := hk
          exact ⟨al _, fun _ => ⟨rfl, c', t0, by rw [show (E.write b c' (.C1 l (m' + n) i.size)).φ b = E.φ b from rfl, hw.Cj, if_pos rfl], by rw [hsz', hcsz]⟩⟩
        · rw [hw.Bv, if_pos rfl] at hk
          cases hk
      ·
        have hrun := Ij (P := c.P) E.w st o.type e xt i zx (CN he) (CN he2) h1 h2 A m' cap olds hol hoc ad n capx us hul hB (by omega) (by omega) (growslice_fits (by omega) (by omega))
        have hge := grownCap_ge E.w (m' + n) cap e
        have hcsz2 : (olds.toArray ++ us.toArray ++ Builtin.zeroCells zx.cells (grownCap E.w (m' + n) cap e - (m' + n))).size = grownCap E.w (m' + n) cap e * i.size := by
          simp only [mw, jt, size_zeroCells, hzcell, hol, hul, ← iu]
          congr 1
          omega
        let E2 : Ab := { E with w := E.w.drew.alloc (.cells (olds.toArray ++ us.toArray ++ Builtin.zeroCells zx.cells (grownCap E.w (m' + n) cap e - (m' + n))) e), φ := fun y => if y = b then E.w.heap.size else E.φ y, H := E.H.set b (.C1 l (m' + n) i.size) }
        have hmv : Jb E E2 b l m' (m' + n) i.size (olds.toArray ++ us.toArray ++ Builtin.zeroCells zx.cells (grownCap E.w (m' + n) cap e - (m' + n))) e :=
          { heap := rfl, os := rfl, tape := rfl, output := rfl, CV := fun _ => rfl, H := rfl, lk := rfl, n := rfl, m := rfl, Bj := rfl, W5 := hb, lt := hlt
            size := by rw [hcsz2]; exact gb _ hge }
        have hr := hmv.rel hs.heap
        have hfor := fun base nb d hn hd hf => hmv.DU (base := base) (nb := nb) (d := d) hn hd hf hs.heap
        refine ⟨E2, ⟨by show E.H.set b _ = _; rw [hs.H], by show E.n = _; rw [hs.n]; simp, rfl, hmv.D8, hr, fun _ base nb d _ hn hd hf => hfor base nb d hn hd hf, fun _ base d _ hd hf => hfor base E.n d (al _) hd hf, hkept⟩, .inl ⟨_, hexec (by rw [hA, hx]; exact hrun), ?_⟩⟩
        simp only [AB]
        refine ⟨hbn, ⟨_, _, rfl, hge, ⟨_, _, rfl, fun _ => WB hmv.H (by show E.n = _; rw [hs.n, hs.H]; simp), MI (by rw [hmv.Cj, if_pos rfl]) ?_ fun j hj => ?_⟩, fun q k z hk => ?_⟩, fun z q hk => ?_⟩
        · refine hmv.D8.Ih hs.heap _ _ (LH (FA holds hus) ?_)
          simp only [mn, bf]
          rw [← bf, show (cs ++ xs).length = (olds ++ us).length by simp [hol, hul, hcl, hxl]]
          exact ln
        · rintro (hu | ⟨y, p1, p3⟩)
          · exact absurd (hs.heap.Bj _ hu).1 (jl _)
          rw [hmv.CV] at p1
          rw [hmv.Bv] at p3
          by_cases hy : b = y
          · rw [if_pos hy] at p3
            simp only at p3
            rw [show (cs ++ xs).length = (m' + n) * i.size by simp [hcl, hxl, iu]] at hj
            omega
          · rw [if_neg (fun e => hy e.symm)] at p1
            rw [if_neg hy] at p3
            have hl : live E.H[y]? := by
              split at p3
              · rename_i he; rw [he]; trivial
              · rename_i he; rw [he]; trivial
              · rename_i he; rw [he]; trivial
              · exact p3.elim
            have := FR hs.heap hl
            omega
        · rw [hmv.Bv, if_pos rfl] at hk
          simp only [ab, Bz.C1.injEq] at hk
          obtain ⟨_, rfl, rfl⟩ := hk
          exact ⟨al _, fun _ => ⟨by rw [hmv.CV, if_pos rfl], _, _, by rw [hmv.CV, if_pos rfl, hmv.Cj, if_pos rfl], hcsz2.symm⟩⟩
        · rw [hmv.Bv, if_pos rfl] at hk
          cases hk
  | _ => simp at h
end
theorem Nn {E : Ab} : ∀ (cs : List V) (us : List cb), (cs.all fun | .int .. | .bool _ | .str _ => true | _ => false) = true → AU E cs us → us = cs.map D3
 | [], us, _, h => by simp only [AU] at h; exact h
 | c :: cs, us, hp, h => by
  simp only [gg, ar] at hp
  simp only [AU] at h
  obtain ⟨u, us', rfl, h1, h2⟩ := h
  rw [Nn cs us' hp.2 h2, dj]
  congr 1
  cases c <;> simp_all [AB, D3]
theorem HC {E : Ab} {v : V} {u : cb} (hp : Bb v = true) (h : AB E v u) : u = B7 v := by
 cases v with
 | agg cs =>
  simp only [AB] at h
  obtain ⟨vs, rfl, h⟩ := h
  have := Nn cs vs.toList hp h
  simp only [B7]
  rw [← this]
 | int _ _ => simp only [AB] at h; exact h
 | bool _ => simp only [AB] at h; exact h
 | str _ => simp only [AB] at h; exact h
 | _ => simp [Bb] at hp
theorem FU {E : Ab} : ∀ (cs : List V), (cs.all fun | .int .. | .bool _ | .str _ => true | _ => false) = true → AU E cs (cs.map D3)
 | [], _ => by simp only [AU, ft]
 | c :: cs, hp => by
  simp only [gg, ar] at hp
  simp only [AU, dj]
  refine ⟨_, _, rfl, ?_, FU cs hp.2⟩
  cases c <;> simp_all [AB, D3]
theorem KU (E : Ab) {v : V} (hp : Bb v = true) : AB E v (B7 v) := by
 cases v with
 | agg cs =>
  simp only [AB, B7]
  exact ⟨_, rfl, by simpa using FU cs hp⟩
 | int _ _ => simp only [AB, B7, D3]
 | bool _ => simp only [AB, B7, D3]
 | str _ => simp only [AB, B7, D3]
 | _ => simp [Bb] at hp
theorem S4 {q : Sc} {x y : V} (hs : q ≠ .s) (h : FY q x y = some true) : D3 x = D3 y := by
 cases q <;> cases x <;> cases y <;> simp_all [FY, D3]
theorem Ke : ∀ {ks : List Sc} {xs ys : List V}, (ks.all fun q => decide (q ≠ .s)) = true → xs.length = ks.length → ys.length = ks.length → DD ks xs ys = some true → xs.map D3 = ys.map D3
 | [], xs, ys, _, hx, hy, _ => by
  rw [cp hx, cp hy]
 | k :: ks, [], _, _, hx, _, _ => by simp at hx
 | k :: ks, _ :: _, [], _, _, hy, _ => by simp at hy
 | k :: ks, x :: xs, y :: ys, hk, hx, hy, h => by
  simp only [gg, ar, decide_eq_true_eq] at hk
  simp only [DD, af] at h
  obtain ⟨b, h1, h2⟩ := h
  cases b with
  | false => simp at h2
  | true =>
   simp only [if_true] at h2
   simp only [dj, S4 hk.1 h1, Ke hk.2 (by simpa using hx) (by simpa using hy) h2]
theorem KQ {P : bm} {k : ao} {ks : List Sc} (h : Qo P k = some (.many ks)) : JP P k = some ks ∧ (ks.all fun q => decide (q ≠ .s)) = true := by
 unfold Qo at h
 split at h
 ·cases h
 ·simp only [af] at h
  obtain ⟨ks', h1, h2⟩ := h
  split at h2
  ·rename_i hc
   simp only [ab, KT.many.injEq] at h2
   subst h2
   exact ⟨h1, hc⟩
  ·cases h2
theorem Ty {P : bm} {k : ao} {q : Sc} (h : Qo P k = some (.one q)) : FC P k = some q := by
 unfold Qo at h
 split at h
 ·rename_i h1
  simp only [ab, KT.one.injEq] at h
  rw [h1, h]
 ·simp only [af] at h
  obtain ⟨ks', h1, h2⟩ := h
  split at h2 <;> cases h2
theorem It {ks : List Sc} {x y : V} {b : Bool} (h : ET (.many ks) x y = some b) : ∃ xs ys, x = .agg xs ∧ y = .agg ys ∧ xs.length = ks.length ∧ ys.length = ks.length ∧ DD ks xs ys = some b := by
 cases x <;> cases y <;> simp only [ET] at h <;> try (cases h; done)
 rename_i xs ys
 split at h
 case isFalse => cases h
 rename_i hc
 exact ⟨xs, ys, rfl, rfl, hc.1, hc.2, h⟩
theorem Na {P : bm} {k : ao} {kt : KT} (hk : Qo P k = some kt) {x y : V} (h : ET kt x y = some true) : B7 x = B7 y := by
 cases kt with
 | one q =>
  cases q with
  | s =>
   cases x <;> cases y <;> simp only [ET] at h <;> try (cases h; done)
   simp only [ab] at h
   simp only [B7, D3, (Go.MapKept.bytes_beq _ _).1 h]
  | b => cases x <;> cases y <;> simp_all [ET, FY, B7, D3]
  | i => cases x <;> cases y <;> simp_all [ET, FY, B7, D3]
 | many ks =>
  obtain ⟨xs, ys, rfl, rfl, h1, h2, h3⟩ := It h
  simp only [B7]
  rw [Ke (KQ hk).2 h1 h2 h3]
def q8 (x : (V × V) × Nat) : MapEntry := { key := B7 x.1.1, val := B7 x.1.2, born := x.2 }
def iM (BP : List (V × V)) (i : Nat) : List MapEntry := (BP.zipIdx i).map q8
theorem TW (BP : List (V × V)) : (GB BP).toList = iM BP 0 := rfl
theorem Oo (e : V × V) (BP : List (V × V)) (i : Nat) : iM (e :: BP) i = q8 (e, i) :: iM BP (i + 1) := rfl
section
variable {P : bm} {k : ao} {w : et}
theorem Gw {q : Sc} (hk : FC P k = some q) (em : Bool) (n : Nat) (v : cb) : (Instr.checkKey em (n + 1) k v).run P w = .ok () w := by
 unfold FC at hk
 unfold Instr.checkKey
 split at hk <;> rename_i hu <;> first | cases hk | skip
 all_goals simp only [Sem.run_bind, run_underlying hu, Result.andThen_ok]
 all_goals cases v <;> simp
theorem I8 (em : Bool) (m : Nat) (us : Array cb) : ∀ (fs : List Field) (n : Nat) (ks : List Sc), Eh P n fs = some ks → n + ks.length ≤ us.size →
  (forIn (m := Sem) fs PUnit.unit (fun f _ => do
   if f.name ≠ "_" then
    Instr.checkKey em (m + 1) f.type (← part f.type us f.offset)
    pure (ForInStep.yield PUnit.unit)
   else pure (ForInStep.yield PUnit.unit))).run P w = .ok PUnit.unit w
 | [], n, ks, _, _ => by simp
 | f :: fs, n, ks, hf, hl => by
  simp only [Eh] at hf
  split at hf <;> simp only [af, ag, reduceCtorEq] at hf
  rename_i hc
  obtain ⟨hn, ho, hz⟩ := hc
  obtain ⟨q, hk, ks', hks, rfl⟩ := hf
  simp only [List.length_cons] at hl
  have hu0 : us[n]? = some us[n] := gf (by omega)
  have hag := H8 (P := P) (w := w) (NU hk)
  have ih := I8 em m us fs (n + 1) ks' hks (by omega)
  simp only [List.forIn_cons, Sem.run_bind, hn, ne_eq, not_false_eq_true, if_true, part, hag, Result.andThen_ok, bd, if_false, ho, hu0, Sem.run_pure, Gw hk]
  exact ih
theorem J2 {ks : List Sc} (h : JP P k = some ks) : ∃ fs, P.underlying k = some (.struct fs) ∧ P.stoodInHeld k = false ∧ Eh P 0 fs.toList = some ks := by
 unfold JP at h
 split at h
 case h_2 => cases h
 rename_i fs hu
 split at h
 case isFalse => cases h
 rename_i hg
 simp only [ar, eb] at hg
 exact ⟨fs, hu, hg.1, h⟩
theorem NH {kt : KT} (hk : Qo P k = some kt) {key : V} (hself : ET kt key key = some true) (em : Bool) : (Instr.checkKey em 10000 k (B7 key)).run P w = .ok () w := by
 cases kt with
 | one q => exact Gw (Ty hk) em 9999 _
 | many ks =>
  obtain ⟨hf, _⟩ := KQ hk
  obtain ⟨fs, hu, _, hff⟩ := J2 hf
  obtain ⟨xs, ys, e0, _, hc, _, _⟩ := It hself
  have e : B7 key = .agg (xs.map D3).toArray := by rw [e0]; rfl
  rw [e, show (10000 : Nat) = 9999 + 1 from rfl, Instr.checkKey]
  simp only [Sem.run_bind, run_underlying hu, Result.andThen_ok]
  rw [← Array.forIn_toList]
  have := I8 (P := P) (w := w) em 9998 (xs.map D3).toArray fs.toList 0 ks hff (by simp; omega)
  simp only [this]
  first | rfl | simp
theorem aD {q : Sc} {d : TypeDesc} (hk : FC P k = some q) (hd : P.underlying k = some d) {x y : V} {b : Bool} (h : ET (.one q) x y = some b) : Instr.sameNow d (B7 x) (B7 y) = some b := by
 unfold FC at hk
 rw [hd] at hk
 cases q <;> cases x <;> cases y <;> simp_all [ET, FY, B7, D3] <;> (split at hk <;> simp_all [Instr.sameNow])
theorem Nb {q : Sc} {d : TypeDesc} (hk : FC P k = some q) (hd : P.underlying k = some d) {key : V} : ∀ (BP : List (V × V)) (i : Nat) (r : Option (Nat × V)), FK (.one q) key BP i = some r → Instr.findNow d (B7 key) (iM BP i) i = some (r.map fun x => (x.1, B7 x.2))
 | [], i, r, h => by
  simp only [FK, ab] at h
  subst h
  rfl
 | e :: BP, i, r, h => by
  simp only [FK, af] at h
  obtain ⟨b, hb, h⟩ := h
  have h1 := aD hk hd hb
  rw [Oo]
  simp only [Instr.findNow, q8, h1]
  cases b with
  | true =>
   simp only [if_true, ab] at h
   subst h
   rfl
  | false =>
   simp only [bd, if_false] at h
   exact Nb hk hd BP (i + 1) r h
theorem cG (E : Ab) {ks : List Sc} (hf : JP P k = some ks) {x y : V} (hx : Bb x = true) (hy : Bb y = true) {b : Bool} (h : ET (.many ks) x y = some b) : (Op.equal k (B7 x) (B7 y)).run P w = .ok b w := by
 obtain ⟨fs, hu, hst, hff⟩ := J2 hf
 obtain ⟨xs, ys, rfl, rfl, _, _, h⟩ := It h
 have hfo : P.fieldsOf k = fs := by simp only [Program.fieldsOf, hu]
 have hu2 : P.underlying k = some (.struct (P.fieldsOf k)) := by rw [hfo]; exact hu
 show (Op.equalIn 10000 k _ _).run P w = _
 simp only [B7]
 rw [run_equalIn_struct w 9999 k _ _ hu2 hst, hfo]
 exact JH (E := E) 9998 _ _ fs.toList 0 ks xs ys b hff (by simpa using FU xs hx) (by simpa using FU ys hy) h
theorem Lo (E : Ab) {ks : List Sc} (hf : JP P k = some ks) {key : V} (hkey : Bb key = true) : ∀ (BP : List (V × V)) (i : Nat) (r : Option (Nat × V)), (∀ x ∈ BP, Bb x.1 = true ∧ Bb x.2 = true) → FK (.many ks) key BP i = some r →
  (Instr.findAsking k (B7 key) (iM BP i) i).run P w = .ok (r.map fun x => (x.1, B7 x.2)) w
 | [], i, r, _, h => by
  simp only [FK, ab] at h
  subst h
  simp [iM, Instr.findAsking]
 | e :: BP, i, r, hp, h => by
  simp only [FK, af] at h
  obtain ⟨b, hb, h⟩ := h
  have h1 := cG E hf (w := w) hkey (hp e (ck ..)).1 hb
  rw [Oo]
  simp only [Instr.findAsking, q8, Sem.run_bind, h1, Result.andThen_ok]
  cases b with
  | true =>
   simp only [if_true, ab] at h
   subst h
   simp
  | false =>
   simp only [bd, if_false] at h ⊢
   exact Lo E hf hkey BP (i + 1) r (fun x hx => hp x (bw _ hx)) h
theorem QO (E : Ab) {kt : KT} (hk : Qo P k = some kt) {key : V} (hkey : Bb key = true) {BP : List (V × V)} (hp : ∀ x ∈ BP, Bb x.1 = true ∧ Bb x.2 = true) {r : Option (Nat × V)} (h : FK kt key BP 0 = some r) :
  (Instr.findKey k (B7 key) (GB BP).toList).run P w = .ok (r.map fun x => (x.1, B7 x.2)) w := by
 rw [TW]
 cases kt with
 | one q =>
  have hs := Ty hk
  have : ∃ d, P.underlying k = some d := by
   unfold FC at hs
   split at hs <;> rename_i hu <;> first | exact ⟨_, hu⟩ | cases hs
  obtain ⟨d, hd⟩ := this
  exact Go.MapKept.run_findKey hd (Nb hs hd BP 0 r h)
 | many ks =>
  obtain ⟨hf, _⟩ := KQ hk
  obtain ⟨fs, hu, _, _⟩ := J2 hf
  cases BP with
  | nil =>
   simp only [FK, ab] at h
   subst h
   exact Go.MapKept.run_findKey hu rfl
  | cons e BP =>
   have hn : Instr.findNow (.struct fs) (B7 key) (iM (e :: BP) 0) 0 = none := by
    rw [Oo]
    simp only [Instr.findNow, Instr.sameNow]
   have := Lo E hf (w := w) hkey (e :: BP) 0 r hp h
   simp only [Instr.findKey, Sem.run_bind, run_underlying hu, Result.andThen_ok, hn, this]
theorem Ud {α : Type} : ∀ (l : List α), ∀ x ∈ l.zip l, x.1 = x.2 ∧ x.1 ∈ l
 | [], x, h => by simp at h
 | y :: l, x, h => by
  simp only [List.zip_cons_cons, List.mem_cons] at h
  rcases h with rfl | h
  ·exact ⟨rfl, ck ..⟩
  ·obtain ⟨h1, h2⟩ := Ud l x h
   exact ⟨h1, bw _ h2⟩
theorem O2 (n : Nat) {v : V} (h : (match v with | .int .. | .bool _ | .str _ => true | _ => false) = true) : Instr.sameBits n (D3 v) (D3 v) = true := by
 cases v <;> simp_all [D3, Instr.sameBits]
 exact (Go.MapKept.bytes_beq _ _).2 rfl
theorem QP {v : V} (h : Bb v = true) : Instr.sameBits 10000 (B7 v) (B7 v) = true := by
 cases v with
 | agg cs =>
  simp only [B7]
  rw [show (10000 : Nat) = 9999 + 1 from rfl, Instr.sameBits]
  simp only [beq_self_eq_true, Bool.true_and, cj]
  intro x hx
  obtain ⟨h1, h2⟩ := Ud _ x hx
  obtain ⟨x1, x2⟩ := x
  simp only at h1
  subst h1
  simp only [List.mem_map] at h2
  obtain ⟨v, hv, rfl⟩ := h2
  unfold Bb at h
  rw [cj] at h
  exact O2 9999 (h v hv)
 | int _ _ => simp [B7, D3, Instr.sameBits]
 | bool _ => simp [B7, D3, Instr.sameBits]
 | str _ => simp only [B7, D3, Instr.sameBits]; exact (Go.MapKept.bytes_beq _ _).2 rfl
 | _ => simp [Bb] at h
theorem Re {v : V} (h : Bb v = true) : (Instr.keyThatStays (B7 v) (B7 v)).run P w = .ok (B7 v) w := by
 simp only [Instr.keyThatStays, QP h, if_true, Sem.run_pure]
theorem IW {kt : KT} {key : V} : ∀ (BP : List (V × V)) (i j : Nat) (v : V), FK kt key BP i = some (some (j, v)) → ∃ n kk, j = i + n ∧ BP[n]? = some (kk, v) ∧ ET kt key kk = some true
 | [], i, j, v, h => by simp [FK] at h
 | e :: BP, i, j, v, h => by
  simp only [FK, af] at h
  obtain ⟨b, hb, h⟩ := h
  cases b with
  | true =>
   simp only [if_true, ab, ah] at h
   obtain ⟨rfl, rfl⟩ := h
   exact ⟨0, e.1, rfl, rfl, hb⟩
  | false =>
   simp only [bd, if_false] at h
   obtain ⟨n, kk, h1, h2, h3⟩ := IW BP (i + 1) j v h
   exact ⟨n + 1, kk, by omega, h2, h3⟩
theorem HK (BP : List (V × V)) (i : Nat) : (GB BP)[i]? = (BP[i]?).map fun x => { key := B7 x.1, val := B7 x.2, born := i } := by
  unfold GB
  rw [ib, dz, List.getElem?_zipIdx]
  cases BP[i]? <;> simp
theorem MY (BP : List (V × V)) : (GB BP).size = BP.length := by simp [GB]
theorem RB (BP : List (V × V)) (k v : V) : (GB BP).push { key := B7 k, val := B7 v, born := BP.length } = GB (BP ++ [(k, v)]) := by
  apply mu
  intro i
  rw [ig, MY, HK, HK]
  by_cases h : i = BP.length
  · subst h; simp
  · rw [if_neg h]
    rcases bz i BP.length with hl | hl
    · rw [aw hl]
    · rw [ba hl, ba (by simp; omega)]
theorem On (BP : List (V × V)) (i : Nat) (k v : V) (f : MapEntry → MapEntry) (h : ∀ x, BP[i]? = some x → f { key := B7 x.1, val := B7 x.2, born := i } = { key := B7 k, val := B7 v, born := i }) : (GB BP).modify i f = GB (BP.set i (k, v)) := by
  apply mu
  intro j
  rw [Array.getElem?_modify, HK, HK, km]
  by_cases hij : i = j
  · subst hij
    rw [if_pos rfl, if_pos rfl]
    cases hx : BP[i]? with
    | none =>
      rw [if_neg]
      · rfl
      · intro hl
        rw [ae hl] at hx
        cases hx
    | some x =>
      rw [if_pos (ak.1 hx).1]
      simp only [aj, h x hx]
  · rw [if_neg hij, if_neg hij]
end
structure Ev (E E' : Ab) : Prop where
 heap : E'.w.heap = E.w.heap.push (.map #[] 0)
 os : E'.w.os = E.w.os
 tape : E'.w.tape = E.w.tape
 output : E'.w.output = E.w.output
 CV : ∀ b, E'.φ b = if b = E.H.length then E.w.heap.size else E.φ b
 H : E'.H = E.H ++ [.mp []]
 lk : E'.lk = E.lk
 n : E'.n = E.n + 1
 m : E'.m = E.m
 Bj : E'.Bj = E.Bj
 n0 : E.n = E.H.length
theorem Ev.Bv {E E' : Ab} (h : Ev E E') (b : Nat) : E'.H[b]? = if b = E.H.length then some (.mp []) else E.H[b]? := by
 rw [h.H]
 by_cases hb : b = E.H.length
 ·subst hb; simp
 ·rw [if_neg hb]
  rcases bz b E.H.length with hl | hl
  ·rw [aw hl]
  ·rw [ba (by simp; omega), ba hl]
theorem Ev.Cj {E E' : Ab} (h : Ev E E') (g : Nat) : E'.w.heap[g]? = if g = E.w.heap.size then some (.map #[] 0) else E.w.heap[g]? := by
 rw [h.heap, ig]
theorem Ev.D8 {E E' : Ab} (h : Ev E E') : GV E E' where
 lk := h.lk
 os := h.os
 tape := h.tape
 output := h.output
 size := by rw [h.heap]; simp
 len := by rw [h.n]; omega
 mm := h.m
 cell := by
  intro g i u hc _
  have hg := Gx hc
  simp only [World.cell?, h.Cj g] at hc ⊢
  rw [if_neg (by simp at hg; omega)]
  exact hc
 block := by
  intro g hg _
  rw [h.Cj g, if_neg (by omega)]
 mono := by
  intro lv g i _ hu
  rcases hu with hu | hu
  ·exact .inl (.inl (by rw [h.Bj] at hu; exact hu))
  cases lv with
  | some lv =>
   obtain ⟨b, h1, h2, h3⟩ := hu
   rw [h.lk] at h2
   rw [h.Bv b] at h3
   rw [h.CV b] at h1
   by_cases hb : b = E.H.length
   ·rw [if_pos hb] at h1; right; omega
   ·rw [if_neg hb] at h1 h3
    exact .inl (.inr ⟨b, h1, h2, h3⟩)
  | none =>
   obtain ⟨b, h1, h3⟩ := hu
   rw [h.Bv b] at h3
   rw [h.CV b] at h1
   by_cases hb : b = E.H.length
   ·rw [if_pos hb] at h1; right; omega
   ·rw [if_neg hb] at h1 h3
    exact .inl (.inr ⟨b, h1, h3⟩)
 CV := by
  intro b hb hn
  have : b ≠ E.H.length := by have := h.n0; omega
  refine ⟨by rw [h.CV b, if_neg this], fun l n sz => ?_⟩
  rw [h.Bv b, if_neg this]
  exact hn l n sz
 cells := by
  intro b hb hn sz cs
  have : b ≠ E.H.length := by have := h.n0; omega
  rw [h.Bv b, if_neg this]
  exact hn sz cs
 C1 := by
  intro b l n' sz' hb hB
  have hne : b ≠ E.H.length := by have := h.n0; omega
  rw [h.Bv b, if_neg hne] at hB
  refine ⟨n', hB, al _, fun _ => ⟨by rw [h.CV b, if_neg hne], fun c' t' hc => ⟨c', ?_, rfl⟩⟩⟩
  rw [h.Cj]
  split
  ·rename_i he
   have := az.1 hc |>.1
   omega
  ·exact hc
 fresh := by
  intro b hl
  rw [h.Bv b] at hl
  rw [h.CV b]
  by_cases hb : b = E.H.length
  ·rw [if_pos hb]; exact .inr (al _)
  ·rw [if_neg hb] at hl ⊢; exact .inl ⟨rfl, hl⟩
 Bj := fun g hg => by rw [h.Bj]; exact hg
 Ia := fun g hg => .inl (by rw [h.Bj] at hg; exact hg)
 Hh := fun g _ hl => by rw [h.Cj g, if_neg (by omega)]
theorem Ev.rel {E E' : Ab} (h : Ev E E') (hh : CW E) : CW E' where
 cells := by
  intro b sz cs hB
  rw [h.Bv b] at hB
  rw [h.CV b]
  split at hB
  ·cases hB
  ·rename_i he
   obtain ⟨c', t', h1, h2, h3⟩ := hh.cells b sz cs hB
   rw [if_neg he, h.Cj, if_neg (by have := az.1 h1 |>.1; omega)]
   exact ⟨c', t', h1, h2, fun i v hv => let ⟨u, h4, h5⟩ := h3 i v hv; ⟨u, h4, h.D8.rep hh v u h5⟩⟩
 dm := by rw [h.m, h.lk]; exact hh.dm
 lvl := by
  intro b l n sz hB
  rw [h.Bv b] at hB
  rw [h.lk]
  split at hB
  ·cases hB
  ·exact hh.lvl b l n sz hB
 C1 := by
  intro b l n sz hB
  rw [h.Bv b] at hB
  rw [h.CV b]
  split at hB
  ·cases hB
  ·rename_i he
   obtain ⟨c', t', h1, h2⟩ := hh.C1 b l n sz hB
   rw [if_neg he, h.Cj, if_neg (by have := az.1 h1 |>.1; omega)]
   exact ⟨c', t', h1, h2⟩
 maps := by
  intro b BP hB
  rw [h.Bv b] at hB
  rw [h.CV b]
  split at hB
  ·rename_i he
   simp only [ab, Bz.mp.injEq] at hB
   subst hB
   rw [if_pos he, h.Cj, if_pos rfl]
   exact ⟨rfl, fun x hx => by cases hx⟩
  ·rename_i he
   obtain ⟨h1, h2⟩ := hh.maps b BP hB
   rw [if_neg he, h.Cj, if_neg (by have := az.1 h1 |>.1; omega)]
   exact ⟨h1, h2⟩
 inj := by
  intro b b' h1 h2 he
  rw [h.Bv] at h1 h2
  rw [h.CV, h.CV] at he
  by_cases hb : b = E.H.length <;> by_cases hb' : b' = E.H.length
  ·omega
  ·rw [if_pos hb, if_neg hb'] at he
   rw [if_neg hb'] at h2
   have := FR hh h2
   omega
  ·rw [if_neg hb, if_pos hb'] at he
   rw [if_neg hb] at h1
   have := FR hh h1
   omega
  ·rw [if_neg hb, if_neg hb'] at he
   rw [if_neg hb] at h1
   rw [if_neg hb'] at h2
   exact hh.inj b b' h1 h2 he
 Bj := fun g hg => by
  rw [h.Bj] at hg
  obtain ⟨h1, h2⟩ := hh.Bj g hg
  refine ⟨by rw [h.heap, jx]; omega, fun b hl => ?_⟩
  rw [h.Bv] at hl
  rw [h.CV]
  by_cases hb : b = E.H.length
  ·rw [if_pos hb]; omega
  ·rw [if_neg hb] at hl ⊢; exact h2 b hl
theorem Ev.DU {E E' : Ab} (h : Ev E E') {base nb d : Nat} (hb : base ≤ E.n) (hnb : nb ≤ E.n) (hd : d ≤ E.m) (hf : DO E base nb d) (hh : CW E) : DO E' base nb d := by
 intro b sz cs hlt hB c' t' hc i v u hv hu
 have hne : b ≠ E.H.length := by have := h.n0; omega
 rw [h.Bv, if_neg hne] at hB
 rw [h.CV, if_neg hne, h.Cj] at hc
 split at hc
 ·rename_i he
  have := FR hh (b := b) (by rw [hB]; trivial)
  omega
 ·exact (h.D8.shrink hh hnb hd).rep v u (hf b sz cs hlt hB c' t' hc i v u hv hu)
structure HF (E E' : Ab) (b : Nat) (BP kvs' : List (V × V)) : Prop where
 heap : ∀ g, E'.w.heap[g]? = if g = E.φ b then some (.map (GB kvs') kvs'.length) else E.w.heap[g]?
 size : E'.w.heap.size = E.w.heap.size
 os : E'.w.os = E.w.os
 tape : E'.w.tape = E.w.tape
 output : E'.w.output = E.w.output
 CV : E'.φ = E.φ
 H : E'.H = E.H.set b (.mp kvs')
 lk : E'.lk = E.lk
 n : E'.n = E.n
 m : E'.m = E.m
 Bj : E'.Bj = E.Bj
 W5 : E.H[b]? = some (.mp BP)
 row : E.w.heap[E.φ b]? = some (.map (GB BP) BP.length)
 Nl : E.φ b ∉ E.Bj
 free : AX E.lk b = true
theorem HF.Bv {E E' : Ab} {b : Nat} {BP kvs' : List (V × V)} (h : HF E E' b BP kvs') (x : Nat) : E'.H[x]? = if b = x then some (.mp kvs') else E.H[x]? := by
 rw [h.H, Ai]
 have := (ak.1 h.W5).1
 simp [this]
theorem HF.D8 {E E' : Ab} {b : Nat} {BP kvs' : List (V × V)} (h : HF E E' b BP kvs') : GV E E' where
 lk := h.lk
 os := h.os
 tape := h.tape
 output := h.output
 size := by rw [h.size]; exact al _
 len := by rw [h.n]; exact al _
 mm := h.m
 cell := by
  intro g i u hc _
  have hne : g ≠ E.φ b := by
   rintro rfl
   simp only [World.cell?, h.row] at hc
   cases hc
  simp only [World.cell?, h.heap g, if_neg hne] at hc ⊢
  exact hc
 block := by
  intro g hg hu
  rw [h.heap g, if_neg]
  rintro rfl
  refine hu 0 (.inr ⟨b, rfl, FQ _ h.free, ?_⟩)
  rw [h.W5]
  trivial
 mono := by
  intro lv g i _ hu
  rcases hu with hu | hu
  ·exact .inl (.inl (by rw [h.Bj] at hu; exact hu))
  cases lv with
  | some lv =>
   obtain ⟨x, h1, h2, h3⟩ := hu
   rw [h.lk] at h2
   rw [h.CV] at h1
   rw [h.Bv x] at h3
   refine .inl (.inr ⟨x, h1, h2, ?_⟩)
   by_cases hb : b = x
   ·subst hb; rw [h.W5]; trivial
   ·rw [if_neg hb] at h3; exact h3
  | none =>
   obtain ⟨x, h1, h3⟩ := hu
   rw [h.CV] at h1
   rw [h.Bv x] at h3
   refine .inl (.inr ⟨x, h1, ?_⟩)
   by_cases hb : b = x
   ·subst hb; rw [h.W5]; trivial
   ·rw [if_neg hb] at h3; exact h3
 CV := by
  intro x hx hn
  refine ⟨by rw [h.CV], fun l n sz => ?_⟩
  rw [h.Bv x]
  split
  ·simp
  ·exact hn l n sz
 cells := by
  intro x hx hn sz cs
  rw [h.Bv x]
  split
  ·simp
  ·exact hn sz cs
 C1 := by
  intro x l n' sz' hx hB
  rw [h.Bv x] at hB
  by_cases hb : b = x
  ·rw [if_pos hb] at hB; cases hB
  ·rw [if_neg hb] at hB
   refine ⟨n', hB, al _, fun _ => ⟨by rw [h.CV], fun c2 t2 hc => ⟨c2, ?_, rfl⟩⟩⟩
   rw [h.heap, if_neg]
   ·exact hc
   ·intro e
    rw [e, h.row] at hc
    cases hc
 fresh := by
  intro x hl
  rw [h.Bv x] at hl
  rw [h.CV]
  refine .inl ⟨rfl, ?_⟩
  by_cases hb : b = x
  ·subst hb; rw [h.W5]; trivial
  ·rw [if_neg hb] at hl; exact hl
 Bj := fun g hg => by rw [h.Bj]; exact hg
 Ia := fun g hg => .inl (by rw [h.Bj] at hg; exact hg)
 Hh := fun g hg _ => by rw [h.heap g, if_neg (fun e => h.Nl (by rw [← e]; exact hg))]
theorem HF.rel {E E' : Ab} {b : Nat} {BP kvs' : List (V × V)} (h : HF E E' b BP kvs') (hh : CW E) (hp : ∀ x ∈ kvs', Bb x.1 = true ∧ Bb x.2 = true) : CW E' where
 cells := by
  intro x sz cs hB
  rw [h.Bv x] at hB
  rw [h.CV]
  by_cases hx : b = x
  ·rw [if_pos hx] at hB; cases hB
  ·rw [if_neg hx] at hB
   obtain ⟨c2, t2, h1, h2, h3⟩ := hh.cells x sz cs hB
   rw [h.heap, if_neg (by intro e; rw [e, h.row] at h1; cases h1)]
   exact ⟨c2, t2, h1, h2, fun i v hv => let ⟨u, h4, h5⟩ := h3 i v hv; ⟨u, h4, h.D8.rep hh v u h5⟩⟩
 dm := by rw [h.m, h.lk]; exact hh.dm
 lvl := by
  intro x l n sz hB
  rw [h.Bv x] at hB
  rw [h.lk]
  by_cases hx : b = x
  ·rw [if_pos hx] at hB; cases hB
  ·rw [if_neg hx] at hB
   exact hh.lvl x l n sz hB
 C1 := by
  intro x l n sz hB
  rw [h.Bv x] at hB
  rw [h.CV]
  by_cases hx : b = x
  ·rw [if_pos hx] at hB; cases hB
  ·rw [if_neg hx] at hB
   obtain ⟨c2, t2, h1, h2⟩ := hh.C1 x l n sz hB
   rw [h.heap, if_neg (by intro e; rw [e, h.row] at h1; cases h1)]
   exact ⟨c2, t2, h1, h2⟩
 maps := by
  intro x ks hB
  rw [h.Bv x] at hB
  rw [h.CV]
  by_cases hx : b = x
  ·subst hx
   rw [if_pos rfl] at hB
   simp only [ab, Bz.mp.injEq] at hB
   subst hB
   rw [h.heap, if_pos rfl]
   exact ⟨rfl, hp⟩
  ·rw [if_neg hx] at hB
   obtain ⟨h1, h2⟩ := hh.maps x ks hB
   have hne : E.φ x ≠ E.φ b := fun e => hx (hh.inj b x (by rw [h.W5]; trivial) (by rw [hB]; trivial) e.symm)
   rw [h.heap, if_neg hne]
   exact ⟨h1, h2⟩
 inj := by
  intro x y h1 h2 he
  rw [h.Bv] at h1 h2
  rw [h.CV] at he
  refine hh.inj x y ?_ ?_ he
  ·by_cases hx : b = x
   ·subst hx; rw [h.W5]; trivial
   ·rw [if_neg hx] at h1; exact h1
  ·by_cases hx : b = y
   ·subst hx; rw [h.W5]; trivial
   ·rw [if_neg hx] at h2; exact h2
 Bj := fun g hg => by
  rw [h.Bj] at hg
  obtain ⟨h1, h2⟩ := hh.Bj g hg
  refine ⟨by rw [h.size]; exact h1, fun x hl => ?_⟩
  rw [h.Bv] at hl
  rw [h.CV]
  by_cases hx : b = x
  ·subst hx; exact fun e => h.Nl (e ▸ hg)
  ·rw [if_neg hx] at hl; exact h2 x hl
theorem HF.DU {E E' : Ab} {b : Nat} {BP kvs' : List (V × V)} (h : HF E E' b BP kvs') {base nb d : Nat} (hnb : nb ≤ E.n) (hd : d ≤ E.m) (hf : DO E base nb d) (hh : CW E) : DO E' base nb d := by
 intro x sz cs hlt hB c2 t2 hc i v u hv hu
 rw [h.Bv] at hB
 by_cases hx : b = x
 ·rw [if_pos hx] at hB; cases hB
 ·rw [if_neg hx] at hB
  rw [h.CV, h.heap] at hc
  split at hc
  ·cases hc
  ·exact (h.D8.shrink hh hnb hd).rep v u (hf x sz cs hlt hB c2 t2 hc i v u hv hu)
section
variable {c : Cx} {E : Ab} {S : St} {a : Act} {o : ch}
theorem Ev.after (hs : Cy c E S a) {E' : Ab} (h : Ev E E') (hr : CW E') : BG c E E' (S.H ++ [.mp []]) where
 H := by rw [h.H, hs.H]
 n := by rw [h.n, hs.n]; simp
 m := h.m
 D8 := h.D8
 heap := hr
 IX := fun _ base nb d hb hn hd hf => h.DU (by have := hs.base; have := hs.n; omega) hn hd hf hs.heap
 J4 := fun _ base d hb hd hf => (h.DU (by have := hs.base; have := hs.n; omega) (al _) hd hf hs.heap).up h.D8.len
 kept := fun b hb _ => by rw [hs.H, aw (by have := hs.base; omega)]
theorem HF.after (hs : Cy c E S a) {E' : Ab} {b : Nat} {BP kvs' : List (V × V)} (h : HF E E' b BP kvs') (hm : c.BV b = true) (hr : CW E') : BG c E E' (S.H.set b (.mp kvs')) where
 H := by rw [h.H, hs.H]
 n := by rw [h.n, hs.n]; simp
 m := h.m
 D8 := h.D8
 heap := hr
 IX := fun _ base nb d hb hn hd hf => h.DU hn hd hf hs.heap
 J4 := fun _ base d hb hd hf => (h.DU (al _) hd hf hs.heap).up h.D8.len
 kept := fun x hx hl => by
  rw [hs.H, Ai, if_neg]
  rintro ⟨rfl, _⟩
  unfold Cx.BV at hm
  simp only [df, decide_eq_true_eq] at hm
  rcases hm with hm | hm
  ·omega
  ·rw [hm] at hl; cases hl
theorem LK (E : Ab) : AB E Ck undef := by
 simp only [Ck, AB]
 exact ⟨#[], rfl, by simp only [AU]⟩
theorem Qq (hs : Cy c E S a) {t : ao} (ho : o.op = .makeMap t none) : HE c E a o (.Ft S.H.length) (S.H ++ [.mp []]) := by
  have hp : Ev E { w := E.w.alloc (.map #[] 0), φ := fun b => if b = E.H.length then E.w.heap.size else E.φ b, H := E.H ++ [.mp []], lk := E.lk, n := E.n + 1, m := E.m, Bj := E.Bj } :=
    ⟨rfl, rfl, rfl, rfl, fun _ => rfl, rfl, rfl, rfl, rfl, rfl, by rw [hs.n, hs.H]⟩
  refine ⟨_, hp.after hs (hp.rel hs.heap), .inl ⟨.map (some E.w.heap.size), ?_, ?_⟩⟩
  · simp only [execOp, ho]; rfl
  · simp only [AB]
    rw [hs.H, hs.n]
    refine ⟨by omega, by rw [if_pos rfl], fun l n z => ?_⟩
    simp
theorem OS (hs : Cy c E S a) {b : Nat} {BP : List (V × V)} (hb : S.H[b]? = some (.mp BP)) {u : cb} (hr : AB E (.Ft b) u) : u = .map (some (E.φ b)) ∧ E.w.heap[E.φ b]? = some (.map (GB BP) BP.length) ∧ ∀ x ∈ BP, Bb x.1 = true ∧ Bb x.2 = true := by
 simp only [AB] at hr
 have := hs.heap.maps b BP (by rw [hs.H]; exact hb)
 exact ⟨hr.2.1, this.1, this.2⟩
theorem KR {P : bm} {t : ao} {q : KT × ao} (h : Qr P t = some q) : ∃ k, P.underlying t = some (.map k q.2) ∧ Qo P k = some q.1 := by
 unfold Qr at h
 split at h
 case h_2 => cases h
 rename_i k e hu
 simp only [ag] at h
 obtain ⟨kt, h1, rfl⟩ := h
 exact ⟨k, hu, h1⟩
theorem Rq {P : bm} {e : ao} {z : V} (h : Qb P e = some z) (w : et) : ∃ x, (zeroValue e).run P w = .ok x w ∧ Ea x = some z := by
 unfold Qb at h
 simp only [af] at h
 obtain ⟨x, ⟨i, h1, h2⟩, h3⟩ := h
 exact ⟨x, by simp [zeroValue, typeInfo, h1, h2], h3⟩
theorem Su (hs : Cy c E S a) {t : ao} {x k : au} {ok : Bool} {m kv v : V} (ho : o.op = .lookup t x k ok) (hx : ev S.T x = some m) (hk : ev S.T k = some kv) (h : JR c.P t S.H m kv ok = some v) : Dg c E a o v := by
 have r1 := BD hs x _ hx
 have r2 := BD hs k _ hk
 unfold JR at h
 split at h
 case h_2 => cases h
 rename_i b
 split at h
 case h_2 => cases h
 rename_i BP hb
 simp only [af] at h
 obtain ⟨q, hq, h⟩ := h
 split at h
 case isFalse => cases h
 rename_i hc
 simp only [af] at h
 obtain ⟨r, hr, h⟩ := h
 obtain ⟨e1, e2, e3⟩ := OS hs hb r1
 obtain ⟨kt, hu, hkt⟩ := KR hq
 have ek := HC hc.1 r2
 have hchk := NH (P := c.P) (w := E.w) hkt hc.2 (GB BP).isEmpty
 have hfind := QO (P := c.P) (w := E.w) E hkt hc.1 e3 hr
 cases r with
 | some r =>
  obtain ⟨j, vv⟩ := r
  simp only [ab] at h
  obtain ⟨n, kk, h1, h2, h3⟩ := IW BP 0 j vv hr
  have hpl := (e3 _ (bj h2)).2
  refine ⟨if ok then .tuple #[B7 vv, .bool true] else B7 vv, ?_, ?_⟩
  ·simp only [execOp, ho, Instr.lookup, e1, ek, Sem.run_bind, run_underlying hu, Result.andThen_ok, Go.MapKept.run_getObj_map e2, Sem.run_pure, hchk, hfind, aj]
  ·subst h
   cases ok with
   | true =>
    simp only [if_true, AB]
    refine ⟨_, rfl, ?_⟩
    simp only [AU, AB]
    exact ⟨_, _, rfl, KU E hpl, _, _, rfl, rfl, rfl⟩
   | false => exact KU E hpl
 | none =>
  simp only [ag] at h
  obtain ⟨z, hz, rfl⟩ := h
  obtain ⟨zx, hzr, hzo⟩ := Rq hz E.w
  refine ⟨if ok then .tuple #[zx, .bool false] else zx, ?_, ?_⟩
  ·simp only [execOp, ho, Instr.lookup, e1, ek, Sem.run_bind, run_underlying hu, Result.andThen_ok, Go.MapKept.run_getObj_map e2, Sem.run_pure, hchk, hfind, iq, hzr]
  ·have hrz := I7 E zx z hzo
   cases ok with
   | true =>
    simp only [if_true, AB]
    refine ⟨_, rfl, ?_⟩
    simp only [AU, AB]
    exact ⟨_, _, rfl, hrz, _, _, rfl, rfl, rfl⟩
   | false => exact hrz
def Ab.Qs (E : Ab) (b : Nat) (kvs' : List (V × V)) : Ab := { E with w := { E.w with heap := E.w.heap.setIfInBounds (E.φ b) (.map (GB kvs') kvs'.length) }, H := E.H.set b (.mp kvs') }
theorem lA {b : Nat} {BP kvs' : List (V × V)} (hrow : E.w.heap[E.φ b]? = some (.map (GB BP) BP.length)) (hb : E.H[b]? = some (.mp BP)) (hfree : AX E.lk b = true) (hnh : E.φ b ∉ E.Bj) : HF E (E.Qs b kvs') b BP kvs' where
 heap := fun g => by
  show (E.w.heap.setIfInBounds (E.φ b) _)[g]? = _
  rw [Array.getElem?_setIfInBounds]
  have := (az.1 hrow).1
  by_cases hg : E.φ b = g
  ·rw [if_pos hg, if_pos hg.symm, if_pos (by omega)]
  ·rw [if_neg hg, if_neg (fun e => hg e.symm)]
 size := by show (E.w.heap.setIfInBounds _ _).size = _; simp
 os := rfl
 tape := rfl
 output := rfl
 CV := rfl
 H := rfl
 lk := rfl
 n := rfl
 m := rfl
 W5 := hb
 Bj := rfl
 Nl := hnh
 row := hrow
 free := hfree
theorem MS (hs : Cy c E S a) {b : Nat} {BP kvs' : List (V × V)} (hb : S.H[b]? = some (.mp BP)) (hrow : E.w.heap[E.φ b]? = some (.map (GB BP) BP.length)) (hm : c.BV b = true) (hp : ∀ x ∈ kvs', Bb x.1 = true ∧ Bb x.2 = true) : BG c E (E.Qs b kvs') (S.H.set b (.mp kvs')) := by
 have hw := lA (kvs' := kvs') hrow (by rw [hs.H]; exact hb) (by rw [hs.lk]; exact IP hs.EH hm) (fun e => (hs.heap.Bj _ e).2 b (by rw [hs.H, hb]; trivial) rfl)
 exact hw.after hs hm (hw.rel hs.heap hp)
theorem T4 (hs : Cy c E S a) {t : ao} {x k y : au} {m kv v : V} {H' : A6} (ho : o.op = .mapUpdate t x k y) (hx : ev S.T x = some m) (hk : ev S.T k = some kv) (hy : ev S.T y = some v) (h : W4 c t S.H m kv v = some H') : HE c E a o Ck H' := by
  have r1 := BD hs x _ hx
  have r2 := BD hs k _ hk
  have r3 := BD hs y _ hy
  unfold W4 at h
  split at h
  case h_2 => cases h
  rename_i b
  split at h
  case h_2 => cases h
  rename_i BP hb
  simp only [af] at h
  obtain ⟨q, hq, h⟩ := h
  split at h
  case isFalse => cases h
  rename_i hc
  obtain ⟨c1, c2, c3, c4⟩ := hc
  simp only [ag] at h
  obtain ⟨r, hr, h⟩ := h
  obtain ⟨e1, e2, e3⟩ := OS hs hb r1
  obtain ⟨kt, hu, hkt⟩ := KR hq
  have ek := HC c1 r2
  have ev' := HC c2 r3
  have hchk := NH (P := c.P) (w := E.w) hkt c3 false
  have hfind := QO (P := c.P) (w := E.w) E hkt c1 e3 hr
  have hmem : ∀ (l : List (V × V)), (∀ x ∈ l, x ∈ BP ∨ x = (kv, v)) → ∀ x ∈ l, Bb x.1 = true ∧ Bb x.2 = true := fun l hl x hx => by
    rcases hl x hx with h | rfl
    · exact e3 x h
    · exact ⟨c1, c2⟩
  cases r with
  | some r =>
    obtain ⟨j, vv⟩ := r
    simp only [] at h
    subst h
    obtain ⟨n, kk, h1, h2, h3⟩ := IW BP 0 j vv hr
    have hj : j = n := by omega
    subst hj
    have hkk := Na hkt h3
    refine ⟨_, MS hs hb e2 c4 (hmem _ fun x hx => ?_), .inr ⟨?_, LK _⟩⟩
    · rcases jq hx with h | h
      · exact .inl h
      · exact .inr h
    · have hst := Re (P := c.P) (w := E.w) c1
      have hes : (GB BP)[j]? = some { key := B7 kv, val := B7 vv, born := j } := by rw [HK, h2, hkk]; rfl
      have hset := On BP j kv v (fun e => { e with key := B7 kv, val := B7 v }) (fun _ _ => rfl)
      simp only [execOp, ho, Instr.mapUpdate, e1, ek, ev', Sem.run_bind, run_underlying hu, Result.andThen_ok, Go.MapKept.run_getObj_map e2, Sem.run_pure, hchk, hfind, aj, hes, ec, hst, Go.MapKept.run_setObj_map _ e2]
      rw [hset]
      show _ = Result.ok _ ({ E.w with heap := E.w.heap.setIfInBounds (E.φ b) (.map (GB (BP.set j (kv, v))) (BP.set j (kv, v)).length) })
      rw [bp]
  | none =>
    simp only [] at h
    subst h
    refine ⟨_, MS hs hb e2 c4 (hmem _ fun x hx => ?_), .inr ⟨?_, LK _⟩⟩
    · rcases aq.1 hx with h | h
      · exact .inl h
      · exact .inr (bh.1 h)
    · have hpush := RB BP kv v
      simp only [execOp, ho, Instr.mapUpdate, e1, ek, ev', Sem.run_bind, run_underlying hu, Result.andThen_ok, Go.MapKept.run_getObj_map e2, Sem.run_pure, hchk, hfind, iq, Go.MapKept.run_setObj_map _ e2]
      rw [hpush]
      show _ = Result.ok _ ({ E.w with heap := E.w.heap.setIfInBounds (E.φ b) (.map (GB (BP ++ [(kv, v)])) (BP ++ [(kv, v)]).length) })
      rw [an]
      rfl
theorem UK {E : Ab} {z : V} {u : cb} {i : Nat} (h : AB E z u) : AB E (.GS [z, .int .i64 i]) (.tuple #[u, .int .i64 i]) := by
 simp only [AB]
 refine ⟨_, rfl, ?_⟩
 simp only [AU, AB]
 exact ⟨_, _, rfl, h, _, _, rfl, rfl, rfl⟩
theorem U3 (hs : Cy c E S a) {t : ao} {x k : au} {m kv v : V} {H' : A6} (ho : o.op = .mapEntry t x k) (hx : ev S.T x = some m) (hk : ev S.T k = some kv) (h : Jj c t S.H m kv = some (v, H')) : HE c E a o v H' := by
  have r1 := BD hs x _ hx
  have r2 := BD hs k _ hk
  unfold Jj at h
  split at h
  case h_2 => cases h
  rename_i b
  split at h
  case h_2 => cases h
  rename_i BP hb
  simp only [af] at h
  obtain ⟨q, hq, h⟩ := h
  split at h
  case isFalse => cases h
  rename_i hc
  obtain ⟨c1, c3, c4⟩ := hc
  simp only [af] at h
  obtain ⟨r, hr, h⟩ := h
  obtain ⟨e1, e2, e3⟩ := OS hs hb r1
  obtain ⟨kt, hu, hkt⟩ := KR hq
  have ek := HC c1 r2
  have hchk := NH (P := c.P) (w := E.w) hkt c3 false
  have hfind := QO (P := c.P) (w := E.w) E hkt c1 e3 hr
  cases r with
  | some r =>
    obtain ⟨j, vv⟩ := r
    simp only [ab, ah] at h
    obtain ⟨rfl, rfl⟩ := h
    obtain ⟨n, kk, h1, h2, h3⟩ := IW BP 0 j vv hr
    have hj : j = n := by omega
    subst hj
    have hkk := Na hkt h3
    have hpl := (e3 _ (bj h2)).2
    have hA := MS (kvs' := BP.set j (kv, vv)) hs hb e2 c4 (fun x hx => by
      rcases jq hx with h | h
      · exact e3 x h
      · subst h; exact ⟨c1, hpl⟩)
    refine ⟨_, hA, .inl ⟨.tuple #[B7 vv, .int .i64 j], ?_, UK (KU _ hpl)⟩⟩
    have hst := Re (P := c.P) (w := E.w) c1
    have hes : (GB BP)[j]? = some { key := B7 kv, val := B7 vv, born := j } := by rw [HK, h2, hkk]; rfl
    have hset := On BP j kv vv (fun e => { e with key := B7 kv }) (fun x hx => by rw [h2] at hx; cases hx; rfl)
    simp only [execOp, ho, Instr.mapEntry, e1, ek, Sem.run_bind, run_underlying hu, Result.andThen_ok, Go.MapKept.run_getObj_map e2, Sem.run_pure, hchk, hfind, aj, hes, ec, hst, Go.MapKept.run_setObj_map _ e2]
    rw [hset]
    show _ = Result.ok _ ({ E.w with heap := E.w.heap.setIfInBounds (E.φ b) (.map (GB (BP.set j (kv, vv))) (BP.set j (kv, vv)).length) })
    rw [bp]
    rfl
  | none =>
    simp only [af] at h
    obtain ⟨z, hz, h⟩ := h
    split at h
    case isFalse => cases h
    rename_i hzp
    simp only [ab, ah] at h
    obtain ⟨rfl, rfl⟩ := h
    obtain ⟨zx, hzr, hzo⟩ := Rq hz E.w
    have ez : zx = B7 z := HC hzp (I7 E zx z hzo)
    have hA := MS (kvs' := BP ++ [(kv, z)]) hs hb e2 c4 (fun x hx => by
      rcases aq.1 hx with h | h
      · exact e3 x h
      · rw [bh.1 h]; exact ⟨c1, hzp⟩)
    refine ⟨_, hA, .inl ⟨.tuple #[zx, .int .i64 BP.length], ?_, UK (by rw [ez]; exact KU _ hzp)⟩⟩
    have hpush := RB BP kv z
    rw [← ez] at hpush
    simp only [execOp, ho, Instr.mapEntry, e1, ek, Sem.run_bind, run_underlying hu, Result.andThen_ok, Go.MapKept.run_getObj_map e2, Sem.run_pure, hchk, hfind, iq, hzr, Go.MapKept.run_setObj_map _ e2]
    rw [hpush]
    show _ = Result.ok _ ({ E.w with heap := E.w.heap.setIfInBounds (E.φ b) (.map (GB (BP ++ [(kv, z)])) (BP ++ [(kv, z)]).length) })
    rw [an]
    rfl
theorem U2 (hs : Cy c E S a) {t : ao} {x st y : au} {m sv v : V} {H' : A6} (ho : o.op = .entryStore t x st y) (hx : ev S.T x = some m) (hst : ev S.T st = some sv) (hy : ev S.T y = some v) (h : Ol c S.H m sv v = some H') : HE c E a o Ck H' := by
 have r1 := BD hs x _ hx
 have r2 := BD hs st _ hst
 have r3 := BD hs y _ hy
 unfold Ol at h
 split at h
 case h_2 => cases h
 rename_i b kd i
 split at h
 case h_2 => cases h
 rename_i BP hb
 split at h
 case isFalse => cases h
 rename_i hc
 obtain ⟨c1, c2, c4⟩ := hc
 simp only [ag] at h
 obtain ⟨e, he, rfl⟩ := h
 obtain ⟨e1, e2, e3⟩ := OS hs hb r1
 simp only [AB] at r2
 have ev' := HC c2 r3
 have hel := e3 _ (bj he)
 have hA := MS (kvs' := BP.set i.toNat (e.1, v)) hs hb e2 c4 (fun x hx => by
  rcases jq hx with h | h
  ·exact e3 x h
  ·subst h; exact ⟨hel.1, c2⟩)
 refine ⟨_, hA, .inr ⟨?_, LK _⟩⟩
 have hlt := (ak.1 he).1
 have hfi : (GB BP).findIdx? (fun e => (e.born : Int) == i) = some i.toNat := by
  rw [Array.findIdx?_eq_some_iff_getElem]
  have hg : ∀ j (hj : j < (GB BP).size), (GB BP)[j].born = j := by
   intro j hj
   have h1 := HK BP j
   rw [gf hj] at h1
   have hj' : j < BP.length := by rw [← MY]; exact hj
   rw [ae hj'] at h1
   simp only [aj, ab] at h1
   rw [h1]
  refine ⟨by rw [MY]; exact hlt, ?_, fun j hj => ?_⟩
  ·rw [hg]
   simp only [beq_iff_eq]
   omega
  ·rw [hg]
   simp only [beq_iff_eq]
   omega
 have hset := On BP i.toNat e.1 v (fun e => { e with val := B7 v }) (fun x hx => by rw [he] at hx; cases hx; rfl)
 simp only [execOp, ho, Instr.entryStore, e1, r2, ev', asInt, asIntOf, Sem.run_bind, Result.andThen_ok, Go.MapKept.run_getObj_map e2, Sem.run_pure, hfi, Go.MapKept.run_setObj_map _ e2]
 rw [hset]
 show _ = Result.ok _ ({ E.w with heap := E.w.heap.setIfInBounds (E.φ b) (.map (GB (BP.set i.toNat (e.1, v))) (BP.set i.toNat (e.1, v)).length) })
 rw [bp]
end
section
variable {c : Cx} {E : Ab} {S : St} {a : Act} {o : ch}
theorem KV (hs : Cy c E S a) {v : V} {u : cb} {len : Nat} (hr : AB E v u) :
  (∀ lv cs, v = .lit lv len cs → lv ≤ E.m ∧ ∃ A cap, u = .slice A len cap ∧ len ≤ cap ∧ (len = 0 ∨ ∃ g q, A = some ⟨g, q, none⟩ ∧ Ca E (some lv) g q cs)) ∧
  (∀ cs, v = .tl len cs → ∃ A cap, u = .slice A len cap ∧ len ≤ cap ∧ (len = 0 ∨ ∃ g q, A = some ⟨g, q, none⟩ ∧ Ca E (some 0) g q cs)) ∧
  (∀ b cs, v = .snap b len cs → ∃ A cap, u = .slice A len cap ∧ len ≤ cap ∧ ∃ g q, A = some ⟨g, q, none⟩ ∧ Ca E (some c.d) g q cs) := by
 refine ⟨?_, ?_, ?_⟩
 ·rintro lv cs rfl
  simp only [AB] at hr
  exact hr
 ·rintro cs rfl
  simp only [AB] at hr
  obtain ⟨A, h1, h2⟩ := hr
  exact ⟨A, len, h1, al _, h2⟩
 ·rintro b cs rfl
  simp only [AB] at hr
  obtain ⟨_, ⟨A, cap, h1, h2, ⟨g, q, h3, _, h4⟩, _⟩, _⟩ := hr
  exact ⟨A, cap, h1, h2, g, q, h3, Ca.all hs.heap (by rw [hs.lk]; exact al _) h4⟩
theorem mD (hs : Cy c E S a) : c.d ≤ E.m := by rw [hs.m]; exact al _
theorem Zh (hs : Cy c E S a) {v : V} {H' : A6} (hc : Ek o = false) (h : Cb c o S = some (v, H')) : HE c E a o v H' := by
 cases ho : o.op with
 | move x =>
  simp only [Cb, ho, ag, ah] at h
  obtain ⟨_, hx, rfl, rfl⟩ := h
  exact (VH hs ho hx).makes hs
 | assign x =>
  simp only [Cb, ho, ag, ah] at h
  obtain ⟨_, hx, rfl, rfl⟩ := h
  exact (Sq hs ho hx).makes hs
 | pick k x y =>
  simp only [Cb, ho] at h
  split at h
  ·rename_i hk
   simp only [ag, ah] at h
   obtain ⟨_, hx, rfl, rfl⟩ := h
   exact (Pn hs ho hk (by simpa using hx)).makes hs
  ·rename_i hk
   simp only [ag, ah] at h
   obtain ⟨_, hx, rfl, rfl⟩ := h
   exact (Pn hs ho hk (by simpa using hx)).makes hs
  ·cases h
 | alloc t =>
  simp only [Cb, ho, af, ab, ah] at h
  obtain ⟨sz, _, z, hz, rfl, rfl⟩ := h
  exact U1 hs ho hz
 | box t x =>
  simp only [Cb, ho, af] at h
  obtain ⟨sz, _, w, hw, h⟩ := h
  split at h
  ·rename_i hcell
   simp only [ab, ah] at h
   obtain ⟨rfl, rfl⟩ := h
   exact Xm hs ho hw hcell
  ·cases h
 | build t parts =>
  simp only [Cb, ho, af, ag, ah] at h
  obtain ⟨ps, hp, z, hz, pl, hpl, _, ⟨cs, hcs, rfl⟩, rfl, rfl⟩ := h
  exact (Tr hs ho hp hz hpl hcs).makes hs
 | buildSlice t n parts =>
  simp only [Cb, ho, af] at h
  obtain ⟨ps, hp, ⟨ps', H1⟩, hem, e, he, sz, hsz, z, hz, h⟩ := h
  split at h
  ·rename_i hcond
   obtain ⟨h1, h2, h3⟩ := hcond
   simp only [ag, ah] at h
   obtain ⟨cs, hcs, rfl, rfl⟩ := h
   exact N5 hs ho hp hem he hsz hz h1 h2 h3 hcs
  ·cases h
 | load t x =>
  simp only [Cb, ho, af, ag, ah] at h
  obtain ⟨p, hp, _, hl, rfl, rfl⟩ := h
  exact (VG hs ho hp hl).makes hs
 | store t p x =>
  simp only [Cb, ho, af, ag, ah] at h
  obtain ⟨P, hp, X, hx, H1, h1, rfl, rfl⟩ := h
  exact U4 hs ho hp hx h1
 | nilCheck x =>
  simp only [Cb, ho] at h
  split at h
  ·rename_i hx
   simp only [aj, ab, ah] at h
   obtain ⟨rfl, rfl⟩ := h
   exact (L8 hs ho hx).makes hs
  ·rename_i hx
   simp only [aj, ab, ah] at h
   obtain ⟨rfl, rfl⟩ := h
   exact (Lv hs ho hx).makes hs
  ·cases h
 | binOp op t x y t2 =>
  simp only [Cb, ho, af, ag, ah] at h
  obtain ⟨p, hp, q, hq, _, hb, rfl, rfl⟩ := h
  exact (Tq hs ho hp hq hb).makes hs
 | unOp op t x =>
  simp only [Cb, ho, af, ag, ah] at h
  obtain ⟨p, hp, _, hb, rfl, rfl⟩ := h
  exact (VI hs ho hp hb).makes hs
 | convert src dst x =>
  simp only [Cb, ho] at h
  split at h
  ·rename_i h1 h2 h3
   simp only [aj, ab, ah] at h
   obtain ⟨rfl, rfl⟩ := h
   exact (Ql hs ho h1 h2 h3).makes hs
  ·rename_i e n cs h1 h2 h3
   split at h
   ·rename_i hn
    obtain ⟨rfl, he⟩ := hn
    simp only [ag, ah] at h
    obtain ⟨_, ⟨s, hb, rfl⟩, rfl, rfl⟩ := h
    unfold rU at he
    split at he
    ·rename_i he'
     exact (KZ hs ho h1 h2 he' h3 hb).makes hs
    ·cases he
   ·cases h
  ·cases h
 | makeFunc fn first caps =>
  simp only [Cb, ho] at h
  split at h
  case h_2 => cases h
  rename_i f hf
  have hf' : first = #[] := by apply jc; simpa using hf
  subst hf'
  simp only [af, aj, ab, ah] at h
  obtain ⟨vs, hvs, rfl, rfl⟩ := h
  exact (Pm hs ho hvs).makes hs
 | makeSlice t n m =>
  simp only [Cb, ho, af] at h
  obtain ⟨N, hn, M, hm, h⟩ := h
  exact VX hs ho hn hm h
 | slice t x lo hi mx =>
  cases mx with
  | none =>
   simp only [Cb, ho, af] at h
   obtain ⟨w, hx, n, hn, l, hl, r, hr, e, he, sz, hsz, h⟩ := h
   split at h
   case isFalse => cases h
   rename_i hc
   obtain ⟨h1, h2⟩ := hc
   have hrx := BD hs x _ hx
   split at h
   ·simp only [aj, ab, ah, Ct] at h hn
    subst hn
    obtain ⟨rfl, rfl⟩ := h
    obtain ⟨k0, A, cap, k1, k2, k3⟩ := (KV hs hrx).1 _ _ rfl
    exact (Gq hs ho he hsz k0 k1 k2 k3 hl hr h1 h2).makes hs
   ·simp only [aj, ab, ah, Ct] at h hn
    subst hn
    obtain ⟨rfl, rfl⟩ := h
    obtain ⟨A, cap, k1, k2, k3⟩ := (KV hs hrx).2.1 _ rfl
    exact (Gq hs ho he hsz (dq _) k1 k2 k3 hl hr h1 h2).makes hs
   ·simp only [aj, ab, ah, Ct] at h hn
    subst hn
    obtain ⟨rfl, rfl⟩ := h
    obtain ⟨A, cap, k1, k2, k3⟩ := (KV hs hrx).2.2 _ _ rfl
    exact (Gq hs ho he hsz (mD hs) k1 k2 (.inr k3) hl hr h1 h2).makes hs
   ·simp only [aj, ab, ah, Ct] at h hn
    subst hn
    obtain ⟨rfl, rfl⟩ := h
    exact (Po hs ho he hsz hx hl hr h1 h2).makes hs
   ·cases h
  | some mx =>
   simp only [Cb, ho] at h
   split at h
   case h_2 => cases h
   rename_i hi
   simp only [af] at h
   obtain ⟨w, hx, n, hn, e, he, sz, hsz, h⟩ := h
   split at h
   case h_2 => cases h
   rename_i k i k' j h1 h2
   split at h
   case isFalse => cases h
   rename_i hc
   obtain ⟨rfl, rfl⟩ := hc
   simp only [aj, ab, ah] at h
   obtain ⟨rfl, rfl⟩ := h
   exact (Sv hs ho he hsz hx hn h1 h2).makes hs
 | fieldAddr s x f =>
  simp only [Cb, ho, af] at h
  obtain ⟨off, hoff, h⟩ := h
  split at h
  ·rename_i hx
   simp only [aj, ab, ah] at h
   obtain ⟨rfl, rfl⟩ := h
   exact (Ka hs ho hoff hx).makes hs
  ·rename_i hx
   simp only [aj, ab, ah] at h
   obtain ⟨rfl, rfl⟩ := h
   exact (L7 hs ho hoff hx).makes hs
  ·cases h
 | field s x f =>
  simp only [Cb, ho, af] at h
  obtain ⟨off, hoff, h⟩ := h
  split at h
  case h_2 => cases h
  rename_i fs hfs
  split at h
  case h_2 => cases h
  rename_i g cs hg hx
  simp only [ag, ah] at h
  obtain ⟨_, hr, rfl, rfl⟩ := h
  exact (Ts hs ho hoff hfs hg hx hr).makes hs
 | indexAddr t x i =>
  simp only [Cb, ho, af] at h
  obtain ⟨e, he, sz, hsz, w, hx, h⟩ := h
  split at h
  case h_2 => cases h
  rename_i k n hi
  simp only [af] at h
  obtain ⟨len, hn, h⟩ := h
  split at h
  case isFalse => cases h
  rename_i hc
  obtain ⟨h0, h1⟩ := hc
  have hrx := BD hs x _ hx
  have hri := BD hs i _ hi
  simp only [AB] at hri
  have hpos : ¬ len = 0 := by omega
  split at h
  ·simp only [aj, ab, ah, Ct] at h hn
   subst hn
   obtain ⟨rfl, rfl⟩ := h
   obtain ⟨k0, A, cap, k1, k2, k3⟩ := (KV hs hrx).1 _ _ rfl
   exact (Gp ho he hsz k0 k1 (k3.resolve_left hpos) hri h0 h1).makes hs
  ·simp only [aj, ab, ah, Ct] at h hn
   subst hn
   obtain ⟨rfl, rfl⟩ := h
   obtain ⟨A, cap, k1, k2, k3⟩ := (KV hs hrx).2.1 _ rfl
   exact (Gp ho he hsz (dq _) k1 (k3.resolve_left hpos) hri h0 h1).makes hs
  ·simp only [aj, ab, ah, Ct] at h hn
   subst hn
   obtain ⟨rfl, rfl⟩ := h
   obtain ⟨A, cap, k1, k2, k3⟩ := (KV hs hrx).2.2 _ _ rfl
   exact (Gp ho he hsz (mD hs) k1 k3 hri h0 h1).makes hs
  ·simp only [aj, ab, ah, Ct] at h hn
   subst hn
   obtain ⟨rfl, rfl⟩ := h
   exact (Pl hs ho he hsz hx hi h0 h1).makes hs
  ·cases h
 | index t x i =>
  simp only [Cb, ho] at h
  split at h
  case h_2 => cases h
  rename_i ht hx hi
  split at h
  case isFalse => cases h
  rename_i h0
  simp only [ag, ah] at h
  obtain ⟨_, ⟨b, hb, rfl⟩, rfl, rfl⟩ := h
  exact (Ss hs ho ht hx hi h0 hb).makes hs
 | extract x i =>
  simp only [Cb, ho] at h
  split at h
  case h_2 => cases h
  rename_i vs hx
  simp only [ag, ah] at h
  obtain ⟨_, hv, rfl, rfl⟩ := h
  exact (Qm hs ho hx hv).makes hs
 | call k =>
  obtain ⟨callee, args, ats⟩ := k
  cases callee with
  | value f => simp [Ek, ho] at hc
  | invoke r n => simp [Cb, ho] at h
  | builtin b =>
   cases b with
   | len =>
    simp only [Cb, ho] at h
    split at h
    case h_2 => cases h
    rename_i x t ha ht
    split at h
    ·rename_i h1 h2
     simp only [aj, ab, ah] at h
     obtain ⟨rfl, rfl⟩ := h
     exact (VF hs ho ha ht h1 h2).makes hs
    ·rename_i h1 h2
     simp only [af, aj, ab, ah] at h
     obtain ⟨n, hn, rfl, rfl⟩ := h
     exact (Xc hs ho ha ht h1 h2 hn).makes hs
    ·cases h
   | append =>
    simp only [Cb, ho] at h
    split at h
    case h_2 => cases h
    rename_i s x st xt ha ht
    simp only [af] at h
    obtain ⟨p, hp, q, hq, h⟩ := h
    exact T3 hs ho ha ht hp hq h
   | min =>
    simp only [Cb, ho] at h
    split at h
    case h_2 => cases h
    rename_i x y ha
    split at h
    case h_2 => cases h
    rename_i hx hy
    simp only [aj, ab, ah] at h
    obtain ⟨rfl, rfl⟩ := h
    exact (Xe hs ho ha hx hy).makes hs
   | max =>
    simp only [Cb, ho] at h
    split at h
    case h_2 => cases h
    rename_i x y ha
    split at h
    case h_2 => cases h
    rename_i hx hy
    simp only [aj, ab, ah] at h
    obtain ⟨rfl, rfl⟩ := h
    exact (Xd hs ho ha hx hy).makes hs
   | _ => simp [Cb, ho] at h
 | makeMap t r =>
  cases r with
  | none =>
   simp only [Cb, ho, ab, ah] at h
   obtain ⟨rfl, rfl⟩ := h
   exact Qq hs ho
  | some r => simp [Cb, ho] at h
 | lookup t x k ok =>
  simp only [Cb, ho, af, ag, ah] at h
  obtain ⟨m, hm, kv, hk, w, hw, rfl, rfl⟩ := h
  exact (Su hs ho hm hk hw).makes hs
 | mapUpdate t x k y =>
  simp only [Cb, ho, af, ag, ah] at h
  obtain ⟨m, hm, kv, hk, w, hw, H1, h1, rfl, rfl⟩ := h
  exact T4 hs ho hm hk hw h1
 | mapEntry t x k =>
  simp only [Cb, ho, af] at h
  obtain ⟨m, hm, kv, hk, h⟩ := h
  exact U3 hs ho hm hk h
 | entryStore t x st y =>
  simp only [Cb, ho, af, ag, ah] at h
  obtain ⟨m, hm, sv, hsv, w, hw, H1, h1, rfl, rfl⟩ := h
  exact U2 hs ho hm hsv hw h1
 | _ => simp [Cb, ho] at h
end
end Go.Proofs.YtphpkphklegfeaaGreat.K
